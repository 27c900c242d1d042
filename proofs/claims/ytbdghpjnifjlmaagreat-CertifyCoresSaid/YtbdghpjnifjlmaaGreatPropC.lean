/- Layer 6: the statements PropSound and PropNobody. -/
import Derived.Test.YtbdghpjnifjlmaaGreatPropB
import Derived.Test.YtbdghpjnifjlmaaGreatFwRead
import Derived.Test.YtbdghpjnifjlmaaGreatFwMem
import Derived.Maps.OwnSet
import Derived.Test.YtbdghpjnifjlmaaGreatSortA
import Derived.Test.YtbdghpjnifjlmaaGreatQuotaA
set_option linter.unusedVariables false
namespace Go.Proofs.YtbdghpjnifjlmaaGreat.W
open Go Go.Fw Go.RowKit Go.SoP Go.LiP
section
variable {w w' w0 w2 w3:World} {b:Nat} {H H' H2:Pt->Sl} {s t u s' T:aI} {p cp gp dp ap:sn} {hs:List Sl} {cs:List (List Int)} {gl:List Bool} {dl c m:List Int} {cn cc gn gc dn dc an ac:Nat} {v:Int}
theorem yo {n:Nat} {l:Int} (hn:n<=1048576) (h:dN n l):bU l=true:=by
 have:=(jc hn).2 h;unfold BV at this;simp only [ts] at this;exact this.1
end
section
variable {w w' w0 w2 w3:World} {b:Nat} {H H' H2:Pt->Sl} {s t u s' T:aI} {p cp gp dp ap:sn} {hs:List Sl} {cs:List (List Int)} {gl:List Bool} {dl c m:List Int} {cn cc gn gc dn dc an ac:Nat} {v:Int}
theorem Cf (l:Int):(s.decide l).R .tr=s.R .tr++ [l]:=by
 unfold aI.decide;rw [sF];unfold aI.kL;rw [ao (by simp),ao (by simp)]
end
section
variable {cs:List (List Int)} {c d T T':List Int} {κ:Int->Int}
def P7 (T:List Int):Prop:=∀x∈T,-x ∉ T
def Rs (cs:List (List Int)) (T:List Int):Prop:=∀c∈cs,cu c T=false/\cI c T=0
def NZ (cs:List (List Int)):Prop:=∀c∈cs,∀x∈c,x≠0
def pM (c:List Int):List Int:=c.map λx=> -x
theorem pQ {x:Int}:x∈pM c↔ -x∈c:=by
 unfold pM;rw [L0];exact ⟨λ⟨y,I,e⟩=>by rw [<- e,U_];exact I,λh=>⟨-x,h,U_ x⟩⟩
theorem Dy (h:zY cs d T):∀x∈d,x∈T:=by
 induction h with
 |refl=>exact λ_ h=>h
 |step _ _ _ ih=>exact λx I=>UW _ (ih x I)
theorem ES (h:∀x∈T,x∈T') (hb:cu c T=true):cu c T'=true:=cx.2 λx I=>h _ (cx.1 hb x I)
theorem LA (Q:∀x∈c,x≠0) (h1:cu c T'=false) (O:cI c T'=0) (U:P7 T') (hs:∀x∈T,x∈T') (hu:cI c T≠0):cI c T∈T':=by
 obtain ⟨a1,a2,a3,a4⟩:=mW Q hu;rcases XF (cI c T∈T') with h|h
 . exact h
 . exfalso;have hn: -(cI c T) ∉ T':=λe=>by
    rw [<- U5,cx] at h1;exact h1 λy J=> (a4 y J).elim (λI=>by rw [I];exact e) λI=>hs _ I
   have:=nU (t:=T') (l:=cI c T) hu hn c 0 (λy J=>by
    rcases a4 y J with e|e
    . exact ⟨by rw [e];exact h,.inl e⟩
    . exact ⟨λI=>U y I (hs _ e),.inr (hs _ e)⟩) (.inr ⟨rfl,a1⟩)
   unfold cI at O;rw [O] at this;exact hu this.symm
theorem PR (V:NZ cs) (Q:Rs cs T') (Y:P7 T') (U:∀x∈d,x∈T') (h:zY cs d T):∀x∈T,x∈T':=by
 induction h with
 |refl=>exact U
 |step h1 J X O=>
  intro x I;rcases F'.1 I with I|I
  . exact O x I
  . rw [Bs] at I;rw [I];exact LA (V _ J) (Q _ J).1 (Q _ J).2 Y O X
theorem CL (J:NZ cs) (Q:P7 d) (h:zY cs d T):P7 T:=by
 induction h with
 |refl=>exact Q
 |step h1 h2 h3 O=>
  rename_i t c;obtain ⟨_,a2,a3,_⟩:=mW (J _ h2) h3;intro x I e;rcases F'.1 I with I|I
  . rcases F'.1 e with e|e
    . exact O x I e
    . rw [Bs] at e;exact a3 (by rw [<- e,U_];exact I)
  . rw [Bs] at I;rcases F'.1 e with e|e
    . rw [I] at e;exact a3 e
    . rw [Bs] at e;omega
def Cj (cs:List (List Int)) (T:List Int):Nat:=(cs.filter λc=> !c.any λx=>decide (x∈T)).length
theorem uk (Q:NZ cs) (O:c∈cs) (hu:cI c T≠0):Cj cs (T++ [cI c T])<Cj cs T:=by
 obtain ⟨a1,a2,a3,a4⟩:=mW (Q _ O) hu;unfold Cj;have I:(cs.filter λc'=> !c'.any λx=>decide (x∈T++ [cI c T])).length< (cs.filter λc'=> !c'.any λx=>decide (x∈T)).length:=by
  rw [<- W_,<- W_];have key:∀l:List (List Int),c∈l->l.countP (λc'=> !c'.any λx=>decide (x∈T++ [cI c T]))<l.countP (λc'=> !c'.any λx=>decide (x∈T)):=by
   intro l;have le:∀l:List (List Int),l.countP (λc'=> !c'.any λx=>decide (x∈T++ [cI c T]))<=l.countP (λc'=> !c'.any λx=>decide (x∈T)):=λl=>by
    refine Xa λx _ h=>?_;simp only [Wc,List.any_eq_false,decide_eq_true_eq] at h ⊢;exact λy J e=>h y J (UW _ e)
   induction l with
   |nil=>intro h;simp at h
   |cons y l V=>
    intro h;rw [Vq,Vq];rcases UI.1 h with h|h
    . subst h;have U:(!c.any λx=>decide (x∈T++ [cI c T]))=false:=by
       simp only [X2,VI,decide_eq_true_eq];exact ⟨_,a1,by simp⟩
      have X:(!c.any λx=>decide (x∈T))=true:=by
       simp only [Wc,List.any_eq_false,decide_eq_true_eq];intro y J e;obtain ⟨a,b⟩:=uG c 0 (Q _ O) hu;exact (a y J).1 e
      have:=le l;rw [U,X,if_neg (by simp),if_pos rfl];omega
    . have:=V h;have hm:(if (!y.any λx=>decide (x∈T++ [cI c T]))=true then 1 else 0)<=if (!y.any λx=>decide (x∈T))=true then 1 else 0:=by
       have:=le [y];simpa [Vq] using this
      omega
  exact key cs O
 exact I
theorem NG (cs:List (List Int)) (T:List Int):Cj cs T<=cs.length:=Vs _ _
theorem yg (O:NZ cs):∀ (n:Nat) (T:List Int),Cj cs T<=n->zY cs d T->∃T',zY cs d T'/\((∃x∈cs,cu x T'=true)\/Rs cs T'):=by
 intro n
 induction n with
 |zero=>
  intro T h J;rcases XF (∃x∈cs,cu x T=true) with hb|hb
  . exact ⟨T,J,.inl hb⟩
  . refine ⟨T,J,.inr λc I=>⟨by rw [<- U5];exact λe=>hb ⟨c,I,e⟩,?_⟩⟩;rcases XF (cI c T=0) with e|e
    . exact e
    . have:=uk O I e;omega
 |succ n ih=>
  intro T h J;rcases XF (∃x∈cs,cu x T=true) with hb|hb
  . exact ⟨T,J,.inl hb⟩
  rcases XF (∃c∈cs,cI c T≠0) with ⟨c,I,e⟩|hn
  . have:=uk O I e;exact ih _ (by omega) (.step J I e)
  . exact ⟨T,J,.inr λc I=>⟨by rw [<- U5];exact λe=>hb ⟨c,I,e⟩,UP λe=>hn ⟨c,I,e⟩⟩⟩
def uB (cs:List (List Int)) (c:List Int):Prop:=lO c=true\/∃T,zY cs (pM c) T/\∃x∈cs,cu x T=true
theorem lE:lO c=true↔∃x∈c,-x∈c:=by unfold lO;simp
theorem Ad (h:lO c=false):P7 (pM c):=by
 intro x I e;rw [<- U5,lE] at h;rw [pQ] at I e;rw [U_] at e;exact h ⟨x,e,I⟩
theorem CJ (J:NZ cs) (h:lO c=false) (U:zY cs (pM c) T) (Q:Rs cs T): ¬uB cs c:=by
 rintro (O| ⟨T',I,x,V,hb⟩)
 . rw [h] at O;cases O
 . have:=ES (PR J Q (CL J (Ad h) U) (Dy U) I) hb;rw [(Q x V).1] at this;cases this
theorem wO (O:NZ cs) (h:lO c=false) (J:zY cs (pM c) T) (V:(∃x∈cs,cu x T=true)\/Rs cs T):uB cs c↔∃x∈cs,cu x T=true:=by
 rcases V with hb|I
 . exact ⟨λ_=>hb,λ_=> .inr ⟨T,J,hb⟩⟩
 . refine ⟨λQ=>absurd Q (CJ O h J I),λ⟨x,U,hb⟩=>?_⟩;rw [(I x U).1] at hb;cases hb
theorem CB {s:aI} (g:aN s) {r:Int} (ht:TQ s r) (J:∀x,x∈cs↔s.AP x) (O:lO c=false) (h1:∀x∈c,-x∈s.R .tr) (h2:∀x∈s.vP,-x∈c):r>=0↔uB cs c:=by
 have X:NZ cs:=λx I y hy=> (g.Qv ((J x).1 I) y hy).1;obtain ⟨T,V,Z⟩:=yg (cs:=cs) (d:=pM c) X _ _ (y4 _) .refl;rw [wO X O V Z];have U:=CL X (Ad O) V;have Q:=Dy V;rcases ht with ⟨rfl,hC⟩| ⟨i,rfl,hB⟩
 . have hs:=hC.Ul g (λx I=> (J x).1 I) (λx I=>by rw [pQ] at I;have:=h1 _ I;rwa [U_] at this) V;refine ⟨λh=>by omega,λ⟨x,I,hb⟩=>?_⟩;rw [hC.JU g hs ((J x).1 I)] at hb;cases hb
 . refine ⟨λ_=>?_,λ_=>by omega⟩;rcases Z with hb|Y
   . exact hb
   . exfalso;have hs:=g.wv (T:=T) (λx I=>Q x (pQ.2 (h2 x I))) U λc hc=>Y c ((J c).2 hc);have:=(Y _ ((J _).2 ⟨i,hB.1,rfl⟩)).1;rw [<- U5,cx] at this;exact this λx I=>hs _ (hB.2 x I)
structure AU (N:Int->Prop) (κ:Int->Int):Prop where
 neg:∀x,κ (-x)= -κ x
 inj:∀x y,N x->N y->κ x=κ y->x=y
 nz:∀x,N x->κ x≠0
 sym:∀x,N x->N (-x)
 n0: ¬N 0
theorem AU.z {N:Int->Prop} (h:AU N κ):κ 0=0:=by have:=h.neg 0;simp at this;omega
theorem AU.mem {N:Int->Prop} (h:AU N κ) {x:Int} (I:N x) (O:∀y∈T,N y):κ x∈T.map κ↔x∈T:=by
 rw [L0];exact ⟨λ⟨y,J,e⟩=>by rw [<- h.inj y x (O y J) I e];exact J,λI=>⟨x,I,rfl⟩⟩
theorem AU.Ah {N:Int->Prop} (h:AU N κ) {x:Int} (I:N x) (J:∀y∈T,N y): -κ x∈T.map κ↔ -x∈T:=by rw [<- h.neg];exact h.mem (h.sym x I) J
theorem AU.Gz {N:Int->Prop} (h:AU N κ) (Q:∀y∈T,N y):∀ (c:List Int) (o:Int),(∀x∈c,N x)->(o=0\/N o)->je (T.map κ) (c.map κ) (κ o)=κ (je T c o)
 | [],o,_,_=>rfl
 |x::c,o,hc,I=>by
  have J:=hc x (UJ ..);have O:∀y∈c,N y:=λy Y=>hc y (vy _ Y);rw [Vy];unfold je;have X:κ x∈T.map κ↔x∈T:=h.mem J Q;have V:(-κ x∈T.map κ\/κ x=κ o)↔(-x∈T\/x=o):=by
   rw [h.Ah J Q];refine or_congr WK ⟨λe=>?_,λe=>by rw [e]⟩;rcases I with rfl|I
   . rw [h.z] at e;exact absurd e (h.nz x J)
   . exact h.inj x o J I e
  have U:κ o≠0↔o≠0:=by
   rcases I with rfl|I
   . rw [h.z]
   . exact ⟨λ_ e=>h.n0 (e▸I),λ_=>h.nz o I⟩
  by_cases a1:x∈T
  . rw [if_pos (X.2 a1),if_pos a1,h.z]
  . rw [if_neg (λe=>a1 (X.1 e)),if_neg a1];by_cases a2: -x∈T\/x=o
    . rw [if_pos (V.2 a2),if_pos a2];exact h.Gz Q c o O I
    . rw [if_neg (λe=>a2 (V.1 e)),if_neg a2];by_cases a3:o≠0
      . rw [if_pos (U.2 a3),if_pos a3,h.z]
      . rw [if_neg (λe=>a3 (U.1 e)),if_neg a3];exact h.Gz Q c x O (.inr J)
theorem AU.GW {N:Int->Prop} (h:AU N κ) (J:∀y∈T,N y) (I:∀x∈c,N x):cI (c.map κ) (T.map κ)=κ (cI c T):=by
 have:=h.Gz J c 0 I (.inl rfl);rw [h.z] at this;exact this
theorem AU.qZ {N:Int->Prop} (h:AU N κ) (J:∀y∈T,N y) (O:∀x∈c,N x):cu (c.map κ) (T.map κ)=cu c T:=by
 rw [Wm,cx,cx];constructor
 . intro hb x I;exact (h.Ah (O x I) J).1 (hb _ (U1 I))
 . intro hb y Q;obtain ⟨x,I,rfl⟩:=L0.1 Q;exact (h.Ah (O x I) J).2 (hb x I)
theorem AU.Is {N:Int->Prop} (h:AU N κ) (J:∀x∈c,N x):lO (c.map κ)=lO c:=by
 rw [Wm,lE,lE];constructor
 . rintro ⟨y,Q,O⟩;obtain ⟨x,I,rfl⟩:=L0.1 Q;exact ⟨x,I,(h.Ah (J x I) J).1 O⟩
 . rintro ⟨x,I,O⟩;exact ⟨κ x,U1 I,(h.Ah (J x I) J).2 O⟩
theorem LQ {N:Int->Prop} (Q:NZ cs) (J:∀c∈cs,∀x∈c,N x) (X:∀x∈d,N x) (h:zY cs d T):∀x∈T,N x:=by
 induction h with
 |refl=>exact X
 |step h1 O U V=>
  intro x I;rcases F'.1 I with I|I
  . exact V x I
  . rw [Bs] at I;rw [I];exact J _ O _ (mW (Q _ O) U).1
theorem AU.Ul {N:Int->Prop} (h:AU N κ) (O:NZ cs) (I:∀c∈cs,∀x∈c,N x) (Q:∀x∈d,N x) (U:zY cs d T):zY (cs.map (List.map κ)) (d.map κ) (T.map κ):=by
 induction U with
 |refl=>exact .refl
 |step h1 h2 h3 ih=>
  rename_i t c;have J:=LQ O I Q h1;rw [LV,WT,<- h.GW J (I _ h2)];refine .step ih (U1 h2) ?_;rw [h.GW J (I _ h2)];exact h.nz _ (I _ h2 _ (mW (O _ h2) h3).1)
theorem AU.Tk {N:Int->Prop} (h:AU N κ) (c:List Int):pM (c.map κ)=(pM c).map κ:=by
 unfold pM;rw [VU,VU];exact Vl λx _=> (h.neg x).symm
theorem AU.Uc {N:Int->Prop} (h:AU N κ) (J:∀c∈cs,∀x∈c,N x) (hc:∀x∈c,N x):uB (cs.map (List.map κ)) (c.map κ)↔uB cs c:=by
 have X:NZ cs:=λx O y Z e=>h.n0 (e▸J x O y Z);have hn:∀x∈pM c,N x:=λx O=>by rw [pQ] at O;have:=h.sym _ (hc _ O);rwa [U_] at this
 cases ht:lO c with
 |true=>exact ⟨λ_=> .inl ht,λ_=> .inl (by rw [h.Is hc];exact ht)⟩
 |false=>
  have ag:NZ (cs.map (List.map κ)):=λx O y Z=>by
   obtain ⟨x',I,rfl⟩:=L0.1 O;obtain ⟨y',ar,rfl⟩:=L0.1 Z;exact h.nz _ (J _ I _ ar)
  obtain ⟨T,Y,hT⟩:=yg (cs:=cs) (d:=pM c) X _ _ (y4 _) .refl;have Q:=LQ X J hn Y;have U:=h.Ul X J hn Y;rw [<- h.Tk] at U;rw [wO X ht Y hT];have V:(∃x∈cs.map (List.map κ),cu x (T.map κ)=true)↔∃x∈cs,cu x T=true:=by
   constructor
   . rintro ⟨x,O,hb⟩;obtain ⟨x',I,rfl⟩:=L0.1 O;exact ⟨x',I,by rwa [h.qZ Q (J _ I)] at hb⟩
   . rintro ⟨x,O,hb⟩;exact ⟨_,U1 O,by rwa [h.qZ Q (J _ O)]⟩
  rw [wO ag (by rw [h.Is hc];exact ht) U (hT.imp (λe=>V.2 e) λhE x O=>?_),V];obtain ⟨x',I,rfl⟩:=L0.1 O;rw [h.qZ Q (J _ I),h.GW Q (J _ I),(hE _ I).2,h.z];exact ⟨(hE _ I).1,rfl⟩
end
section
variable {w w' w0 w2 w3:World} {p q:sn} {n m c d:Nat} {l t T:List Int} {hs:List Sl} {cs:List (List Int)}
theorem nF {x:Int} (h:bU x=true): -1048576<=x/\x<=1048576:=by
 unfold bU at h;simp only [decide_eq_true_eq] at h;exact ⟨h.2.1,h.2.2⟩
theorem qL {x:Int} (h:bU x=true):x≠0:=by
 unfold bU at h;simp only [decide_eq_true_eq] at h;exact h.1
theorem Aj (V:V2 sT w p hs cs) (hn:n=cs.length) (hx:n<=90000) (ht:Vw sT w q t) (hm:m=t.length) (c0:m<=100000) (az:∀c∈cs,∀x∈c,bU x=true):
 Calls Tryz.prog eC.id #[.slice p n c,.slice q m d] w λe w'=>∃ (T:List Int) (br:Bool) (q2:sn) (d2:Nat),e=.returned (.tuple #[.slice q2 T.length d2,.bool br])/\dz aq w' q2 d2 T/\zY cs t T/\
  (br=true->∃c∈cs,cu c T=true)/\(br=false->∀c∈cs,cu c T=false/\cI c T=0)/\ak w w'/\∀b,aG q2=some b->w.heap.size<=b:=by
 have hz:NZ cs:=λc V x hx=>qL (az c V x hx);refine eC.aj ?_;intro n1 w2 h2;have e1:=h2.num;have ov:dz aq w2 (some ⟨n1,0,none⟩) 0 []:=jI.Ap h2;refine jH (W0:=w) ov h2.mod (λb hb=>by have:=aL hb;omega) (ht.grow h2.mod) rfl hm (by simp;omega) λw3 p3 c3 o3 g3 f3=>?_;rw [Vh] at o3 ⊢;refine ⟨λP N C J u z=>∃ (j:Nat) (T:List Int),J=j/\N=T.length/\z=cs.length - j/\T.length=t.length+j/\j+Cj cs T<=cs.length/\zY cs t T/\dz aq u P C T/\(∀b,aG P=some b->w.heap.size<=b)/\ak w u,⟨_,0,t,rfl,rfl,rfl,rfl,by have:=NG cs t;omega,.refl,o3,f3,g3⟩,?_⟩;rintro P N C J bn z _ ⟨j,T,rfl,rfl,rfl,b8,c1,hF,oT,fT,gT⟩;have a7:=oT.vw;have aT:T.length<=maxLen:=by unfold maxLen;omega
 refine bP (by rw [decide_eq_true_eq];omega) ?_;refine ⟨λX I u z=>∃i:Nat,I=i/\i<=cs.length/\z=cs.length - i/\ak bn u/\(∀c∈cs.take i,cu c T=false)/\((X=0/\∀c∈cs.take i,cI c T=0)\/(X≠0/\∃c∈cs,X=cI c T)),
  ⟨_,0,rfl,vx _,rfl,aD.refl _,λc V=>by simp at V,.inl ⟨rfl,λc V=>by simp at V⟩⟩,?_⟩
 rintro X I ce z _ ⟨i,rfl,hi,rfl,O,ag,Q⟩;have ax:=V.grow (gT.trans O);refine ah (λr=>?_) (λr=>?_)
 . have r:i<cs.length:=by rw [hn] at r;simpa using r
   have Z:cs.getD i []∈cs:=by simp [List.getD,r]
   have aw:∀x∈cs.getD i [],-1048576<=x/\x<=1048576:=λx hx=>nF (az _ Z x hx);have tk:∀c,c∈cs.take (i+1)↔c∈cs.take i\/c=cs.getD i []:=λc=>by
    rw [UR,F'];simp [List.getD,r]
   refine ax.ix (by omega) hn (by omega) λa sl k1 k0 k2 k3 k4=>⟨_,_,_,k1,?_⟩
   rw [tn] at k2 k4;refine (Dd k4 k2 k3 (a7.grow O) rfl aT aw).mono ?_;rintro e b6 ⟨rfl,Y⟩;refine ⟨_,rfl,?_⟩;cases hb:cu (cs.getD i []) T with
   |true=>
    refine bP rfl ⟨T,true,_,_,rfl,oT.grow (O.trans Y),hF,λ_=>⟨_,Z,hb⟩,λh=> (by cases h),gT.trans (O.trans Y),fT⟩
   |false=>
    refine bA rfl (ah (λU=>?_) (λU=>?_))
    . have U:X=0:=by simpa using U
      refine (ax.grow Y).ix (by omega) hn (by omega) λa sl k1 k0 k2 k3 k4=>⟨_,_,_,k1,?_⟩
      rw [tn] at k2 k4;refine (GK k4 k2 k3 (a7.grow (O.trans Y)) rfl aT aw).mono ?_;rintro e b_ ⟨rfl,bf⟩;refine ⟨_,rfl,_,?_,i+1,wN,r,rfl,O.trans (Y.trans bf),λc V=>?_,?_⟩
      . omega
      . rcases (tk c).1 V with h|h
        . exact ag c h
        . rw [h];exact hb
      . by_cases e0:cI (cs.getD i []) T=0
        . refine .inl ⟨e0,λc V=>?_⟩;rcases (tk c).1 V with h|h
          . rcases Q with Q|Q
            . exact Q.2 c h
            . exact absurd U Q.1
          . rw [h];exact e0
        . exact .inr ⟨e0,_,Z,rfl⟩
    . have U:X≠0:=by simpa using U
      refine ⟨_,?_,i+1,wN,r,rfl,O.trans Y,λc V=>?_,?_⟩
      . omega
      . rcases (tk c).1 V with h|h
        . exact ag c h
        . rw [h];exact hb
      . rcases Q with Q|Q
        . exact absurd Q.1 U
        . exact .inr Q
 . have r:i=cs.length:=by rw [hn] at r;simp at r;omega
   subst r;rw [K'] at ag;refine ah (λU=>?_) (λU=>?_)
   . have U:X=0:=by simpa using U
     refine ⟨T,false,_,_,rfl,oT.grow O,hF,λh=> (by cases h),λ_ c V=>⟨ag c V,?_⟩,gT.trans O,fT⟩;rcases Q with Q|Q
     . rw [K'] at Q;exact Q.2 c V
     . exact absurd U Q.1
   . have U:X≠0:=by simpa using U
     obtain ⟨_,c,a6,aa⟩:=Q.resolve_left λh=>U h.1;have bi:zY cs t (T++ [X]):=by rw [aa];exact .step hF a6 (by rw [<- aa];exact U)
     have ar:=uk (T:=T) hz a6 (by rw [<- aa];exact U);rw [<- aa] at ar;intro n25 b' av;have bg:=(gT.trans O).trans av.mod;refine jH (W0:=w) ((oT.grow O).grow av.mod) bg fT (MG av) rfl rfl (by simp;omega) λco cb cT bY b5 f27=>?_;refine ⟨_,?_,j+1,T++ [X],wN,rfl,rfl,by simp;omega,by omega,bi,bY,f27,b5⟩;omega
theorem EK {k:List Int} (hc:V2 sT w p hs cs) (hn:n=cs.length) (U:n<=90000) (O:∀c∈cs,∀x∈c,bU x=true) (hk:Vw sT w q k) (hm:m=k.length) (bb:m<=100000) (Q:∀x∈k,bU x=true):
 Calls Tryz.prog il.id #[.slice p n c,.slice q m d] w λe w'=>∃r:Bool,e=.returned (.bool r)/\(r=true↔uB cs k)/\ak w w':=by
 have hz:NZ cs:=λc hc x U=>qL (O c hc x U);refine il.aj ((GN hk hm (by unfold maxLen;omega) Q).mono ?_);rintro e w1 ⟨rfl,g1⟩;refine ⟨_,rfl,ah (λr=>⟨true,rfl,⟨λ_=> .inl r,λ_=>rfl⟩,g1⟩) (λV=>?_)⟩;intro n3 w4 Y;have e3:=Y.num;have g4:=g1.trans Y.mod;have s1:=g1.size;refine ⟨λP N C I u z=>∃i:Nat,I=i/\i<=k.length/\z=k.length - i/\N=i/\dz aq u P C (pM (k.take i))/\(∀b,aG P=some b->w.heap.size<=b)/\ak w u,⟨_,0,rfl,vx _,rfl,rfl,jI.Ap Y,λb hb=>by have:=aL hb;omega,g4⟩,?_⟩;rintro P N C I u z _ ⟨i,rfl,hi,rfl,hN,o,f,g⟩;have hlen:(pM (k.take i)).length=i:=by unfold pM;simp;omega
 refine ah (λr=>?_) (λr=>?_)
 . have r:i<k.length:=by rw [hm] at r;simpa using r
   refine (hk.grow g).ix 0 (by omega) hm (by omega) λa e=>⟨_,e,?_⟩
   rw [tn];have hb:=nF (Q _ (bE r));try dsimp only
   rw [nw _ hb];intro bc a_ J;refine jH (W0:=w) (o.grow J.mod) (g.trans J.mod) f (MG J) (hN.trans hlen.symm) rfl (by rw [hlen];simp;omega) λa' a8 ay Z aa f15=>?_;have ar:pM (k.take (i+1))=pM (k.take i)++ [-(k.getD i 0)]:=by
    unfold pM;rw [UR,LV];simp [List.getD,r]
   refine ⟨_,by omega,i+1,wN,r,rfl,by rw [UH,hlen];rfl,by rw [ar];exact Z,f15,aa⟩
 . have r:i=k.length:=by rw [hm] at r;simp at r;omega
   subst r;rw [K'] at o hlen;refine (Aj (hc.grow g) hn U o.vw (hN.trans hlen.symm) (by omega) O).mono ?_;rintro e a7 ⟨T,br,q2,d2,rfl,oT,hF,h1,h2,X,_⟩;refine ⟨_,_,_,_,rfl,br,rfl,?_,g.trans X⟩;rw [wO hz V hF (by
    cases br with
    |true=>exact .inl (h1 rfl)
    |false=>exact .inr (h2 rfl))]
   cases br with
   |true=>exact ⟨λ_=>h1 rfl,λ_=>rfl⟩
   |false=>exact ⟨λe=> (by cases e),λ⟨x,U,hb⟩=>by rw [(h2 rfl x U).1] at hb;cases hb⟩
def wk (k c:List Int):List Int:=k++wo c (-(k.getD 0 0))
def fB (cs:List (List Int)) (k:List Int):Prop:=k≠[]/\∀c∈cs,-(k.getD 0 0)∈c->(wk k c).length<=4096/\uB cs (wk k c)
end
end Go.Proofs.YtbdghpjnifjlmaaGreat.W
namespace Go.Fw
open Go Go.RowKit Go.MapKept
variable {P:Program} {α:Type} {g:α->Value} {t k e:TypeId} {w w':World} {b:Nat} {m:List (Int × α)}
def CF (P:Program) (t k e:TypeId):Bool:=
 (match P.underlying t with|some (.map J I)=>Nat.beq J k && Nat.beq I e|_=>false) && (match P.underlying k with|some (.int .i64)=>true|_=>false)
theorem qm (h:CF P t k e=true):P.underlying t=some (.map k e)/\P.underlying k=some (.int .i64):=by
 simp only [CF,ts] at h;obtain ⟨h1,I⟩:=h;constructor
 . split at h1
   . rename_i O J hu;simp only [ts] at h1;rw [hu,UG h1.1,UG h1.2]
   . simp at h1
 . split at I
   . assumption
   . simp at I
def al (m:List (Int × α)) (a:Int):Option α:=(m.find? λx=>x.1==a).map (·.2)
def ai (m:List (Int × α)) (a:Int) (v:α):List (Int × α):=if (al m a).isSome then m.map (λx=>if x.1=a then (a,v) else x) else m++ [(a,v)]
def ad (m:List (Int × α)) (a:Int):List (Int × α):=m.filter λx=> !(x.1==a)
theorem qQ {a:Int}:al m a=none↔∀x∈m,x.1≠a:=by
 unfold al;rw [Option.map_eq_none_iff,List.find?_eq_none];simp
theorem Dm {a:Int} {x:α} (h:al m a=some x):(a,x)∈m:=by
 unfold al at h;rw [WH] at h;obtain ⟨y,h1,rfl⟩:=h;have J:=Xu h1;have I:=Xn h1;have:y.1=a:=by simpa using J
 rw [<- this];exact I
theorem Sn (nd:(m.map (·.1)).Nodup) {a:Int} {x:α} (h:(a,x)∈m):al m a=some x:=by
 cases ha:al m a with
 |none=>exact absurd rfl (qQ.1 ha (a,x) h)
 |some y=>
  have O:=Dm ha;obtain ⟨i,hi,J⟩:=I'.1 h;obtain ⟨j,Q,I⟩:=I'.1 O;have:=(V9 (h₀:=show i< (m.map (·.1)).length by simpa using hi) (h₁:=show j< (m.map (·.1)).length by simpa using Q) nd).1 (by rw [Wa,Wa,J,I]);subst this;rw [J] at I;rw [(Xx I).2]
theorem PT (m:List (Int × α)) (a:Int) (v:α):(ai m a v).map (·.1)=if (al m a).isSome then m.map (·.1) else m.map (·.1)++ [a]:=by
 unfold ai;split
 . rw [VU];refine Vl λx _=>?_;simp only [Function.comp];split
   . rename_i h;exact h.symm
   . rfl
 . simp
theorem uF (nd:(m.map (·.1)).Nodup) (a:Int) (v:α):((ai m a v).map (·.1)).Nodup:=by
 rw [PT];split
 . exact nd
 . rename_i h;have h:al m a=none:=by simpa using h
   rw [VQ];refine ⟨nd,by simp,λx J y I e=>?_⟩;rw [Bs] at I;obtain ⟨z,O,rfl⟩:=L0.1 J;exact qQ.1 h z O (e.trans I)
theorem Bh (m:List (Int × α)) (a u:Int) (v:α):al (ai m a v) u=if u=a then some v else al m u:=by
 unfold ai;split
 . rename_i h;unfold al;rw [List.find?_map];by_cases e:u=a
   . subst e;rw [if_pos rfl];have hf:m.find? ((λx:Int × α=>x.1==u) ∘ λx=>if x.1=u then (u,v) else x)=m.find? λx=>x.1==u:=by
      congr 1;funext x;simp only [Function.comp];split<;>simp_all
     rw [hf];unfold al at h;cases J:m.find? λx=>x.1==u with
     |none=>rw [J] at h;simp at h
     |some y=>have:=Xu J;simp at this;simp [this]
   . rw [if_neg e];have hf:m.find? ((λx:Int × α=>x.1==u) ∘ λx=>if x.1=a then (a,v) else x)=m.find? λx=>x.1==u:=by
      congr 1;funext x;simp only [Function.comp];by_cases I:x.1=a
      . rw [if_pos I,I]
      . rw [if_neg I]
     rw [hf];cases J:m.find? λx=>x.1==u with
     |none=>rfl
     |some y=>
      have h1:=Xu J;have h1:y.1=u:=by simpa using h1
      have: ¬y.1=a:=λI=>e (h1.symm.trans I);simp [this]
 . rename_i h;have h:al m a=none:=by simpa using h
   unfold al;rw [List.find?_append];by_cases e:u=a
   . subst e;rw [if_pos rfl];unfold al at h;rw [Option.map_eq_none_iff] at h;rw [h];simp
   . rw [if_neg e];cases J:m.find? λx=>x.1==u with
     |some y=>simp
     |none=>simp [Vc e]
theorem SF (m:List (Int × α)) (a u:Int):al (ad m a) u=if u=a then none else al m u:=by
 by_cases e:u=a
 . subst e;rw [if_pos rfl,qQ];intro x I;unfold ad at I;rw [U8] at I;simpa using I.2
 . rw [if_neg e];unfold al ad;rw [List.find?_filter];congr 1;congr 1;funext x;by_cases h:x.1=u
   . rw [h];simp [e]
   . simp [h]
theorem Fb (nd:(m.map (·.1)).Nodup) (a:Int):((ad m a).map (·.1)).Nodup:=nd.sublist (XT.map _)
def MV (g:α->Value) (w:World) (b:Nat) (m:List (Int × α)):Prop:=
 (∃I clock,w.heap[b]? =some (.map I clock)/\I.toList.map (λe=> (e.key,e.val))=m.map λx=> (Value.int .i64 x.1,g x.2))/\(m.map (·.1)).Nodup
theorem MV.lt (h:MV g w b m):b<w.heap.size:=by obtain ⟨⟨I,c,h,_⟩,_⟩:=h;exact (VA.1 h).1
theorem MV.keep {S:Nat->Prop} (h:MV g w b m) (m':aD S w w') (hs: ¬S b):MV g w' b m:=by
 have hl:=h.lt;obtain ⟨⟨I,c,h,he⟩,nd⟩:=h;exact ⟨⟨I,c,(m'.block b hl hs).trans h,he⟩,nd⟩
theorem MV.grow (h:MV g w b m) (m':ak w w'):MV g w' b m:=h.keep m' id
theorem MV.drew (h:MV g w b m):MV g w.drew b m:=h
theorem MV.new {b:Nat} (h:jI (.map #[] 0) w b w'):MV g w' b []:=⟨⟨#[],0,h.at,rfl⟩,by simp⟩
theorem MV.len (hm:CF P t k e=true) (h:MV g w b m) (ty:TypeId):(Builtin.len_ #[t] ty #[.map (some b)]).run P w=.ok (.i m.length) w:=by
 obtain ⟨ht,_⟩:=qm hm;obtain ⟨⟨I,c,hb,he⟩,_⟩:=h;have:I.size=m.length:=by have:=congrArg List.length he;simpa using this
 simp [Builtin.len_,run_underlying ht,MapKept.run_getObj_map hb,Result.andThen,goInt,this]
theorem MV.find (h:MV g w b m) (a:Int):∃I c,w.heap[b]? =some (.map I c)/\I.toList.map (λe=> (e.key,e.val))=(m.map λx=> (Value.int .i64 x.1,g x.2))/\
 ((Instr.findNow (.int .i64) (.i a) I.toList 0=some none/\al m a=none)\/∃j x e,Instr.findNow (.int .i64) (.i a) I.toList 0=some (some (j,g x))/\I[j]? =some e/\e.key=.i a/\m[j]? =some (a,x)/\al m a=some x):=by
 obtain ⟨⟨I,c,hb,he⟩,nd⟩:=h;refine ⟨I,c,hb,he,?_⟩;have get:∀ (j:Nat) (e:MapEntry),I.toList[j]? =some e->∃x:Int × α,m[j]? =some x/\e.key=.i x.1/\e.val=g x.2:=by
  intro j e Q;have:=congrArg (·[j]?) he;simp only [Vx,Q,Wj] at this;cases hm:m[j]? with
  |none=>rw [hm] at this;simp at this
  |some x=>
   rw [hm] at this;simp at this;exact ⟨x,rfl,this⟩
 have V:∀x∈I.toList,IsKey (.int .i64) x.key:=by
  intro x O;obtain ⟨j,Q,e⟩:=I'.1 O;obtain ⟨y,_,h1,_⟩:=get j x (by rw [Mb Q,e]);rw [h1];rfl
 rcases findNow_spec (d:=.int .i64) (show IsKey (.int .i64) (.i a) from rfl) I.toList 0 V with ⟨h1,U⟩| ⟨j,e,h1,U,X⟩
 . refine .inl ⟨h1,qQ.2 λx O=>?_⟩;obtain ⟨j,Q,e⟩:=I'.1 O;have hlen:I.toList.length=m.length:=by have:=congrArg List.length he;simpa using this
   obtain ⟨y,J,h5,_⟩:=get j I.toList[j] (by rw [Mb (by omega)]);rw [Mb Q,e] at J;have J:=Vo J;have:=U _ (V_ (show j<I.toList.length by omega));rw [h5,<- J] at this;exact λZ=>this (by rw [Z])
 . obtain ⟨x,J,h5,Y⟩:=get j e U;have O:x.1=a:=by rw [h5] at X;injection X
   refine .inr ⟨j,x.2,e,by rw [h1,<- Y,UX],by simpa using U,X,by rw [J,<- O],Sn nd ?_⟩;rw [<- O];exact XO J
theorem MV.cP (hm:CF P t k e=true) (h:MV g w b m) (a:Int) {z:Value} (Q:(zeroValue e).run P w=.ok z w):
 (Instr.lookup t (.map (some b)) (.i a) false).run P w=.ok (((al m a).map g).getD z) w:=by
 obtain ⟨ht,J⟩:=qm hm;obtain ⟨X,c,hb,he,hf⟩:=h.find a;have I:IsKey (.int .i64) (.i a):=rfl;rcases hf with ⟨h1,O⟩| ⟨j,x,e,h1,O,V,U,h5⟩
 . simp [Instr.lookup,run_underlying ht,MapKept.run_getObj_map hb,MapKept.run_checkKey J I,MapKept.run_findKey J h1,Q,Result.andThen,O]
 . simp [Instr.lookup,run_underlying ht,MapKept.run_getObj_map hb,MapKept.run_checkKey J I,MapKept.run_findKey J h1,Result.andThen,h5]
theorem MV.Q9 (hm:CF P t k e=true) (h:MV g w b m) (a:Int) {z:Value} (Q:(zeroValue e).run P w=.ok z w):
 (Instr.lookup t (.map (some b)) (.i a) true).run P w=.ok (.tuple #[((al m a).map g).getD z,.bool (al m a).isSome]) w:=by
 obtain ⟨ht,J⟩:=qm hm;obtain ⟨X,c,hb,he,hf⟩:=h.find a;have I:IsKey (.int .i64) (.i a):=rfl;rcases hf with ⟨h1,O⟩| ⟨j,x,e,h1,O,V,U,h5⟩
 . simp [Instr.lookup,run_underlying ht,MapKept.run_getObj_map hb,MapKept.run_checkKey J I,MapKept.run_findKey J h1,Q,Result.andThen,O]
 . simp [Instr.lookup,run_underlying ht,MapKept.run_getObj_map hb,MapKept.run_checkKey J I,MapKept.run_findKey J h1,Result.andThen,h5]
theorem Db {w:World} {b:Nat} (o:Obj):aD (·=b) w {w with heap:=w.heap.setIfInBounds b o}:=
 ⟨rfl,rfl,rfl,by simp,λx _ I=>by simp [Wn (Vc I)]⟩
theorem MV.put (hm:CF P t k e=true) (h:MV g w b m) (a:Int) (v:α):
 ∃w',(Instr.mapUpdate t (.map (some b)) (.i a) (g v)).run P w=.ok () w'/\MV g w' b (ai m a v)/\aD (·=b) w w'/\w'.heap.size=w.heap.size:=by
 obtain ⟨ht,Z⟩:=qm hm;have nd:=h.2;have av:=h.lt;obtain ⟨U,c,hb,he,hf⟩:=h.find a;have J:IsKey (.int .i64) (.i a):=rfl;rcases hf with ⟨h1,X⟩| ⟨j,x,e,h1,X,h3,Y,h5⟩
 . refine ⟨_,?_,⟨⟨U.push {key:=.i a,val:=g v,born:=c},c+1,(MapKept.heap_set hb).1,?_⟩,uF nd a v⟩,Db _,by simp⟩
   . simp [Instr.mapUpdate,run_underlying ht,MapKept.run_getObj_map hb,MapKept.run_checkKey Z J,MapKept.run_findKey Z h1,MapKept.run_setObj_map _ hb,Result.andThen]
   . unfold ai;rw [X];simp only [Option.isSome_none,VW,if_false,Array.toList_push,LV,he,Vy,X']
 . refine ⟨_,?_,⟨⟨U.modify j λe=> {e with key:=.i a,val:=g v},c,(MapKept.heap_set hb).1,?_⟩,uF nd a v⟩,Db _,by simp⟩
   . simp [Instr.mapUpdate,run_underlying ht,MapKept.run_getObj_map hb,MapKept.run_checkKey Z J,MapKept.run_findKey Z h1,X,h3,run_keyThatStays J,MapKept.run_setObj_map _ hb,Result.andThen]
   . unfold ai;rw [h5];simp only [Option.isSome_some,if_true,Array.toList_modify];apply VO;intro i;have hi:=congrArg (·[i]?) he;simp only [Vx] at hi;simp only [Vx,List.getElem?_modify];by_cases e2:j=i
     . subst e2;rw [Y] at hi ⊢;have:U.toList[j]? =some e:=by simpa using X
       rw [this];simp
     . cases I:m[i]? with
       |none=>rw [I] at hi;cases O:U.toList[i]? with
        |none=>simp
        |some z=>rw [O] at hi;simp at hi
       |some y=>
        rw [I] at hi;cases O:U.toList[i]? with
        |none=>rw [O] at hi;simp at hi
        |some z=>
         rw [O] at hi;simp at hi;have:y.1≠a:=λe3=>by
          have Q:i<m.length:=(Vg.1 I).1;have V:j<m.length:=(Vg.1 Y).1;have:=(V9 (h₀:=show i< (m.map (·.1)).length by simpa using Q) (h₁:=show j< (m.map (·.1)).length by simpa using V) nd).1 (by
           rw [Wa,Wa];rw [Mb Q] at I;rw [Mb V] at Y;rw [Vo I,Vo Y];exact e3)
          omega
         simp [e2,this,hi]
theorem MV.del (hm:CF P t k e=true) (h:MV g w b m) (a:Int) (ty:TypeId):
 ∃w',(Builtin.delete_ #[t,k] ty #[.map (some b),.i a]).run P w=.ok (.tuple #[]) w'/\MV g w' b (ad m a)/\aD (·=b) w w'/\w'.heap.size=w.heap.size:=by
 obtain ⟨ht,Q⟩:=qm hm;have nd:=h.2;obtain ⟨O,c,hb,he,hf⟩:=h.find a;have I:IsKey (.int .i64) (.i a):=rfl;rcases hf with ⟨h1,U⟩| ⟨j,x,e,h1,U,h3,h4,h5⟩
 . refine ⟨_,?_,⟨⟨O,c,(MapKept.heap_set hb).1,?_⟩,Fb nd a⟩,Db _,by simp⟩
   . simp [Builtin.delete_,run_underlying ht,MapKept.run_getObj_map hb,MapKept.run_checkKey Q I,MapKept.run_findKey Q h1,MapKept.run_setObj_map _ hb,Result.andThen]
   . have:ad m a=m:=by
      unfold ad;rw [W2];intro x hx;have:=qQ.1 U x hx;simpa using this
     rw [this,he]
 . have V:j<O.size:=(VA.1 U).1;have J:(O.eraseIdxIfInBounds j).toList=O.toList.eraseIdx j:=by
    unfold Array.eraseIdxIfInBounds;rw [dif_pos V];simp
   refine ⟨_,?_,⟨⟨O.eraseIdxIfInBounds j,c,(MapKept.heap_set hb).1,?_⟩,Fb nd a⟩,Db _,by simp⟩
   . simp [Builtin.delete_,run_underlying ht,MapKept.run_getObj_map hb,MapKept.run_checkKey Q I,MapKept.run_findKey Q h1,MapKept.run_setObj_map _ hb,Result.andThen]
   . rw [J,Go.ChangeMaps.map_eraseIdx,he];have key:∀ (m:List (Int × α)) (j:Nat) (x:α),(m.map (·.1)).Nodup->m[j]? =some (a,x)->m.eraseIdx j=ad m a:=by
      intro m
      induction m with
      |nil=>intro j x _ h;simp at h
      |cons y m Z=>
       intro j x nd h;rw [Vy,WV] at nd;cases j with
       |zero=>
        simp at h;subst h;simp only [List.eraseIdx_zero,List.tail_cons];unfold ad;rw [WQ];simp only [BEq.rfl,Bool.not_true,VW,if_false];symm;rw [W2];intro z Y;have:z.1≠a:=λe=>nd.1 (L0.2 ⟨z,Y,e⟩);simpa using this
       |succ j=>
        simp only [Vp] at h;have X:y.1≠a:=λe=>nd.1 (L0.2 ⟨_,XO h,e.symm⟩);rw [List.eraseIdx_cons_succ,Z j x nd.2 h];unfold ad;rw [WQ];simp [X]
     rw [<- Go.ChangeMaps.map_eraseIdx,key m j x nd h4]
end Go.Fw
namespace Go.Proofs.YtbdghpjnifjlmaaGreat.W
open Go Go.Fw Go.RowKit Go.SoP Go.LiP
open Go.Proofs.Tryz (prog)
section
variable {W w w' w0 w2 w3:World} {nb b ib ab:Nat} {vars:Int} {id:List (Int × Int)} {H H' H2:Pt->Sl} {s t u s':aI} {lp:sn} {lc:Nat} {ls:List Int} {sm:List (Int × Sl)} {cl:Int->List Int} {cp:sn} {n cc:Nat} {c:List Int}
def dw (id:List (Int × Int)) (x:Int):Int:=if x<0 then -((al id (bh x)).getD 0) else (al id (bh x)).getD 0
structure xK (id:List (Int × Int)):Prop where
 nd:(id.map (·.1)).Nodup
 rE:∀j,j<id.length->(id.getD j (0,0)).2=((j+1:Nat):Int)
 TD:∀x∈id,1<=x.1/\x.1<=1048576
theorem OF {l:List Int} {B:Nat} (nd:l.Nodup) (h:∀x∈l,1<=x/\x<=B):l.length<=B:=by
 have hs:=Vn nd (l₂:=(List.range B).map λj:Nat=> (j:Int)+1) λy I=>by
  have:=h y I;exact L0.2 ⟨(y - 1).toNat,Vj.2 (by omega),by show (((y - 1).toNat:Nat):Int)+1=_;omega⟩
 rwa [UL,VP] at hs
theorem xK.le {id:List (Int × Int)} (h:xK id):id.length<=1048576:=by
 have:=OF (l:=id.map (·.1)) (B:=1048576) h.nd λx J=>by
  obtain ⟨y,I,rfl⟩:=L0.1 J;exact h.TD y I
 rwa [UL] at this
def Nt (id:List (Int × Int)) (x:Int):Prop:=x≠0/\(al id (bh x)).isSome
theorem xK.get (h:xK id) {x:Int} {v:Int} (hv:al id x=some v):∃j,j<id.length/\id.getD j (0,0)=(x,v)/\v=((j+1:Nat):Int):=by
 obtain ⟨j,I,e⟩:=I'.1 (Dm hv);have e:id.getD j (0,0)=(x,v):=by simp [List.getD,I,e]
 have:=h.rE j I;rw [e] at this;exact ⟨j,I,e,this⟩
theorem Og {x:Int} (I:x≠0):dw id (-x)= -dw id x:=by
 unfold dw;rw [kX];by_cases h:x<0
 . rw [if_neg (by omega),if_pos h];omega
 . rw [if_pos (by omega),if_neg h]
theorem xK.dw (h:xK id):AU (Nt id) (dw id):=by
 have Q:al id 0=none:=qQ.2 λx I=>by have:=h.TD x I;omega
 have val:∀x,Nt id x->∃v j:Nat,al id (bh x)=some (v:Int)/\v=j+1/\j<id.length/\id.getD j (0,0)=(bh x,(v:Int)):=λx I=>by
  obtain ⟨v,hv⟩:=VJ.1 I.2;obtain ⟨j,O,e,rfl⟩:=h.get hv;exact ⟨j+1,j,hv,rfl,O,e⟩
 refine ⟨λx=>?_,λx y I Z e=>?_,λx I=>?_,λx I=>⟨by have:=I.1;omega,by rw [kX];exact I.2⟩,λh=>h.1 rfl⟩
 . by_cases I:x=0
   . subst I;unfold Go.Proofs.YtbdghpjnifjlmaaGreat.W.dw;have:bh 0=0:=by decide
     simp [this,Q]
   . exact Og I
 . obtain ⟨v,j,h1,h2,h3,V⟩:=val x I;obtain ⟨v',j',U,Y,X,J⟩:=val y Z;unfold Go.Proofs.YtbdghpjnifjlmaaGreat.W.dw at e;rw [h1,U] at e;simp only [US] at e;have O:j=j'/\(x<0↔y<0):=by
    split at e<;>split at e<;>omega
   have ha:bh x=bh y:=by
    rw [O.1] at V;rw [V] at J;exact (Xx J).1
   have:=I.1;rcases wQ ha with e2|e2<;>omega
 . obtain ⟨v,j,h1,h2,_,_⟩:=val x I;unfold Go.Proofs.YtbdghpjnifjlmaaGreat.W.dw;rw [h1];simp only [US];split<;>omega
theorem xK.rO (h:xK id) {x:Int} (I:Nt id x):dN id.length (Go.Proofs.YtbdghpjnifjlmaaGreat.W.dw id x):=by
 obtain ⟨v,hv⟩:=VJ.1 I.2;obtain ⟨j,J,e,rfl⟩:=h.get hv;unfold Go.Proofs.YtbdghpjnifjlmaaGreat.W.dw dN;rw [hv];simp only [US];split<;>omega
structure RB (W w:World) (nb b ib ab:Nat) (vars:Int) (id:List (Int × Int)) (H:Pt->Sl) (s:aI) (lp:sn) (lc:Nat) (ls:List Int) (sm:List (Int × Sl)) (cl:Int->List Int):Prop where
 st:bT w nb #[.i vars,.map (some ib),ck b,.slice lp ls.length lc,.map (some ab)]
 pm:PM w b H s
 g:aN s
 im:MV sT w ib id
 am:MV Sl.v w ab sm
 lo:dz aq w lp lc ls
 rw:∀x∈sm,x.2.n=(cl x.1).length/\x.2.n<=maxLen/\Vw sT w x.2.p (cl x.1)
 d1:∀x k,own b H x=some k->k≠nb/\k≠ib/\k≠ab/\aG lp≠some k
 d2:nb≠ib/\nb≠ab/\ib≠ab/\aG lp≠some nb/\aG lp≠some ib/\aG lp≠some ab
 d3:∀x∈sm,0<x.2.n->∀k,aG x.2.p=some k->k≠nb/\k≠ib/\k≠ab/\aG lp≠some k/\∀y,own b H y≠some k
 wg:ak W w
 wy:W.heap.size<=nb/\W.heap.size<=ib/\W.heap.size<=ab/\(∀k,aG lp=some k->W.heap.size<=k)/\∀x k,own b H x=some k->W.heap.size<=k
 be:s.R .be= []
 rE:xK id
 sv:s.vars=id.length
 nd:ls.Nodup
 th:∀i:Nat,s.aO i↔(i:Int)∈ls
 l0:∀i∈ls,0<=i
 lk:∀i∈ls,(al sm i).isSome
 cd:∀i:Nat,s.aO i->s.R (.a i)=(cl i).map (dw id)
 lt:∀i∈ls,∀x∈cl i,bU x=true/\Nt id x
 ln:∀i∈ls,(cl i).length<=4096
 O1:∀x∈sm,0<=x.1/\x.1<s.nc
 ll:ls.length<=s.nc
theorem RB.grow (h:RB W w nb b ib ab vars id H s lp lc ls sm cl) (m:ak w w'):RB W w' nb b ib ab vars id H s lp lc ls sm cl:=
 ⟨h.st.grow m,h.pm.grow m,h.g,h.im.grow m,h.am.grow m,h.lo.grow m,λx I=>⟨(h.rw x I).1,(h.rw x I).2.1,(h.rw x I).2.2.grow m⟩,h.d1,h.d2,h.d3,h.wg.trans m,h.wy,h.be,h.rE,h.sv,h.nd,h.th,h.l0,h.lk,h.cd,h.lt,h.ln,h.O1,h.ll⟩
theorem RB.drew (h:RB W w nb b ib ab vars id H s lp lc ls sm cl):RB W w.drew nb b ib ab vars id H s lp lc ls sm cl:=h.grow (aD.refl w).drew
theorem RB.wV (h:RB W w nb b ib ab vars id H s lp lc ls sm cl) (P:Pw w w' b H H' s') (g:aN s') (hv:s'.vars=s.vars) (hn:s'.nc=s.nc) (hg:s'.gone=s.gone) (ha:∀i,s'.R (.a i)=s.R (.a i)) (hb:s'.R .be= []):
 RB W w' nb b ib ab vars id H' s' lp lc ls sm cl:=by
 have no:∀ {k:Nat},(∀x,own b H x≠some k)->¬∃x,own b H x=some k:=λh ⟨x,e⟩=>h x e;have Z:∀x,own b H x≠some nb:=λx e=> (h.d1 x _ e).1 rfl;have n2:∀x,own b H x≠some ib:=λx e=> (h.d1 x _ e).2.1 rfl;have n3:∀x,own b H x≠some ab:=λx e=> (h.d1 x _ e).2.2.1 rfl;have O:∀i,s'.aO i↔s.aO i:=λi=>by unfold aI.aO;rw [hn,hg]
 have Y:=h.st.lt;refine ⟨h.st.keep P.mod (no Z),P.pm,g,h.im.keep P.mod (no n2),h.am.keep P.mod (no n3),h.lo.keep P.mod λk I ⟨x,e⟩=> (h.d1 x k e).2.2.2 I,λx J=>?_,λx k I=>?_,h.d2,λx J h0 k I=>?_,h.wg.then P.mod λk I ⟨x,e⟩=>?_,⟨h.wy.1,h.wy.2.1,h.wy.2.2.1,h.wy.2.2.2.1,λx k I=>?_⟩,hb,h.rE,hv.trans h.sv,h.nd,λi=> (O i).trans (h.th i),h.l0,h.lk,λi hi=>by rw [ha];exact h.cd i ((O i).1 hi),h.lt,h.ln,λx J=>by rw [hn];exact h.O1 x J,by rw [hn];exact h.ll⟩
 . obtain ⟨Q,r2,V⟩:=h.rw x J;refine ⟨Q,r2,V.mK P.mod λX k I ⟨y,e⟩=> (h.d3 x J (by rw [Q];exact Vb.2 X) k I).2.2.2.2 y e⟩
 . rcases P.ft x k I with ⟨y,e⟩|e
   . exact h.d1 y k e
   . have l1:=h.st.lt;have l2:=h.im.lt;have l3:=h.am.lt;exact ⟨by omega,by omega,by omega,λU=>by have:=h.lo.lt k U;omega⟩
 . obtain ⟨a1,a2,a3,a4,a5⟩:=h.d3 x J h0 k I;refine ⟨a1,a2,a3,a4,λy e=>?_⟩;rcases P.ft y k e with ⟨z,U⟩|U
   . exact a5 z U
   . obtain ⟨Q,_,V⟩:=h.rw x J;have:=V.lt (λe3=>by rw [e3] at Q;simp at Q;omega) k I;omega
 . have:=h.wy.2.2.2.2 x k e;omega
 . rcases P.ft x k I with ⟨y,e⟩|e
   . exact h.wy.2.2.2.2 y k e
   . have:=h.wg.size;omega
theorem ly:CF prog dO aq aq=true:=by kernel_rfl
theorem Li:CF prog py aq aE=true:=by kernel_rfl
theorem HC {e:TypeId} {z:Value} (h:(Tryz.prog.info? e).bind (·.zero)=some z) (w:World):(zeroValue e).run prog w=.ok z w:=by
 cases hi:Tryz.prog.info? e with
 |none=>rw [hi] at h;simp at h
 |some i=>
  rw [hi] at h;simp at h;unfold zeroValue;simp only [Sem.run_bind,eM hi,Result.andThen_ok,h,Sem.run_pure]
theorem sy (w:World):(zeroValue aq).run prog w=.ok (.i 0) w:=HC jx w
theorem OU (w:World):(zeroValue aE).run prog w=.ok (.slice none 0 0) w:=HC Ie w
theorem HM (h:RB W w nb b ib ab vars id H s lp lc ls sm cl) (hc:Vw sT w cp c) (hn:n=c.length) (hx:n<=100000) (hl:∀x∈c,bU x=true):
 Calls prog jX.id #[ck nb,.slice cp n cc] w λe w'=>∃ (q:sn) (d:Nat),e=.returned (.slice q c.length d)/\dz aq w' q d (c.map (dw id))/\ak w w'/\∀k,aG q=some k->w.heap.size<=k:=by
 subst hn;refine jX.aj ?_;refine ⟨λP N C I u z=>∃i:Nat,I=i/\i<=c.length/\z=c.length - i/\N=((c.take i).map (dw id)).length/\dz aq u P C ((c.take i).map (dw id))/\(∀k,aG P=some k->w.heap.size<=k)/\ak w u,
  ⟨_,0,rfl,vx _,rfl,by simp,Ow.nil _ _ _,λk hk=>by simp [aG] at hk,aD.refl w⟩,?_⟩
 rintro P N C I u z _ ⟨i,rfl,hi,rfl,rfl,o,fP,Y⟩;have hlen:((c.take i).map (dw id)).length=i:=by simp;omega
 refine ah (λr=>?_) (λr=>?_)
 . have r:i<c.length:=by simpa using r
   refine (hc.grow Y).ix 0 (by omega) rfl (by omega) λa e=>⟨_,e,_,rfl,_,ae (h.st.grow Y) rfl,?_⟩
   rw [tn];have ay:=hl _ (bE r);have hb:=nF ay;have hs:(c.take (i+1)).map (dw id)=(c.take i).map (dw id)++ [dw id (c.getD i 0)]:=by
    rw [UR,LV];simp [List.getD,r]
   generalize c.getD i 0=X at*
   have ea:imax X (IntKind.i64.wrap (0 - X))=bh X:=by
    rw [nw X hb];unfold imax bh;split<;>split<;>omega
   rw [ea];have aa:=(h.im.grow Y).cP ly (bh X) (sy u);have Z:((al id (bh X)).map sT).getD (.i 0)=.i ((al id (bh X)).getD 0):=by cases al id (bh X)<;>rfl
   rw [Z] at aa;have aT:0<=(al id (bh X)).getD 0/\(al id (bh X)).getD 0<=1048576:=by
    cases hv:al id (bh X) with
    |none=>simp
    |some v=>
     obtain ⟨j,hj,_,rfl⟩:=h.rE.get hv;have:=h.sv;have:=h.g.eG;simp only [US];omega
   refine ⟨_,_,aa,ah (λQ=>?_) (λQ=>?_)⟩
   . have Q:X<0:=by simpa using Q
     intro av az J;rw [nw _ (by omega)] at J;refine jH (W0:=w) (o.grow J.mod) (Y.trans J.mod) fP (MG J) rfl rfl (by rw [hlen];simp;omega) λax aw ar O V f15=>?_;have U:dw id X= -((al id (bh X)).getD 0):=by unfold dw;rw [if_pos Q]
     rw [<- U] at O;refine ⟨_,by omega,i+1,wN,r,rfl,by rw [hs];simp,by rw [hs];exact O,f15,V⟩
   . have Q: ¬X<0:=by simpa using Q
     intro av az J;refine jH (W0:=w) (o.grow J.mod) (Y.trans J.mod) fP (MG J) rfl rfl (by rw [hlen];simp;omega) λax aw ar O V f15=>?_;have U:dw id X=(al id (bh X)).getD 0:=by unfold dw;rw [if_neg Q]
     rw [<- U] at O;refine ⟨_,by omega,i+1,wN,r,rfl,by rw [hs];simp,by rw [hs];exact O,f15,V⟩
 . have r:i=c.length:=by simp at r;omega
   subst r;rw [K'] at o hlen;exact ⟨P,C,by rw [K',hlen],o,Y,fP⟩
end
section
variable {W w w' w0 w2 w3:World} {nb b ib ab:Nat} {vars:Int} {id:List (Int × Int)} {H H' H2:Pt->Sl} {s t u s':aI} {lp:sn} {lc:Nat} {ls:List Int} {sm:List (Int × Sl)} {cl:Int->List Int} {cp:sn} {n cc:Nat} {c:List Int}
structure Ar (s s':aI):Prop where
 v:s'.vars=s.vars
 n:s'.nc=s.nc
 g:s'.gone=s.gone
 a:∀i,s'.R (.a i)=s.R (.a i)
theorem Ar.refl (s:aI):Ar s s:=⟨rfl,rfl,rfl,λ_=>rfl⟩
theorem Ar.trans (h:Ar s t) (k:Ar t u):Ar s u:=⟨k.v.trans h.v,k.n.trans h.n,k.g.trans h.g,λi=> (k.a i).trans (h.a i)⟩
theorem Ar.decide (s:aI) (l:Int):Ar s (s.decide l):=by
 obtain ⟨I,J,Q,O⟩:=EN (s:=s) l;exact ⟨I,J,Q,O⟩
theorem Ar.ext (h:j7 s t):Ar s t:=⟨h.v,h.n,h.g,h.a⟩
theorem Ar.bW (s:aI) (L:Nat):Ar s (s.bW L):=by
 obtain ⟨I,J,Q,O,_⟩:=wI (s:=s) L;exact ⟨I,J,Q,O⟩
theorem Ar.lW (h:Ar s t) {i:Nat}:t.aO i↔s.aO i:=by unfold aI.aO;rw [h.n,h.g]
theorem Bv (s:aI) (l:Int):(s.decide l).R .be=s.R .be++ [((s.R .tr).length:Int)]:=by
 unfold aI.decide;rw [kG (by simp) (by simp) (by simp) (by simp)];unfold aI.kL;rw [ao (by simp),aS]
theorem RB.AP (h:RB W w nb b ib ab vars id H s lp lc ls sm cl) (k:Ar s t) (x:List Int):x∈(ls.map cl).map (List.map (dw id))↔t.AP x:=by
 unfold aI.AP;rw [VU,L0];constructor
 . rintro ⟨i,hi,rfl⟩;have J:=h.l0 i hi;have I:s.aO i.toNat:=(h.th _).2 (by rw [Wi J];exact hi);refine ⟨i.toNat,k.lW.2 I,?_⟩;rw [k.a,h.cd _ I,Wi J];rfl
 . rintro ⟨i,hi,rfl⟩;have I:=k.lW.1 hi;exact ⟨(i:Int),(h.th i).1 I,by rw [k.a,h.cd _ I];rfl⟩
structure Rd (s s':aI) (id:List (Int × Int)) (c:List Int) (j:Nat):Prop where
 g:aN s'
 k:Ar s s'
 dt:s'.vP=s'.R .tr
 bt:(s'.R .be).length=(s'.R .tr).length
 b0:s'.R .be≠[]->(s'.R .be).getD 0 0=0
 fw:∀x∈c.take j,-dw id x∈s'.R .tr
 bw:∀y∈s'.R .tr,∃x∈c.take j,y= -dw id x
theorem Eb {u:FrameMode} (h:PM w b H s) (g:aN s) (bI:Int):CallsD prog cw.id #[ck b,.i bI] u w λe I w'=>I=u/\e=.returned (.tuple #[])/\∃H',Pw w w' b H H' (if (max 0 bI).toNat< (s.R .be).length then s.bW (max 0 bI).toNat else s):=
 cw.RW (R:=λe w'=>e=.returned (.tuple #[])/\∃H',Pw w w' b H H' (if (max 0 bI).toNat< (s.R .be).length then s.bW (max 0 bI).toNat else s)) (KJ h g bI)
theorem RB.Qn (h:RB W w nb b ib ab vars id H s lp lc ls sm cl) (P:Pw w w2 b H H2 t) (g:aN t) (k:Ar s t) (Q:t.R .be≠[]->(t.R .be).getD 0 0=0) {R:World->Prop}
 (V:∀w' H' s',RB W w' nb b ib ab vars id H' s' lp lc ls sm cl->Pw w w' b H H' s'->s'.nc=s.nc->(t.R .be≠[]->s'.R .tr= [])->R w'):
 CallsD prog cw.id #[ck b,.i 0] .returning w2 λe u w'=>u=.returning/\∃v:Value,e=.returned v/\R w':=by
 refine (Eb P.pm g 0).mono ?_;rintro e u w' ⟨rfl,rfl,H',U⟩;refine ⟨rfl,_,rfl,?_⟩;have X:(max (0:Int) 0).toNat=0:=rfl;rw [X] at U;have J:=P.trans U;by_cases hb:0< (t.R .be).length
 . rw [if_pos hb] at J;have I:=Q (Vb.1 hb);obtain ⟨_,_,_,_,Z,Y⟩:=wI (s:=t) 0;have O:=k.trans (Ar.bW t 0);refine V _ _ _ (h.wV J (mj g hb) O.v O.n O.g O.a (by rw [Z];rfl)) J O.n λ_=>?_;rw [Y,I];rfl
 . rw [if_neg hb] at J;have I:t.R .be= []:=UF (by omega);exact V _ _ _ (h.wV J g k.v k.n k.g k.a I) J k.n λe=>absurd I e
theorem HF (h:RB W w nb b ib ab vars id H s lp lc ls sm cl) (ar:s.R .tr= []) (hc:Vw sT w cp c) (hn:n=c.length) (J:n<=100000) (hl:∀x∈c,bU x=true) (hN:∀x∈c,Nt id x):
 Calls prog gE.id #[ck nb,.slice cp n cc] w λe w'=>∃r:Bool,e=.returned (.bool r)/\(r=true↔uB (ls.map cl) c)/\∃H' s',RB W w' nb b ib ab vars id H' s' lp lc ls sm cl/\Pw w w' b H H' s'/\s'.nc=s.nc/\(c≠[]->s'.R .tr= []):=by
 have C:=h.rE.dw;refine gE.aj ⟨_,rfl,_,ae h.st rfl,(HM h hc hn J hl).mono ?_⟩;rintro e w3 ⟨q,d,rfl,o3,g3,f3⟩;have h3:=h.grow g3;have sv:=h.sv;have hinv:∀x∈c,dN s.vars (dw id x):=λx J=>by rw [sv];exact h.rE.rO (hN x J)
 have bY:∀ {k:Nat},aG q=some k->∀x,own b H x≠some k:=λhk x e=>by have:=f3 _ hk;have:=h.pm.lt x _ e;omega
 have bb:∀i,i∈ls->∀x∈cl i,Nt id x:=λi hi x J=> (h.lt i hi x J).2;have bv:uB ((ls.map cl).map (List.map (dw id))) (c.map (dw id))↔uB (ls.map cl) c:=C.Uc (λx J y O=>by
  obtain ⟨i,hi,rfl⟩:=L0.1 J;exact bb i hi y O) hN
 refine ⟨_,_,_,rfl,?_⟩;refine ⟨λI u z=>∃j:Nat,I=j/\j<=c.length/\z=c.length - j/\∃H' s',Pw w3 u b H H' s'/\Rd s s' id c j,⟨_,0,rfl,vx _,rfl,H,s,Pw.refl h3.pm (aD.refl _),
  ⟨h.g,.refl s,by unfold aI.vP;rw [h.be,ar];rfl,by rw [h.be,ar],λe=>absurd h.be e,λx J=>by simp at J,λy O=>by rw [ar] at O;simp at O⟩⟩,?_⟩
 rintro I u z _ ⟨j,rfl,hj,rfl,H1,Q,P1,R⟩;have b5:Vw sT u q (c.map (dw id)):=o3.vw.mK P1.mod λ_ k hk ⟨x,e⟩=>bY hk x e;have aw:bT u nb _:=h3.st.keep P1.mod λ⟨x,e⟩=> (h.d1 x _ e).1 rfl;have k1:=R.g.wf;refine ah (λr=>?_) (λr=>?_)
 . have r:j<c.length:=by simpa using r
   have hm:=bE r;have bf:(c.map (dw id)).getD j 0=dw id (c.getD j 0):=by simp [List.getD,r]
   have tk:∀x,x∈c.take (j+1)↔x∈c.take j\/x=c.getD j 0:=λx=>dS r;refine b5.ix 0 (by omega) (by simp) (by omega) λa e=>⟨_,e,_,rfl,_,ae aw rfl,?_⟩
   rw [tn,bf];generalize hX:c.getD j 0=X at*
   have hv:dN Q.vars (dw id X):=by rw [R.k.v];exact hinv X hm
   refine (yL P1.pm k1 _).mono ?_;rintro e b4 ⟨rfl,a6⟩;have Z:=P1.grow a6;have aT:Q.value (dw id X)=Q.val (dw id X):=by
    unfold aI.value;rw [(jc R.g.eG).2 hv];rfl
   rw [aT];refine ⟨_,rfl,ah (λr1=>?_) (λr1=>ah (λr2=>?_) (λr2=>?_))⟩
   . have r1:Q.val (dw id X)=1:=by simpa using r1
     have V:=(R.g.v1 _ hv).1 r1;obtain ⟨x',ag,e⟩:=R.bw _ V;have aa:=UN ag;have ex:X= -x':=C.inj _ _ (hN X hm) (C.sym _ (hN x' aa)) (by rw [C.neg];exact e);have U:Q.R .be≠[]:=λe2=>by
      have:=R.bt;rw [e2] at this;have:=UF this.symm;rw [this] at V;simp at V
     refine h3.Qn Z R.g R.k R.b0 λw' H' s' hB hP hn ht=>⟨true,rfl,⟨λ_=> .inl (lE.2 ⟨x',aa,ex▸hm⟩),λ_=>rfl⟩,H',s',hB,hP.dA g3,hn,λ_=>ht U⟩
   . have r2:Q.val (dw id X)=0:=by simpa using r2
     refine ⟨_,rfl,_,ae (aw.grow a6) rfl,?_⟩;rw [nw _ (hv.bd R.g.eG)];have a7:Q.val (-dw id X)=0:=by rw [pq hv,r2];rfl
     refine (wL Z.pm R.g (-dw id X)).mono ?_;rintro e bn ⟨r,rfl,H',hd⟩;obtain ⟨rfl,P⟩:r=0/\Pw b4 bn b H1 H' (Q.decide (-dw id X)):=hd.elim (λh=>⟨h.1,h.2.2.2⟩) λh=>absurd ⟨hv.neg,a7⟩ h.2.1;have Y:=Cf (s:=Q) (-dw id X);have a_:=Bv Q (-dw id X);refine ⟨_,rfl,_,by omega,j+1,wN,r,rfl,H',_,Z.trans P,⟨oX R.g hv.neg a7,R.k.trans (.decide Q _),by rw [AA R.g,R.dt,Y],by rw [a_,Y];simp [R.bt],λ_=>?_,λx J=>?_,λy O=>?_⟩⟩
     . rw [a_];cases U:Q.R .be with
       |nil=>
        have:=R.bt;rw [U] at this;rw [<- this];rfl
       |cons y l=>
        have:=R.b0 (by rw [U];simp);rw [U] at this;simpa using this
     . rw [Y];rcases (tk x).1 J with J|rfl
       . exact UW _ (R.fw x J)
       . simp
     . rw [Y] at O;rcases F'.1 O with O|O
       . obtain ⟨x,J,e⟩:=R.bw y O;exact ⟨x,(tk x).2 (.inl J),e⟩
       . rw [Bs] at O;exact ⟨X,(tk X).2 (.inr rfl),O⟩
   . have r1: ¬Q.val (dw id X)=1:=by simpa using r1
     have r2: ¬Q.val (dw id X)=0:=by simpa using r2
     have bg:Q.val (dw id X)= -1:=by
      rcases aI.ri k1 (dw id X) with e|e|e
      . exact absurd e r2
      . exact absurd e r1
      . exact e
     have V:=(R.g.vm hv).1 bg;refine ⟨_,by omega,j+1,wN,r,rfl,H1,Q,Z,⟨R.g,R.k,R.dt,R.bt,R.b0,λx J=>?_,λy O=>?_⟩⟩
     . rcases (tk x).1 J with J|rfl
       . exact R.fw x J
       . exact V
     . obtain ⟨x,J,e⟩:=R.bw y O;exact ⟨x,(tk x).2 (.inl J),e⟩
 . have r:j=c.length:=by simp at r;omega
   subst r;refine ⟨_,rfl,_,ae aw rfl,(Gh P1.pm R.g).mono ?_⟩;rintro e cT ⟨r,rfl,s2,H2,P2,g2,x,ht⟩;have PP:=P1.trans P2;have kk:=R.k.trans (.ext x);have fw:∀x∈c,-dw id x∈Q.R .tr:=λx J=>R.fw x (by rw [K'];exact J);have bw:∀y∈Q.R .tr,∃x∈c,y= -dw id x:=λy O=>by
    obtain ⟨x,J,e⟩:=R.bw y O;exact ⟨x,UN J,e⟩
   have bi:lO (c.map (dw id))=false:=by
    rw [<- U5,C.Is hN,lE];rintro ⟨x,J,ag⟩;have a1:=fw x J;have a2:=fw _ ag;rw [C.neg,U_] at a2;exact R.g.cons a2 a1
   have az:s2.vP=Q.R .tr:=by rw [HZ R.g x,R.dt]
   have key:=CB (cs:=(ls.map cl).map (List.map (dw id))) g2 ht (λx=>h.AP kk x) bi (λy O=>by
    obtain ⟨z,hz,rfl⟩:=L0.1 O;exact x.mem (fw z hz)) (λy O=>by
    rw [az] at O;obtain ⟨z,hz,rfl⟩:=bw y O;rw [U_];exact U1 hz)
   refine ⟨_,rfl,h3.Qn PP g2 kk (by rw [x.be];exact R.b0) λw' H' s' hB hP hn ht=>⟨_,rfl,?_,H',s',hB,hP.dA g3,hn,λb9=>ht ?_⟩⟩
   . rw [decide_eq_true_eq,key,bv]
   . rw [x.be];intro e2;have:=R.bt;rw [e2] at this;have a8:=UF this.symm;have:=fw _ (List.head_mem b9);rw [a8] at this;simp at this
end
section
variable {W w w' w0 w2 w3:World} {nb b ib ab:Nat} {vars:Int} {id:List (Int × Int)} {H H' H2:Pt->Sl} {s t u s':aI} {lp:sn} {lc:Nat} {ls:List Int} {sm:List (Int × Sl)} {cl:Int->List Int} {cp:sn} {n cc:Nat} {c:List Int}
theorem RB.cP (h:RB W w nb b ib ab vars id H s lp lc ls sm cl) {J:Int} (U:J∈ls):∃sl:Sl,al sm J=some sl/\(Instr.lookup py (.map (some ab)) (.i J) false).run prog w=.ok (.slice sl.p sl.n sl.c) w/\(J,sl)∈sm/\sl.n=(cl J).length/\Vw sT w sl.p (cl J):=by
 obtain ⟨sl,I⟩:=VJ.1 (h.lk J U);obtain ⟨V,X,Q⟩:=h.rw (J,sl) (Dm I);have O:=h.am.cP Li J (OU w);rw [I] at O;exact ⟨sl,I,O,Dm I,V,Q⟩
theorem NP (l:List Int) (y x:Int):wo (l++ [y]) x=wo l x++ (if y=x then [] else [y]):=by
 unfold wo;rw [WS,WQ,XS];by_cases e:y=x
 . subst e;simp
 . simp [e]
theorem LJ (h:RB W w nb b ib ab vars id H s lp lc ls sm cl) (bk:s.R .tr= []) (hc:Vw sT w cp c) (hn:n=c.length) (hx:n<=90000) (hl:∀x∈c,bU x=true) (hN:∀x∈c,Nt id x) (ho:c≠[]->∀k,aG cp=some k->∀x,own b H x≠some k):
 Calls prog fg.id #[ck nb,.slice cp n cc] w λe w'=>∃r:Bool,e=.returned (.bool r)/\(r=true↔fB (ls.map cl) c)/\∃H' s',RB W w' nb b ib ab vars id H' s' lp lc ls sm cl/\Pw w w' b H H' s'/\s'.nc=s.nc/\s'.R .tr= []:=by
 subst hn;refine fg.aj (ah (λr=>?_) (λr=>?_))
 . have r:c= []:=by
    have:(c.length:Int)=0:=by simpa using r
    exact UF (by omega)
   exact ⟨false,rfl,⟨λe=> (by cases e),λh=>absurd r h.1⟩,H,s,h,Pw.refl h.pm (aD.refl w),rfl,bk⟩
 have U:0<c.length:=by
  have:(c.length:Int)≠0:=by simpa using r
  omega
 have ag:c≠[]:=Vb.1 U;have bv:=nF (hl _ (bE U));refine ⟨_,rfl,_,_,_,ae h.st rfl,?_⟩;refine ⟨λI u z=>∃i:Nat,I=i/\i<=ls.length/\z=ls.length - i/\(∃H1 s1,RB W u nb b ib ab vars id H1 s1 lp lc ls sm cl/\Pw w u b H H1 s1/\s1.nc=s.nc/\s1.R .tr= [])/\
  ∀j∈ls.take i,-(c.getD 0 0)∈cl j->(wk c (cl j)).length<=4096/\uB (ls.map cl) (wk c (cl j)),
  ⟨_,0,rfl,vx _,rfl,⟨H,s,h,Pw.refl h.pm (aD.refl w),rfl,bk⟩,λj hj=>by simp at hj⟩,?_⟩
 rintro I u z _ ⟨i,rfl,hi,rfl,⟨H1,s1,h1,P1,n1,t1⟩,O⟩;have b5:Vw sT u cp c:=hc.mK P1.mod λU k hk ⟨x,e⟩=>ho U k hk x e;refine ah (λr=>?_) (λr=>?_)
 . have r:i<ls.length:=by simpa using r
   have hm:=bE r;have tk:∀x,x∈ls.take (i+1)↔x∈ls.take i\/x=ls.getD i 0:=λx=>dS r;refine h1.lo.vw.ix 0 (by omega) rfl (by omega) λa e=>⟨_,e,?_⟩
   rw [tn];generalize hJ:ls.getD i 0=J at*
   have hd:=h1.drew;obtain ⟨sl,b6,ce,dk,bb,bu⟩:=hd.cP hm;have dh:=h1.ll;have ea:=h1.g.Ka;have c1:=h1.ln J hm;refine ⟨λv=>v=u.drew,rfl,_,rfl,_,λv e=>e▸ae hd.st rfl,_,_,_,_,ce,rfl,b5.ix 0 (by omega) rfl (by omega) λa2 e2=>⟨_,λv e=>by subst e;exact e2,?_⟩⟩;try dsimp only
   rw [show ((0:Int).toNat)=0 from rfl,nw _ bv];refine (xE bu bb (by rw [bb];unfold maxLen;omega) _).mono ?_;rintro e Z ⟨rfl,a6⟩;have Y:=P1.grow (((aD.refl u).drew:ak u u.drew).trans a6);have lU:=hd.grow a6;refine ⟨_,rfl,ah (λr2=>?_) (λr2=>?_)⟩
   . have r2: -(c.getD 0 0) ∉ cl J:=by simpa using r2
     refine ⟨_,by omega,i+1,wN,r,rfl,⟨H1,s1,lU,Y,n1,t1⟩,λj hj h2=>?_⟩;rcases (tk j).1 hj with h3|rfl
     . exact O j h3 h2
     . exact absurd h2 r2
   . have r2: -(c.getD 0 0)∈cl J:=by simpa using r2
     have aw:Vw sT Z cp c:=hc.mK Y.mod λU k hk ⟨x,e⟩=>ho U k hk x e;refine (iQ aw rfl (by omega)).mono ?_;rintro e d8 ⟨q,d,rfl,b7,ay,f19⟩;have bg:=lU.grow ay;have d7:=Y.grow ay;obtain ⟨sl2,a_,a',_,V,_⟩:=bg.cP hm;obtain rfl:sl=sl2:=Vo (b6.symm.trans a_);have bi:=bu.grow a6;refine ⟨q,_,d,rfl,_,rfl,_,ae bg.st rfl,_,_,_,_,a',?_⟩;refine ⟨λP N C I u z=>∃k:Nat,I=k/\k<=(cl J).length/\z=(cl J).length - k/\N=(c++wo ((cl J).take k) (-(c.getD 0 0))).length/\dz aq u P C (c++wo ((cl J).take k) (-(c.getD 0 0)))/\(∀y,aG P=some y->Z.heap.size<=y)/\ak Z u,
      ⟨_,0,rfl,vx _,rfl,by simp [wo],by simpa [wo] using b7,f19,ay⟩,?_⟩
     rintro P N C I v z _ ⟨k,rfl,hk,rfl,rfl,o,f,g⟩;have hv:=lU.grow g;have b8:=aw.grow g;refine ah (λX=>?_) (λX=>?_)
     . have X:k< (cl J).length:=by rw [V] at X;simpa using X
       have cm:=Qu (l:=(cl J).take k) (x:= -(c.getD 0 0));rw [GD] at cm;refine (bi.grow g).ix 0 (by omega) V (by omega) λa3 e3=>⟨_,e3,b8.ix 0 (by omega) rfl (by omega) λa4 e4=>⟨_,e4,?_⟩⟩
       try dsimp only
       rw [show ((0:Int).toNat)=0 from rfl,nw _ bv,tn];have cb:(cl J).take (k+1)=(cl J).take k++ [(cl J).getD k 0]:=by
        rw [UR];simp [List.getD,X]
       have ew:wo ((cl J).take (k+1)) (-(c.getD 0 0))=wo ((cl J).take k) (-(c.getD 0 0))++ (if (cl J).getD k 0= -(c.getD 0 0) then [] else [(cl J).getD k 0]):=by
        rw [cb];exact NP _ _ _
       refine ah (λQ=>?_) (λQ=>?_)
       . have Q: ¬(cl J).getD k 0= -(c.getD 0 0):=by simpa using Q
         intro d9 eb aT;rw [if_neg Q] at ew;refine jH (W0:=Z) (o.grow aT.mod) (g.trans aT.mod) f (MG aT) rfl rfl (by simp only [UH,Va];omega) λdu d5 d6 bc cg f37=>?_;rw [U6,<- ew] at bc;refine ⟨_,by omega,k+1,wN,X,rfl,by rw [ew,U6],bc,f37,cg⟩
       . have Q:(cl J).getD k 0= -(c.getD 0 0):=by simpa using Q
         rw [if_pos Q,VF] at ew;exact ⟨_,by omega,k+1,wN,X,rfl,by rw [ew],by rw [ew];exact o,f,g⟩
     . have X:k=(cl J).length:=by rw [V] at X;simp at X;omega
       subst X;rw [K'] at o ⊢;have Pv:=Y.grow g;have er:c++wo (cl J) (-(c.getD 0 0))=wk c (cl J):=rfl;rw [er] at o ⊢;refine ah (λQ=>?_) (λQ=>?_)
       . have Q:(wk c (cl J)).length>4096:=by rw [decide_eq_true_eq] at Q;omega
         refine ⟨false,rfl,⟨λe=> (by cases e),λh=>?_⟩,H1,s1,hv,Pv,n1,t1⟩;have:=(h.2 _ (U1 hm) r2).1;omega
       . have Q:(wk c (cl J)).length<=4096:=by rw [decide_eq_false_iff_not] at Q;omega
         have ar:∀x∈wk c (cl J),bU x=true/\Nt id x:=λx hx=>by
          unfold wk at hx;rcases F'.1 hx with h|h
          . exact ⟨hl x h,hN x h⟩
          . exact h1.lt J hm x (nY.1 h).1
         refine (HF hv t1 o.vw rfl (by omega) (λx hx=> (ar x hx).1) (λx hx=> (ar x hx).2)).mono ?_;rintro e ec ⟨r,rfl,hr,H2,s2,h2,P2,n2,t2⟩;have t2:=t2 (by unfold wk;simp [ag]);have PP:=Pv.trans P2;refine ⟨_,rfl,ah (λr5=>⟨false,rfl,⟨λe=> (by cases e),λh=>?_⟩,H2,s2,h2,PP,n2.trans n1,t2⟩) (λr5=>⟨_,by omega,i+1,wN,by omega,rfl,⟨H2,s2,h2,PP,n2.trans n1,t2⟩,λj hj h3=>?_⟩)⟩
         . have:=hr.2 (h.2 _ (U1 hm) r2).2;rw [this] at r5;cases r5
         . rcases (tk j).1 hj with h4|rfl
           . exact O j h4 h3
           . exact ⟨Q,hr.1 (by simpa using r5)⟩
 . have r:i=ls.length:=by simp at r;omega
   subst r;rw [K'] at O;exact ⟨true,rfl,⟨λ_=>⟨ag,λx hx=>by
    obtain ⟨j,hj,rfl⟩:=L0.1 hx;exact O j hj⟩,λ_=>rfl⟩,H1,s1,h1,P1,n1,t1⟩
end
section
variable {W w w' w0 w2 w3:World} {nb b ib ab:Nat} {vars:Int} {id id':List (Int × Int)} {H H' H2:Pt->Sl} {s t u s':aI} {lp:sn} {lc:Nat} {ls:List Int} {sm:List (Int × Sl)} {cl:Int->List Int} {cp:sn} {n cc:Nat} {c:List Int}
structure RM (W w:World) (nb b ib ab:Nat) (vars:Int) (id:List (Int × Int)) (H:Pt->Sl) (s:aI) (lp:sn) (lc:Nat) (ls:List Int) (sm:List (Int × Sl)) (cl:Int->List Int):Prop where
 st:bT w nb #[.i vars,.map (some ib),ck b,.slice lp ls.length lc,.map (some ab)]
 pm:PM w b H s
 im:MV sT w ib id
 am:MV Sl.v w ab sm
 lo:dz aq w lp lc ls
 rw:∀x∈sm,x.2.n=(cl x.1).length/\x.2.n<=maxLen/\Vw sT w x.2.p (cl x.1)
 d1:∀x k,own b H x=some k->k≠nb/\k≠ib/\k≠ab/\aG lp≠some k
 d2:nb≠ib/\nb≠ab/\ib≠ab/\aG lp≠some nb/\aG lp≠some ib/\aG lp≠some ab
 d3:∀x∈sm,0<x.2.n->∀k,aG x.2.p=some k->k≠nb/\k≠ib/\k≠ab/\aG lp≠some k/\∀y,own b H y≠some k
 wg:ak W w
 wy:W.heap.size<=nb/\W.heap.size<=ib/\W.heap.size<=ab/\(∀k,aG lp=some k->W.heap.size<=k)/\∀x k,own b H x=some k->W.heap.size<=k
def FP (nb ib ab b:Nat) (H:Pt->Sl) (lp:sn) (k:Nat):Prop:=k=nb\/k=ib\/k=ab\/aG lp=some k\/∃x,own b H x=some k
structure RL (id:List (Int × Int)) (s:aI) (ls:List Int) (sm:List (Int × Sl)) (cl:Int->List Int):Prop where
 g:aN s
 be:s.R .be= []
 rE:xK id
 sv:s.vars=id.length
 nd:ls.Nodup
 th:∀i:Nat,s.aO i↔(i:Int)∈ls
 l0:∀i∈ls,0<=i
 lk:∀i∈ls,(al sm i).isSome
 cd:∀i:Nat,s.aO i->s.R (.a i)=(cl i).map (dw id)
 lt:∀i∈ls,∀x∈cl i,bU x=true/\Nt id x
 ln:∀i∈ls,(cl i).length<=4096
 O1:∀x∈sm,0<=x.1/\x.1<s.nc
 ll:ls.length<=s.nc
theorem RB.of (m:RM W w nb b ib ab vars id H s lp lc ls sm cl) (l:RL id s ls sm cl):RB W w nb b ib ab vars id H s lp lc ls sm cl:=
 ⟨m.st,m.pm,l.g,m.im,m.am,m.lo,m.rw,m.d1,m.d2,m.d3,m.wg,m.wy,l.be,l.rE,l.sv,l.nd,l.th,l.l0,l.lk,l.cd,l.lt,l.ln,l.O1,l.ll⟩
theorem RB.rm (h:RB W w nb b ib ab vars id H s lp lc ls sm cl):RM W w nb b ib ab vars id H s lp lc ls sm cl:=
 ⟨h.st,h.pm,h.im,h.am,h.lo,h.rw,h.d1,h.d2,h.d3,h.wg,h.wy⟩
theorem RB.rl (h:RB W w nb b ib ab vars id H s lp lc ls sm cl):RL id s ls sm cl:=
 ⟨h.g,h.be,h.rE,h.sv,h.nd,h.th,h.l0,h.lk,h.cd,h.lt,h.ln,h.O1,h.ll⟩
theorem RM.wV (h:RM W w nb b ib ab vars id H s lp lc ls sm cl) (P:Pw w w' b H H' s'):RM W w' nb b ib ab vars id H' s' lp lc ls sm cl:=by
 have no:∀ {k:Nat},(∀x,own b H x≠some k)->¬∃x,own b H x=some k:=λh ⟨x,e⟩=>h x e;have X:∀x,own b H x≠some nb:=λx e=> (h.d1 x _ e).1 rfl;have Y:∀x,own b H x≠some ib:=λx e=> (h.d1 x _ e).2.1 rfl;have n3:∀x,own b H x≠some ab:=λx e=> (h.d1 x _ e).2.2.1 rfl;refine ⟨h.st.keep P.mod (no X),P.pm,h.im.keep P.mod (no Y),h.am.keep P.mod (no n3),h.lo.keep P.mod λk I ⟨x,e⟩=> (h.d1 x k e).2.2.2 I,λx J=>?_,λx k I=>?_,h.d2,λx J h0 k I=>?_,h.wg.then P.mod λk I ⟨x,e⟩=>?_,⟨h.wy.1,h.wy.2.1,h.wy.2.2.1,h.wy.2.2.2.1,λx k I=>?_⟩⟩
 . obtain ⟨O,Z,U⟩:=h.rw x J;refine ⟨O,Z,U.mK P.mod λV k I ⟨y,e⟩=> (h.d3 x J (by rw [O];exact Vb.2 V) k I).2.2.2.2 y e⟩
 . rcases P.ft x k I with ⟨y,e⟩|e
   . exact h.d1 y k e
   . have l1:=h.st.lt;have l2:=h.im.lt;have l3:=h.am.lt;exact ⟨by omega,by omega,by omega,λQ=>by have:=h.lo.lt k Q;omega⟩
 . obtain ⟨a1,a2,a3,a4,a5⟩:=h.d3 x J h0 k I;refine ⟨a1,a2,a3,a4,λy e=>?_⟩;rcases P.ft y k e with ⟨z,Q⟩|Q
   . exact a5 z Q
   . obtain ⟨O,_,U⟩:=h.rw x J;have:=U.lt (λe3=>by rw [e3] at O;simp at O;omega) k I;omega
 . have:=h.wy.2.2.2.2 x k e;omega
 . rcases P.ft x k I with ⟨y,e⟩|e
   . exact h.wy.2.2.2.2 y k e
   . have:=h.wg.size;omega
structure Sx (id id':List (Int × Int)) (c:List Int):Prop where
 rE:xK id'
 kp:∀x,Nt id x->Nt id' x
 all:∀x∈c,Nt id' x
 len:id'.length<=id.length+c.length
theorem HB {p0 p2 p3 p4:Value} (aw:bT w nb #[p0,.map (some ib),p2,p3,p4]) (az:MV sT w ib id) (uw:xK id) (aa:nb≠ib) (hc:Vw sT w cp c) (a7:c≠[]->aG cp≠some ib) (hn:n=c.length) (hl:∀x∈c,bU x=true) (hlen:id.length+c.length<=1100000):
 Calls prog jW.id #[ck nb,.slice cp n cc] w λe w'=>e=.returned (.tuple #[])/\∃id',aD (·=ib) w w'/\MV sT w' ib id'/\Sx id id' c:=by
 subst hn;refine jW.aj ?_;refine ⟨λI u z=>∃i:Nat,I=i/\i<=c.length/\z=c.length - i/\∃id',aD (·=ib) w u/\MV sT u ib id'/\Sx id id' (c.take i),
  ⟨_,0,rfl,vx _,rfl,id,aD.refl w,az,uw,λ_ h=>h,λx J=>by simp at J,by simp⟩,?_⟩
 rintro I u z _ ⟨i,rfl,hi,rfl,id',Y,mu,nt⟩;refine ah (λr=>?_) (λr=>?_)
 . have r:i<c.length:=by simpa using r
   have tk:∀x,x∈c.take (i+1)↔x∈c.take i\/x=c.getD i 0:=λx=>dS r;refine (hc.mK Y λa8 k hk e=>a7 a8 (by rw [<- e];exact hk)).ix 0 (by omega) rfl (by omega) λa e=>⟨_,e,_,rfl,_,ae (aw.keep Y aa) rfl,?_⟩
   rw [tn];have ag:=hl _ (bE r);have hb:=nF ag;have hz:=qL ag;generalize c.getD i 0=X at*
   have ea:imax X (IntKind.i64.wrap (0 - X))=bh X:=by
    rw [nw X hb];unfold imax bh;split<;>split<;>omega
   rw [ea];have ha:1<=bh X/\bh X<=1048576:=by unfold bh;split<;>omega
   have ar:=mu.cP ly (bh X) (sy u);have Z:((al id' (bh X)).map sT).getD (.i 0)=.i ((al id' (bh X)).getD 0):=by cases al id' (bh X)<;>rfl
   rw [Z] at ar;refine ⟨_,_,ar,ah (λO=>?_) (λO=>?_)⟩
   . have O:(al id' (bh X)).getD 0=0:=by simpa using O
     have a6:al id' (bh X)=none:=by
      cases hv:al id' (bh X) with
      |none=>rfl
      |some v=>
       obtain ⟨j,_,_,rfl⟩:=nt.rE.get hv;rw [hv] at O;simp only [US] at O;omega
     have hd:=mu.drew;have av:=(aw.keep Y aa).drew;have Q:=nt.len;rw [GD] at Q;refine ⟨_,rfl,_,ae av rfl,_,rfl,_,ae av rfl,_,hd.len ly _,?_⟩;rw [wN (i:=id'.length+1) (by omega) (by omega)];obtain ⟨ay,hr,mv,mm,_⟩:=hd.put ly (bh X) ((id'.length+1:Nat):Int);have V:ai id' (bh X) ((id'.length+1:Nat):Int)=id'++ [(bh X,((id'.length+1:Nat):Int))]:=by unfold ai;rw [a6];rfl
     have U:∀y,al (ai id' (bh X) ((id'.length+1:Nat):Int)) y=if y=bh X then some ((id'.length+1:Nat):Int) else al id' y:=λy=>Bh _ _ _ _
     refine ⟨ay,hr,_,by omega,i+1,wN,r,rfl,_,(Y.grow (aD.refl u).drew).trans mm,mv,⟨uF nt.rE.nd _ _,λj hj=>?_,λx J=>?_⟩,λx J=>⟨(nt.kp x J).1,?_⟩,λx J=>?_,?_⟩
     . rw [V] at hj ⊢;rw [UH,Va] at hj;by_cases e:j<id'.length
       . have:=nt.rE.rE j e;simp only [List.getD,UT e] at this ⊢;exact this
       . have:j=id'.length:=by omega
         subst this;simp [List.getD]
     . rw [V] at J;rcases F'.1 J with J|J
       . exact nt.rE.TD x J
       . rw [Bs] at J;rw [J];exact ha
     . rw [U];split
       . rfl
       . exact (nt.kp x J).2
     . rcases (tk x).1 J with J|rfl
       . refine ⟨(nt.all x J).1,?_⟩;rw [U];split
         . rfl
         . exact (nt.all x J).2
       . exact ⟨hz,by rw [U,if_pos rfl];rfl⟩
     . rw [V,UH,Va,GD];omega
   . have O:(al id' (bh X)).getD 0≠0:=by simpa using O
     have aT:(al id' (bh X)).isSome:=by
      cases hv:al id' (bh X) with
      |none=>rw [hv] at O;simp at O
      |some v=>rfl
     have Q:=nt.len;rw [GD] at Q;refine ⟨_,by omega,i+1,wN,r,rfl,id',Y,mu,nt.rE,nt.kp,λx J=>?_,by rw [GD];omega⟩;rcases (tk x).1 J with J|rfl
     . exact nt.all x J
     . exact ⟨hz,aT⟩
 . have r:i=c.length:=by simp at r;omega
   subst r;rw [K'] at nt;exact ⟨rfl,id',Y,mu,nt⟩
def uZ (v:Int) (c:List Int):Int:=c.foldl (λa x=>imax (imax a x) (-x)) v
theorem EE {v:Int} {j:Nat} (r:j<c.length):uZ v (c.take (j+1))=imax (imax (uZ v (c.take j)) (c.getD j 0)) (-(c.getD j 0)):=by
 unfold uZ;rw [UR,XD];simp [List.getD,r]
end
section
variable {W w w' w0 w2 w3:World} {nb b ib ab:Nat} {vars:Int} {id id':List (Int × Int)} {H H' H2:Pt->Sl} {s t u s':aI} {lp:sn} {lc:Nat} {ls:List Int} {sm:List (Int × Sl)} {cl:Int->List Int} {cp:sn} {n cc:Nat} {c:List Int}
theorem CO (hv:∀x∈c,dN n (dw id x)) (hm:n<=1048576) (hlen:c.length<=4096):xN n (c.map (dw id))=true:=by
 unfold xN;rw [ts,UK];constructor
 . unfold jf;rw [ts,UK];first
   |refine ⟨by simpa using hlen,λy J=>?_⟩
    obtain ⟨x,I,rfl⟩:=L0.1 J;have:=hv x I;have:=this.bd hm;have Q:=this;unfold bU;simp only [decide_eq_true_eq];have O:=(hv x I).1;exact ⟨O,this.1,this.2⟩
   |refine ⟨λy J=>?_,by simpa using hlen⟩
    obtain ⟨x,I,rfl⟩:=L0.1 J;have:=(hv x I).bd hm;unfold bU;simp only [decide_eq_true_eq];have O:=(hv x I).1;exact ⟨O,this.1,this.2⟩
 . intro y J;obtain ⟨x,I,rfl⟩:=L0.1 J;exact (jc hm).2 (hv x I)
theorem RL.add (h:RL id s ls sm cl) (g:aN s') (A:lS s (c.map (dw id)) s') (hl:∀x∈c,bU x=true/\Nt id x) (hlen:c.length<=4096) (sl:Sl):
 RL id s' (ls++ [(s.nc:Int)]) (ai sm (s.nc:Int) sl) (λj=>if j=(s.nc:Int) then c else cl j)/\(ls++ [(s.nc:Int)]).map (λj=>if j=(s.nc:Int) then c else cl j)=ls.map cl++ [c]/\ai sm (s.nc:Int) sl=sm++ [((s.nc:Int),sl)]:=by
 have V:∀j∈ls,j< (s.nc:Int):=λj Z=>by
  have h0:=h.l0 j Z;have:=((h.th j.toNat).2 (by rw [Wi h0];exact Z)).1;omega
 have X:al sm (s.nc:Int)=none:=qQ.2 λx J=>by have:=(h.O1 x J).2;omega
 have U:ai sm (s.nc:Int) sl=sm++ [((s.nc:Int),sl)]:=by unfold ai;rw [X];rfl
 have I:∀i,i∈ls++ [(s.nc:Int)]↔i∈ls\/i=(s.nc:Int):=λi=>by simp
 have O:∀i∈ls,(if i=(s.nc:Int) then c else cl i)=cl i:=λi hi=>if_neg (by have:=V i hi;omega);have Q:∀i:Nat,s'.aO i↔s.aO i\/i=s.nc:=λi=>by
  unfold aI.aO;rw [A.n,A.g];by_cases e:i=s.nc
  . subst e;simp
  . rw [if_neg e];exact ⟨λ⟨h1,Y⟩=> .inl ⟨by omega,Y⟩,λh=>h.elim (λ⟨h1,Y⟩=>⟨by omega,Y⟩) λh=>absurd h e⟩
 refine ⟨⟨g,A.be.trans h.be,h.rE,A.v.trans h.sv,?_,λi=>?_,λi hi=>?_,λi hi=>?_,λi hi=>?_,λi hi=>?_,λi hi=>?_,λx J=>?_,?_⟩,?_,U⟩
 . rw [VQ];refine ⟨h.nd,by simp,λx J y hy e=>?_⟩;rw [Bs] at hy;have:=V x J;omega
 . rw [Q,I,h.th];refine or_congr WK (by omega)
 . rcases (I i).1 hi with hi|rfl
   . exact h.l0 i hi
   . omega
 . rw [Bh];split
   . rfl
   . rename_i e;exact h.lk i (((I i).1 hi).resolve_right e)
 . rw [A.a];by_cases e:i=s.nc
   . subst e;simp
   . rw [if_neg e,if_neg (by omega)];exact h.cd i (((Q i).1 hi).resolve_right e)
 . rcases (I i).1 hi with hi|rfl
   . rw [O i hi];exact h.lt i hi
   . rw [if_pos rfl];exact hl
 . rcases (I i).1 hi with hi|rfl
   . rw [O i hi];exact h.ln i hi
   . rw [if_pos rfl];exact hlen
 . rw [U] at J;rw [A.n];rcases F'.1 J with J|J
   . have:=h.O1 x J;omega
   . rw [Bs] at J;rw [J];show 0<=(s.nc:Int)/\(s.nc:Int)<_;omega
 . rw [UH,Va,A.n];have:=h.ll;omega
 . rw [LV,WT,if_pos rfl];refine congrArg (·++ [c]) (Vl O)
theorem OJ (h:RB W w nb b ib ab vars id H s lp lc ls sm cl) (hc:Vw sT W cp c) (hn:n=c.length) (hlen:c.length<=4096) (hl:∀x∈c,bU x=true/\Nt id x) (ec:s.nc<262144):
 Calls prog jG.id #[ck nb,.slice cp n cc] w λe w'=>e=.returned (.tuple #[])/\∃H' s' lp' cb bv ce bi,RB W w' nb b ib ab (uZ vars c) id H' s' lp' cb bv ce bi/\bv.map bi=ls.map cl++ [c]/\s'.nc=s.nc+1/\s'.R .tr=s.R .tr/\aD (FP nb ib ab b H lp) w w'/\(∀k,FP nb ib ab b H' lp' k->FP nb ib ab b H lp k\/w.heap.size<=k):=by
 subst hn;have C:=h.rE.dw;have sv:=h.sv;have hinv:∀x∈c,dN s.vars (dw id x):=λx Q=>by rw [sv];exact h.rE.rO (hl x Q).2
 have hd:=h.drew;refine jG.aj ⟨ak w.drew,aD.refl _,_,rfl,_,λu g=>ae (hd.st.grow g) rfl,(HM hd (hc.grow hd.wg) rfl (by omega) λx Q=> (hl x Q).1).mono ?_⟩;rintro e w4 ⟨q,d,rfl,o4,g4,f4⟩;have h4:=hd.grow g4;refine ⟨_,_,_,rfl,g4,(sb h4.pm h4.g o4.vw (by simp) (by unfold maxLen;omega)).mono ?_⟩;rintro e w6 ⟨r1,r2,rfl,s',H2,P,g',hr⟩;have c7:=CO hinv h.g.eG hlen;have ⟨e1,e2,A⟩:r1=s.nc/\r2=0/\lS s (c.map (dw id)) s':=by
  rcases hr with ⟨_,_,hb,_⟩| ⟨_,_,_,hb,_⟩| ⟨a,a2,_,_,a3⟩
  . rw [c7] at hb;cases hb
  . omega
  . exact ⟨a,a2,a3⟩
 subst e1 e2;have O:=h4.rm.wV P;have ll:=h.ll;refine ⟨_,_,rfl,bA rfl ⟨_,rfl,_,_,_,ae O.st rfl,?_⟩⟩;intro n47 d5 U;have z6:=O.wg.size;have d8:=U.num;have d':=U.mod.size;have i6:=O.st.lt;have i7:=O.im.lt;have i8:=O.am.lt;refine Ow.lP c9 (O.lo.grow U.mod) ((s.nc:Int)) U.has rfl rfl fz (by omega) λb5 p' c' bf aa c3 dq=>?_;have az:∀k,aG p'=some k->aG lp=some k\/w6.heap.size<=k:=λk J=>by
  rcases c3 with rfl|rfl
  . exact .inl J
  . right;have:=aL J;omega
 have bb:=(O.st.grow U.mod).keep aa λe=>O.d2.2.2.2.1 e;refine ⟨_,rfl,cz bb rfl rfl λV ag Y=>?_⟩;have ef:=Y.size;have ax:=ag.drew;have a':ak W V:=((O.wg.trans U.mod).then aa λk J e=>by have:=O.wy.2.2.2.1 k e;omega).then Y λk J e=>by have:=O.wy.1;omega
 refine ⟨ak V.drew,aD.refl _,_,rfl,_,λu g=>ae (ax.grow g) rfl,(iQ (hc.grow a'.drew) rfl (by omega)).mono ?_⟩;rintro e b3 ⟨q2,d2,rfl,cm,av,f56⟩;have f56:∀k,aG q2=some k->V.heap.size<=k:=f56;have bn:MV Sl.v b5 ab sm:=(O.am.grow U.mod).keep aa λe=>O.d2.2.2.2.2.2 e;have bu:MV Sl.v b3 ab sm:=((bn.keep Y λe=>O.d2.2.1 e.symm).drew).grow av;obtain ⟨ay,bx,bc,Z,_⟩:=bu.put Li (s.nc:Int) (⟨q2,c.length,d2⟩:Sl);refine ⟨_,_,_,rfl,av,ay,bx,?_⟩;have X:ak V b3:=((aD.refl V).drew:ak V V.drew).trans av;have co:ak W ay:=(a'.trans X).then Z λk J e=>by have:=O.wy.2.2.1;omega
 have bk:=(ag.grow X).keep Z λe=>O.d2.2.1 e;refine ⟨λI u z=>∃j:Nat,I=j/\j<=c.length/\z=c.length - j/\aD (·=nb) ay u/\bT u nb #[.i (uZ vars (c.take j)),.map (some ib),ck b,.slice p' (ls.length+1) c',.map (some ab)],⟨_,0,rfl,vx _,rfl,aD.refl _,bk⟩,?_⟩;rintro I u z _ ⟨j,rfl,hj,rfl,gu,su⟩;have Gu:ak W u:=co.then gu λk J e=>by have:=O.wy.1;omega
 refine ah (λr=>?_) (λr=>?_)
 . have r:j<c.length:=by simpa using r
   refine (hc.grow Gu).ix 0 (by omega) rfl (by omega) λa e=>⟨_,e,_,rfl,_,ae su rfl,_,rfl,?_⟩
   rw [tn,nw _ (nF (hl _ (bE r)).1),<- EE r];refine cz su rfl rfl λdu b4 c0=>⟨_,by omega,j+1,wN,r,rfl,gu.trans c0,b4⟩
 . have r:j=c.length:=by simp at r;omega
   subst r;rw [K'] at su;obtain ⟨L,bY,bg⟩:=h.rl.add g' A hl hlen ⟨q2,c.length,d2⟩;have MM:aD (λk=>aG lp=some k\/k=nb\/k=ab) w6 u:=by
    have a1:aD (λk=>aG lp=some k\/k=nb\/k=ab) w6 b5:=(U.mod.mono λ_ _ e=>e.elim).then aa λk _ e=> .inl e;have a2:=a1.then Y λk _ e=> .inr (.inl e);have a3:=(a2.then X λk _ e=>e.elim).then Z λk _ e=> .inr (.inr e);exact a3.then gu λk _ e=> .inr (.inl e)
   have z4:=g4.size;have z46:=P.mod.size;have zd:w.drew.heap.size=w.heap.size:=rfl;refine ⟨rfl,H2,s',p',c',_,_,_,RB.of ?_ L,bY,A.n,A.tr,(((((aD.refl w).drew.grow g4:ak w w4)).mono λ_ _ e=>e.elim).then P.mod λk _ e=> .inr (.inr (.inr (.inr e)))).then MM λk _ e=>?_,λk J=>?_⟩
   rotate_left
   . rcases e with e|e|e
     . exact .inr (.inr (.inr (.inl e)))
     . exact .inl e
     . exact .inr (.inr (.inl e))
   . rcases J with e|e|e|e| ⟨x,e⟩
     . exact .inl (.inl e)
     . exact .inl (.inr (.inl e))
     . exact .inl (.inr (.inr (.inl e)))
     . rcases az k e with e|e
       . exact .inl (.inr (.inr (.inr (.inl e))))
       . right;omega
     . rcases P.ft x k e with ⟨y,e⟩|e
       . exact .inl (.inr (.inr (.inr (.inr ⟨y,e⟩))))
       . right;omega
   have G6:=O.wg.size;have hz:∀k,k<w6.heap.size->aG lp≠some k->aG p'≠some k:=λk J hn e=>by
    rcases az k e with e|e
    . exact hn e
    . omega
   have aT:=bf.lt;refine ⟨by simpa using su,O.pm.keep MM λx k J e=>?_,O.im.keep MM λe=>?_,bc.keep gu λe=>O.d2.2.1 e.symm,?_,λx Q=>?_,λx k J=>?_,?_,λx Q h0 k J=>?_,Gu,?_⟩
   . obtain ⟨a1,a2,a3,a4⟩:=O.d1 x k J;rcases e with e|e|e
     . exact a4 e
     . exact a1 e
     . exact a3 e
   . obtain ⟨a1,a2,a3,a4,a5,a6⟩:=O.d2;rcases e with e|e|e
     . exact a5 e
     . exact a1 e.symm
     . exact a3 e
   . have nn:∀k,aG p'=some k->k≠nb/\k≠ab:=λk J=>⟨λe=>hz nb i6 O.d2.2.2.2.1 (e▸J),λe=>hz ab i8 O.d2.2.2.2.2.2 (e▸J)⟩
     exact (((bf.keep Y λk J e=> (nn k J).1 e).grow X).keep Z λk J e=> (nn k J).2 e).keep gu λk J e=> (nn k J).1 e
   . rw [bg] at Q;rcases F'.1 Q with Q|Q
     . obtain ⟨r1,r2,r3⟩:=O.rw x Q;have a7:x.1≠(s.nc:Int):=by have:=(h.O1 x Q).2;omega
       rw [if_neg a7];refine ⟨r1,r2,r3.mK MM λa7 k J e=>?_⟩;obtain ⟨a1,a2,a3,a4,a5⟩:=O.d3 x Q (by rw [r1];exact Vb.2 a7) k J;rcases e with e|e|e
       . exact a4 e
       . exact a1 e
       . exact a3 e
     . rw [Bs] at Q;subst Q;rw [if_pos rfl];refine ⟨rfl,by show c.length<=maxLen;unfold maxLen;omega,(cm.vw.keep Z λk J e=>?_).keep gu λk J e=>?_⟩
       . have:=f56 k J;omega
       . have:=f56 k J;omega
   . obtain ⟨a1,a2,a3,a4⟩:=O.d1 x k J;exact ⟨a1,a2,a3,hz k (O.pm.lt x k J) a4⟩
   . obtain ⟨a1,a2,a3,a4,a5,a6⟩:=O.d2;exact ⟨a1,a2,a3,hz _ i6 a4,hz _ i7 a5,hz _ i8 a6⟩
   . rw [bg] at Q;rcases F'.1 Q with Q|Q
     . obtain ⟨r1,r2,r3⟩:=O.rw x Q;obtain ⟨a1,a2,a3,a4,a5⟩:=O.d3 x Q h0 k J;exact ⟨a1,a2,a3,hz k (r3.lt (λe3=>by rw [e3] at r1;simp at r1;omega) k J) a4,a5⟩
     . rw [Bs] at Q;subst Q;have fk:=f56 k J;refine ⟨by omega,by omega,by omega,λe=>?_,λy e=>?_⟩
       . have:=aT k e;omega
       . have:=O.pm.lt y k e;omega
   . obtain ⟨a1,a2,a3,a4,a5⟩:=O.wy;refine ⟨a1,a2,a3,λk J=>?_,a5⟩;rcases az k J with e|e
     . exact a4 k e
     . omega
end
end Go.Proofs.YtbdghpjnifjlmaaGreat.W
namespace Go.Fw
open Go Go.RowKit
variable {P:Program} {α:Type} {f:α->Value} {T:TypeId} {w w':World} {p q:sn} {c:Nat} {l:List α}
theorem Ow.Dx {t ty e bytes:Nat} (hs:nE P t e bytes=true) (h:Ow f e w p c l) {k m d:Nat} {news:List α} (V:Vw f w q news) (hm:m=news.length) (I:k+m<=l.length) (ho:∀x,(f x).oneCell'=true) {K:World->Prop}
 (O:∀w',Ow f e w' p c (l.take k++news++l.drop (k+m))->aD (λb=>aG p=some b) w w'->K w'):
 ∃w',(Builtin.append_ #[t,t] ty #[.slice p k c,.slice q m d]).run P w=.ok (.slice p (k+m) c) w'/\K w':=by
 obtain ⟨ht,i,z,hi,hz,h1,hb,h3⟩:=nH hs;subst hm;rcases UZ news.length with Q|Q
 . have hn:news= []:=UF Q;subst hn;have hr:=(h.take (k:=k) (by omega)).Rw hs (q:=q) (k:=d) (n:=k) (ty:=ty) (by rw [GD];omega);exact ⟨w,hr,O w (by simpa using h) (aD.refl w)⟩
 . obtain ⟨a,rfl,_⟩:=V 0 Q;rcases h.un with ⟨rfl,rfl,rfl⟩| ⟨g,cur,rfl,X,g1,g2,Z,g4⟩
   . rw [VE] at I;omega
   . have hr:=run_append_room (P:=P) w t ty e i ht hi g k c cur X a news.length d (news.map f) (by simp [h1]) (λj v Y=>by
      have J:j<news.length:=by have:=(Vg.1 Y).1;simpa using this
      obtain ⟨a',ha,U⟩:=V j J;simp only [U4] at ha;subst ha;rw [U];simpa [J] using Y) (λu hu=>by obtain ⟨x,_,rfl⟩:=L0.1 hu;exact ho x) (by omega) (by simp [h1];omega)
     rw [h1,Wt] at hr;refine ⟨_,hr,O _ (Ow.df (setRow_heap w g cur _ e _ X) (by simp;omega) g2 (by simp;omega) ?_) ⟨rfl,rfl,rfl,by simp,λk _ O=>setRow_other w g k _ λhe=>O (by simp [aG,he])⟩⟩;have hl:(l.take k++news++l.drop (k+news.length)).length=l.length:=by simp;omega
     rw [hl,LV,LV,WX,List.map_drop,<- g4];have U:cur.toList.length=c:=by simpa using Z
     apply VO;intro j;simp only [UL,Vf,Xl,UH,GD,VX,U];repeat' split
     all_goals first
      |rfl
      |omega
      | (congr 1;omega)
end Go.Fw
namespace Go.Proofs.YtbdghpjnifjlmaaGreat.W
open Go Go.Fw Go.RowKit Go.SoP Go.LiP
open Go.Proofs.Tryz (prog)
section
variable {w w':World} {p q:sn} {n c:Nat} {l:List Int}
theorem OH (o:dz aq w p c l) (hn:n=l.length) (hm:n<=1000000) {i:Nat} (hi:i<n):
 Calls prog dF.id #[.slice p n c,.i (i:Int),.i ((i+1:Nat):Int)] w λe w'=>e=.returned (.slice p (l.eraseIdx i).length c)/\dz aq w' p c (l.eraseIdx i)/\aD (Bk p) w w':=by
 subst hn;have X:l.length<=c:=by
  rcases o.un with ⟨_,_,rfl⟩| ⟨_,_,_,_,h,_⟩
  . simp at hi
  . exact h
 refine dF.aj ?_;refine eh i (i+1) l.length rfl rfl rfl (by omega) (by omega) (by omega) ?_;refine bA (by simp;omega) ?_;refine eh 0 i c rfl rfl rfl (by omega) (by omega) (by omega) ?_;refine eh (i+1) l.length c rfl rfl rfl (by omega) (by omega) (by omega) ?_;rw [if_neg (by omega),Ql,Ve,Ve];have hv:Vw sT w.drew (if c=i+1 then p else p.map (·.add ((i+1)*1))) (l.drop (i+1)):=by
  by_cases e:c=i+1
  . rw [XG (by omega)];exact Vw.nil
  . rw [if_neg e];have:=(o.drew.vw).part (i:=i+1) (m:=l.length - (i+1)) (by omega)
    rwa [UM (by rw [U0];omega)] at this
 obtain ⟨J,hr,O,Y⟩:=o.drew.Dx c9 (ty:=31) (d:=c - (i+1)) (k:=i) hv (m:=l.length - (i+1)) (by rw [U0]) (by omega) fz (K:=λJ=>dz aq J p c (l.take i++l.drop (i+1)++l.drop (i+ (l.length - (i+1))))/\aD (λb=>aG p=some b) w.drew J) λw' a b=>⟨a,b⟩
 have he:(l.take i++l.drop (i+1))=l.eraseIdx i:=(List.eraseIdx_eq_take_drop_succ ..).symm;have hlen:(l.eraseIdx i).length=l.length - 1:=by rw [List.length_eraseIdx,if_pos hi]
 rw [he] at O;have I:(l.eraseIdx i++l.drop (i+ (l.length - (i+1)))).length=l.length:=by rw [UH,hlen,U0];omega
 have Q:i+ (l.length - (i+1))=l.length - 1:=by omega
 rw [Q] at hr O I;refine ⟨J,_,_,_,hr,?_⟩;refine eh (l.length - 1) l.length c rfl rfl rfl (by omega) (by omega) (by omega) ?_;rw [if_neg (by omega)];refine O.clear c9 jx (x:=(0:Int)) rfl rfl (by rw [I];omega) (by omega) λZ U V=>?_;rw [UO (by omega),UM (by omega)] at U;rw [hlen];exact ⟨rfl,U,(aD.mono ((aD.refl w).drew:ak w w.drew) λ_ _ e=>e.elim).trans (Y.trans V)⟩
end
section
variable {W w w' w0 w2 w3:World} {nb b ib ab:Nat} {vars:Int} {id id':List (Int × Int)} {H H' H2:Pt->Sl} {s t u s':aI} {lp:sn} {lc:Nat} {ls:List Int} {sm:List (Int × Sl)} {cl:Int->List Int} {cp:sn} {n cc:Nat} {c:List Int}
def p8 (c:List Int):List (List Int)->List (List Int)
 | []=> []
 |x::l=>if aY x=aY c then l else x::p8 c l
theorem Ia:∀ {cs:List (List Int)} {i:Nat},i<cs.length->(∀j,j<i->aY (cs.getD j [])≠aY c)->aY (cs.getD i [])=aY c->p8 c cs=cs.eraseIdx i
 | [],_,h,_,_=>by simp at h
 |x::l,0,_,_,h=>by
  have h:aY x=aY c:=h;show (if aY x=aY c then l else _)=_;rw [if_pos h];rfl
 |x::l,i+1,hi,hj,h=>by
  have I:aY x≠aY c:=hj 0 (by omega);show (if aY x=aY c then l else x::p8 c l)=_;rw [if_neg I,List.eraseIdx_cons_succ];exact congrArg _ (Ia (by simpa using hi) (λj h=>hj (j+1) (by omega)) h)
theorem Il:∀ {cs:List (List Int)},(∀j,j<cs.length->aY (cs.getD j [])≠aY c)->p8 c cs=cs
 | [],_=>rfl
 |x::l,h=>by
  have I:aY x≠aY c:=h 0 (by simp);show (if aY x=aY c then l else x::p8 c l)=_;rw [if_neg I];exact congrArg _ (Il λj J=>h (j+1) (by simpa using J))
theorem tf {α β:Type} {f:α->β} {l:List α} {i:Nat} (h:i<l.length) (d:α) (e:β):(l.map f).getD i e=f (l.getD i d):=by simp [List.getD,h]
theorem Nd (h1:∀x∈c,bU x=true) (I:c.length<=4096):jf c=true:=by
 unfold jf;rw [ts,UK,decide_eq_true_eq];exact ⟨h1,I⟩
theorem aN.NR (g:aN s) (ht:s.R .tr= []) {x:Int} (I:dN s.vars x): ¬0<s.val x:=by
 rcases aI.ri g.wf x with e|e|e
 . omega
 . have:=(g.v1 x I).1 e;rw [ht] at this;simp at this
 . omega
theorem l7 (i:Nat):(s.drop i).vars=s.vars/\(s.drop i).nc=s.nc:=by
 obtain ⟨J,I,Q,O⟩:=jk i ((s.R (.l i)).take 2) s;exact ⟨J,I⟩
theorem RL.drop (h:RL id s ls sm cl) {i:Nat} (hi:i<ls.length) (g:aN (s.drop (ls.getD i 0).toNat)):RL id (s.drop (ls.getD i 0).toNat) (ls.eraseIdx i) sm cl:=by
 have hm:=bE hi;have h0:=h.l0 _ hm;obtain ⟨v1,v2⟩:=l7 (s:=s) (ls.getD i 0).toNat;have I:∀x∈ls.eraseIdx i,x∈ls:=λx J=>List.mem_of_mem_eraseIdx J;have U:∀x,x∈ls.eraseIdx i↔x∈ls/\x≠ls.getD i 0:=λx=>by
  rw [List.mem_eraseIdx_iff_getElem];have Y:ls.getD i 0=ls[i]:=by simp [List.getD,hi]
  rw [Y];constructor
  . rintro ⟨j,X,O,rfl⟩;exact ⟨V_ _,λe=>O ((V9 h.nd).1 e)⟩
  . rintro ⟨J,O⟩;obtain ⟨j,X,rfl⟩:=I'.1 J;exact ⟨j,X,λe=>O (by subst e;rfl),rfl⟩
 have V:∀k:Nat,(s.drop (ls.getD i 0).toNat).aO k↔(k:Int)∈ls.eraseIdx i:=λk=>by
  rw [gD,U,h.th];refine and_congr WK ?_;omega
 refine ⟨g,?_,h.rE,v1.trans h.sv,h.nd.sublist (List.eraseIdx_sublist ..),V,λx J=>h.l0 x (I x J),λx J=>h.lk x (I x J),λk Z=>?_,λx J=>h.lt x (I x J),λx J=>h.ln x (I x J),λx J=>by rw [v2];exact h.O1 x J,?_⟩
 . rw [q7 _ _ (by simp) (by simp) (by simp) (by simp)];exact h.be
 . have Q:=gD.1 Z;rw [q7 _ _ (by simp) (by simp) (by simpa using Q.2) (by simp)];exact h.cd k Q.1
 . rw [v2];have:=h.ll;have:=List.length_eraseIdx_le ls i;omega
theorem K9 (h:RB W w nb b ib ab vars id H s lp lc ls sm cl) (ag:s.R .tr= []) (hc:Vw sT w cp c) (hn:n=c.length) (a8:jf c=true):
 Calls prog iS.id #[ck nb,.slice cp n cc] w λe w'=>e=.returned (.tuple #[])/\∃H' s' a7,RB W w' nb b ib ab vars id H' s' lp lc a7 sm cl/\a7.map cl=p8 c (ls.map cl)/\s'.nc=s.nc/\s'.R .tr= []/\aD (FP nb ib ab b H lp) w w'/\(∀k,FP nb ib ab b H' lp k->FP nb ib ab b H lp k\/w.heap.size<=k):=by
 subst hn;have b':=(cy a8).2;have ce:=h.ll;have dh:=h.g.Ka;refine iS.aj ((uy hc rfl (by unfold maxLen;omega)).mono ?_);rintro e w1 ⟨q,d,m,hm,rfl,o1,g1⟩;rw [a8] at hm;simp only [if_true] at hm;subst hm;have h1:=h.grow g1;refine ⟨_,_,_,_,rfl,_,rfl,_,_,_,ae h1.st rfl,?_⟩;refine ⟨λI u z=>∃i:Nat,I=i/\i<=ls.length/\z=ls.length - i/\ak w1 u/\∀j,j<i->aY (cl (ls.getD j 0))≠aY c,⟨_,0,rfl,vx _,rfl,aD.refl _,λj hj=>by omega⟩,?_⟩;rintro I u z _ ⟨i,rfl,hi,rfl,gu,ar⟩;have hu:=h1.grow gu;refine ah (λr=>?_) (λr=>?_)
 . have r:i<ls.length:=by simpa using r
   have hm:=bE r;refine hu.lo.vw.ix 0 (by omega) rfl (by omega) λa e=>⟨_,e,?_⟩
   rw [tn];obtain ⟨sl,c2,b7,cg,az,bv⟩:=hu.cP hm;have b6:jf (cl (ls.getD i 0))=true:=Nd (λx Y=> (h.lt _ hm x Y).1) (h.ln _ hm);have co:=h.ln _ hm;refine ⟨_,rfl,_,ae hu.st rfl,_,_,_,_,b7,(uy bv az (by rw [az];unfold maxLen;omega)).mono ?_⟩;rintro e cm ⟨q2,d2,m2,aw,rfl,bu,ay⟩;rw [b6] at aw;simp only [if_true] at aw;subst aw;have nl:=p9 (cl (ls.getD i 0));refine ⟨_,_,_,_,rfl,(E7 bu.vw rfl (by unfold maxLen;omega) ((o1.grow gu).grow ay).vw rfl).mono ?_⟩;rintro e a' ⟨rfl,b8⟩;have Q:=(gu.trans ay).trans b8;have J:=h1.grow Q;refine ⟨_,rfl,ah (λV=>?_) (λV=>?_)⟩
   . have V:aY (cl (ls.getD i 0))=aY c:=by simpa using V
     refine ⟨_,rfl,_,_,_,ae J.st rfl,?_⟩;rw [wN (i:=i+1) (by omega) (by omega)];refine (OH J.lo rfl (by omega) r).mono ?_;rintro e bx ⟨rfl,bn,bk⟩;obtain ⟨a1,a2,a3,a4,a5,a6⟩:=J.d2;have X:aD (λk=>aG lp=some k) a' bx:=bk;have aT:=J.st.keep X λe=>a4 e;refine ⟨_,_,_,rfl,_,rfl,cz aT rfl rfl λav bc a_=>?_⟩;have Z:aD (λk=>aG lp=some k\/k=nb) a' av:=(X.mono λk _ e=> .inl e).then a_ λk _ e=> .inr e;have aa:RM W av nb b ib ab vars id H s lp lc (ls.eraseIdx i) sm cl:=by
      refine ⟨bc,J.pm.keep Z λx k O e=>?_,J.im.keep Z λe=>?_,J.am.keep Z λe=>?_,bn.keep a_ λk O e=>a4 (e▸O),λx Y=>?_,J.d1,J.d2,J.d3,J.wg.then Z λk O e=>?_,J.wy⟩
      . obtain ⟨b1,b2,b3,b4⟩:=J.d1 x k O;exact e.elim b4 b1
      . exact e.elim a5 λe=>a1 e.symm
      . exact e.elim a6 λe=>a2 e.symm
      . obtain ⟨r1,V,r3⟩:=J.rw x Y;refine ⟨r1,V,r3.mK Z λb_ k O e=>?_⟩;obtain ⟨b1,b2,b3,b4,b5⟩:=J.d3 x Y (by rw [r1];exact Vb.2 b_) k O;exact e.elim b4 b1
      . rcases e with e|e
        . have:=J.wy.2.2.2.1 k e;omega
        . have:=J.wy.1;omega
     have h0:=h.l0 _ hm;have hJ:(((ls.getD i 0).toNat:Nat):Int)=ls.getD i 0:=Wi h0;have U:s.aO (ls.getD i 0).toNat:=(h.th _).2 (by rw [hJ];exact hm);have bb:∀x∈s.R (.l (ls.getD i 0).toNat),¬(0<s.val x/\s.m_ x=(((ls.getD i 0).toNat:Nat):Int)):=λx Y e=>h.g.NR ag (h.g.cv _ U x Y) e.1;have b9:s.is (ls.getD i 0)=true:=by
      unfold aI.is;have:=U.1;rw [U.2];simp only [Yd,WZ,decide_eq_true_eq];omega
     refine ⟨_,rfl,_,ae aa.st rfl,(CT aa.pm h.g (ls.getD i 0)).mono ?_⟩;rintro e bi ⟨c0,rfl,H',hr⟩;have P:Pw av bi b H H' (s.drop (ls.getD i 0).toNat):=by
      rcases hr with ⟨_,hf,_⟩| ⟨_,_,⟨x,Y,h1,h2⟩,_⟩| ⟨_,_,_,hP⟩
      . rw [b9] at hf;cases hf
      . exact absurd ⟨h1,h2⟩ (bb x Y)
      . exact hP
     refine ⟨_,rfl,rfl,H',_,_,RB.of (aa.wV P) (h.rl.drop r (sS h.g U bb)),?_,(l7 _).2,?_,(((g1.trans Q).mono λ_ _ e=>e.elim).then Z λk _ e=>e.elim (λe=> .inr (.inr (.inr (.inl e)))) λe=> .inl e).then P.mod λk _ e=> .inr (.inr (.inr (.inr e))),λk O=>?_⟩
     . rw [Ia (i:=i) (by simpa using r) (λj hj=>by rw [tf (by omega) 0];exact ar j hj) (by rw [tf r 0];exact V)];exact Go.ChangeMaps.map_eraseIdx _ _ _
     . rw [q7 _ _ (by simp) (by simp) (by simp) (by simp)];exact ag
     . rcases O with e|e|e|e| ⟨x,e⟩
       . exact .inl (.inl e)
       . exact .inl (.inr (.inl e))
       . exact .inl (.inr (.inr (.inl e)))
       . exact .inl (.inr (.inr (.inr (.inl e))))
       . rcases P.ft x k e with ⟨y,e⟩|e
         . exact .inl (.inr (.inr (.inr (.inr ⟨y,e⟩))))
         . right;have a1:=(g1.trans Q).size;have a2:=Z.size;omega
   . have V:aY (cl (ls.getD i 0))≠aY c:=by simpa using V
     refine ⟨_,by omega,i+1,wN,r,rfl,Q,λj hj=>?_⟩;by_cases e:j<i
     . exact ar j e
     . obtain rfl:j=i:=by omega
       exact V
 . have r:i=ls.length:=by simp at r;omega
   subst r;exact ⟨rfl,H,s,ls,hu,(Il λj hj=>by rw [tf (by simpa using hj) 0];exact ar j (by simpa using hj)).symm,rfl,ag,(g1.trans gu).mono λ_ _ e=>e.elim,λk O=> .inl O⟩
end
section
variable {W w w' w0 w2 w3:World} {nb b ib ab k:Nat} {vars:Int} {id id':List (Int × Int)} {cs:List (List Int)} {t:Bool} {A A':Nat->Prop} {cp lp lp':sn} {n cc:Nat} {c:List Int} {H H':Pt->Sl} {s s':aI} {lc:Nat} {ls:List Int} {sm:List (Int × Sl)} {cl:Int->List Int}
theorem RB.TO (h:RB W w nb b ib ab vars id H s lp lc ls sm cl):∀k,FP nb ib ab b H lp k->k<w.heap.size:=by
 rintro k (rfl|rfl|rfl|e| ⟨x,e⟩)
 . exact h.st.lt
 . exact h.im.lt
 . exact h.am.lt
 . exact h.lo.lt k e
 . exact h.pm.lt x k e
theorem Pw.fp (P:Pw w w' b H H' s'):aD (FP nb ib ab b H lp) w w'/\∀k,FP nb ib ab b H' lp k->FP nb ib ab b H lp k\/w.heap.size<=k:=by
 refine ⟨P.mod.mono λk _ e=> .inr (.inr (.inr (.inr e))),λk I=>?_⟩;rcases I with e|e|e|e| ⟨x,e⟩
 . exact .inl (.inl e)
 . exact .inl (.inr (.inl e))
 . exact .inl (.inr (.inr (.inl e)))
 . exact .inl (.inr (.inr (.inr (.inl e))))
 . rcases P.ft x k e with ⟨y,e⟩|e
   . exact .inl (.inr (.inr (.inr (.inr ⟨y,e⟩))))
   . exact .inr e
def Aw (A:Nat->Prop) (w:World) (F:Nat->Prop):Prop:=∀j,A j->j<w.heap.size/\¬F j
theorem Aw.go {F J:Nat->Prop} (h:Aw A w F) (M:aD F w w') (f:∀k,J k->F k\/w.heap.size<=k):Aw A w' J/\aD (λj=> ¬A j) w w':=by
 refine ⟨λj I=>⟨by have:=(h j I).1;have:=M.size;omega,λe=>?_⟩,M.mono λk _ e O=> (h k O).2 e⟩;rcases f j e with e|e
 . exact (h j I).2 e
 . have:=(h j I).1;omega
def Wk (t:Bool) (A:Nat->Prop) (W w:World) (nb:Nat) (vars:Int) (id:List (Int × Int)) (cs:List (List Int)) (k:Nat):Prop:=
 ∃b ib ab H s lp lc ls sm cl,RB W w nb b ib ab vars id H s lp lc ls sm cl/\ls.map cl=cs/\s.nc<=k/\(t=true->s.R .tr= [])/\Aw A w (FP nb ib ab b H lp)
theorem Wk.KO (h:Wk t A W w nb vars id cs k) (Q:∀j,A' j->A j):Wk t A' W w nb vars id cs k:=by
 obtain ⟨b,ib,ab,H,s,lp,lc,ls,sm,cl,h,h1,I,O,J⟩:=h;exact ⟨b,ib,ab,H,s,lp,lc,ls,sm,cl,h,h1,I,O,λj U=>J j (Q j U)⟩
theorem Wk.enter (h:Wk t A W w nb vars id cs k) (g:ak w w'):Wk t (λj=>A j\/(w.heap.size<=j/\j<w'.heap.size)) W w' nb vars id cs k:=by
 obtain ⟨b,ib,ab,H,s,lp,lc,ls,sm,cl,h,h1,O,Q,J⟩:=h;refine ⟨b,ib,ab,H,s,lp,lc,ls,sm,cl,h.grow g,h1,O,Q,λj I=>?_⟩;have U:=g.size;rcases I with I|I
 . exact ⟨by have:=(J j I).1;omega,(J j I).2⟩
 . exact ⟨I.2,λe=>by have:=h.TO j e;omega⟩
theorem Wk.wg (h:Wk t A W w nb vars id cs k):ak W w:=by
 obtain ⟨b,ib,ab,H,s,lp,lc,ls,sm,cl,h,h1,I,J⟩:=h;exact h.wg
theorem Wk.len (h:Wk t A W w nb vars id cs k):cs.length<=k:=by
 obtain ⟨b,ib,ab,H,s,lp,lc,ls,sm,cl,h,rfl,I,J⟩:=h;rw [UL];have:=h.ll;omega
theorem Wk.has (h:Wk t A W w nb vars id cs k):∃p2 I J:Value,∃ (lp:sn) (lc:Nat),bT w nb #[.i vars,p2,I,.slice lp cs.length lc,J]:=by
 obtain ⟨b,ib,ab,H,s,lp,lc,ls,sm,cl,h,rfl,O,Q⟩:=h;rw [UL];exact ⟨_,_,_,_,_,h.st⟩
theorem Wk.up (h:Wk t A W w nb vars id cs k):Wk t A W w nb vars id cs (k+1):=by
 obtain ⟨b,ib,ab,H,s,lp,lc,ls,sm,cl,h,h1,O,J,I⟩:=h;exact ⟨b,ib,ab,H,s,lp,lc,ls,sm,cl,h,h1,by omega,J,I⟩
theorem Wk.unit (h:Wk true A W w nb vars id cs k) (Y:Vw sT W cp c) (hn:n=c.length) (I:n<=100000) (hl:∀x∈c,bU x=true/\Nt id x):
 Calls prog gE.id #[ck nb,.slice cp n cc] w λe w'=>∃r:Bool,e=.returned (.bool r)/\(r=true↔uB cs c)/\Wk (!c.isEmpty) A W w' nb vars id cs k/\aD (λj=> ¬A j) w w':=by
 obtain ⟨b,ib,ab,H,s,lp,lc,ls,sm,cl,h,rfl,Z,V,U⟩:=h;refine (HF h (V rfl) (Y.grow h.wg) hn I (λx I=> (hl x I).1) (λx I=> (hl x I).2)).mono ?_;rintro e w' ⟨r,rfl,hr,H',s',Q,P,O,ht⟩;obtain ⟨J,p2⟩:=P.fp (nb:=nb) (ib:=ib) (ab:=ab) (lp:=lp);obtain ⟨a1,a2⟩:=U.go J p2;exact ⟨r,rfl,hr,⟨b,ib,ab,H',s',lp,lc,ls,sm,cl,Q,rfl,by omega,λe=>ht λX=>by subst X;simp at e,a1⟩,a2⟩
theorem Wk.first (h:Wk (!c.isEmpty) A W w nb vars id cs k) (O:Vw sT W cp c) (hn:n=c.length) (J:n<=90000) (hl:∀x∈c,bU x=true/\Nt id x):
 Calls prog fg.id #[ck nb,.slice cp n cc] w λe w'=>∃r:Bool,e=.returned (.bool r)/\(r=true↔fB cs c)/\Wk (!c.isEmpty) A W w' nb vars id cs k/\aD (λj=> ¬A j) w w':=by
 by_cases I:c= []
 . subst I;subst hn;exact fg.aj (bP rfl ⟨false,rfl,⟨λe=> (by cases e),λh=>absurd rfl h.1⟩,h,aD.refl w⟩)
 . obtain ⟨b,ib,ab,H,s,lp,lc,ls,sm,cl,h,rfl,h2,Y,X⟩:=h;refine (LJ h (Y (by simpa using I)) (O.grow h.wg) hn J (λx J=> (hl x J).1) (λx J=> (hl x J).2) λ_ k Z x e=>?_).mono ?_
   . have:=O.lt I k Z;have:=h.wy.2.2.2.2 x k e;omega
   . rintro e w' ⟨r,rfl,hr,H',s',V,P,U,ht⟩;obtain ⟨Q,p2⟩:=P.fp (nb:=nb) (ib:=ib) (ab:=ab) (lp:=lp);obtain ⟨a1,a2⟩:=X.go Q p2;exact ⟨r,rfl,hr,⟨b,ib,ab,H',s',lp,lc,ls,sm,cl,V,rfl,by omega,λ_=>ht,a1⟩,a2⟩
theorem Wk.add (h:Wk t A W w nb vars id cs k) (X:Vw sT W cp c) (hn:n=c.length) (hlen:c.length<=4096) (hl:∀x∈c,bU x=true/\Nt id x) (hk:k<262144):
 Calls prog jG.id #[ck nb,.slice cp n cc] w λe w'=>e=.returned (.tuple #[])/\Wk t A W w' nb (uZ vars c) id (cs++ [c]) (k+1)/\aD (λj=> ¬A j) w w':=by
 obtain ⟨b,ib,ab,H,s,lp,lc,ls,sm,cl,h,rfl,h2,h3,Z⟩:=h;refine (OJ h X hn hlen hl (by omega)).mono ?_;rintro e w' ⟨rfl,H',s',lp',O,Q,I,J,Y,hm,V,ht,U,p2⟩;obtain ⟨a1,a2⟩:=Z.go U p2;exact ⟨rfl,⟨b,ib,ab,H',s',lp',O,Q,I,J,Y,hm,by omega,λe=>ht.trans (h3 e),a1⟩,a2⟩
theorem Wk.drop (h:Wk true A W w nb vars id cs k) (Y:Vw sT W cp c) (hn:n=c.length) (I:jf c=true):
 Calls prog iS.id #[ck nb,.slice cp n cc] w λe w'=>e=.returned (.tuple #[])/\Wk true A W w' nb vars id (p8 c cs) k/\aD (λj=> ¬A j) w w':=by
 obtain ⟨b,ib,ab,H,s,lp,lc,ls,sm,cl,h,rfl,Z,X,V⟩:=h;refine (K9 h (X rfl) (Y.grow h.wg) hn I).mono ?_;rintro e w' ⟨rfl,H',s',J,U,hm,Q,ht,O,p2⟩;obtain ⟨a1,a2⟩:=V.go O p2;exact ⟨rfl,⟨b,ib,ab,H',s',lp,lc,J,sm,cl,U,hm,by omega,λ_=>ht,a1⟩,a2⟩
theorem Wk.Ux {del:Bool} (h:Wk true A W w nb vars id cs k) (Z:Vw sT W cp c) (hn:n=c.length) (hlen:c.length<=4096) (hl:∀x∈c,bU x=true/\Nt id x) (hk:k<262144):
 Calls prog kJ.id #[ck nb,.agg #[.bool del,.slice cp n cc]] w λe w'=>∃r:Int,e=.returned (.i r)/\aD (λj=> ¬A j) w w'/\
  ((del=true/\r=0/\Wk true A W w' nb vars id (p8 c cs) k)\/(del=false/\(uB cs c\/fB cs c)/\r=0/\Wk (!c.isEmpty) A W w' nb (uZ vars c) id (cs++ [c]) (k+1))\/(del=false/\¬(uB cs c\/fB cs c)/\r=7/\Wk (!c.isEmpty) A W w' nb vars id cs k)):=by
 subst hn;have aT:jf c=true:=Nd (λx hx=> (hl x hx).1) hlen;refine kJ.aj ?_;intro Y w2 I;have e2:=I.num;have i1:=I.has.lt;have hh:=h.enter I.mod;have lt:∀j,A j->j<w.heap.size:=by
  obtain ⟨b,ib,ab,H,s,lp,lc,ls,sm,cl,_,_,_,_,h4⟩:=h;exact λj hj=> (h4 j hj).1
 have dG:∀ {t v X kk u},Wk t (λj=>A j\/(w.heap.size<=j/\j<w2.heap.size)) W u nb v id X kk->Wk t A W u nb v id X kk:=λh=>h.KO λj hj=> .inl hj;have fm:∀ {u:World},aD (λj=> ¬(A j\/(w.heap.size<=j/\j<w2.heap.size))) w2 u->aD (λj=> ¬A j) w u:=λm=> (I.mod.mono λ_ _ e=>e.elim).then m λk _ e e2=>e (.inl e2);have V:A Y\/(w.heap.size<=Y/\Y<w2.heap.size):=.inr ⟨by omega,i1⟩;refine ⟨_,ae I.has rfl,?_⟩;cases del with
 |true=>
  refine bP rfl ⟨_,_,_,ae I.has rfl,(hh.drop Z rfl aT).mono ?_⟩;rintro e w5 ⟨rfl,h5,m5⟩;exact ⟨rfl,0,rfl,fm m5,.inl ⟨rfl,rfl,dG h5⟩⟩
 |false=>
  obtain ⟨_,_,_,_,_,hs⟩:=hh.has;have bY:=hh.len;refine bA rfl ⟨_,rfl,_,_,_,ae hs rfl,bA (by simp;omega) ⟨_,_,_,ae I.has rfl,(hh.unit Z rfl (by omega) hl).mono ?_⟩⟩;rintro e w9 ⟨r,rfl,hr,k9,m9⟩;have n9:bT w9 Y _:=I.has.keep m9 λe=>e V;refine ⟨r,rfl,ah (λJ=>?_) (λJ=>?_)⟩
  . have J: ¬uB cs c:=λe=>by rw [hr.2 e] at J;cases J
    refine ⟨_,_,_,ae n9 rfl,(k9.first Z rfl (by omega) hl).mono ?_⟩;rintro e ay ⟨r2,rfl,U,Q,O⟩;have a_:bT ay Y _:=n9.keep O λe=>e V;refine ⟨_,rfl,ah (λr3=>?_) (λr3=>?_)⟩
    . exact ⟨7,rfl,fm (m9.trans O),.inr (.inr ⟨rfl,λe=>e.elim J λe=> (by rw [U.2 e] at r3;cases r3),rfl,dG Q⟩)⟩
    . have hf:fB cs c:=U.1 (by simpa using r3);refine ⟨_,_,_,ae a_ rfl,(Q.add Z rfl hlen hl hk).mono ?_⟩;rintro e bx ⟨rfl,a8,a6⟩;exact ⟨rfl,0,rfl,fm ((m9.trans O).trans a6),.inr (.inl ⟨rfl,.inr hf,rfl,dG a8⟩)⟩
  . have J:uB cs c:=hr.1 (by simpa using J);refine ⟨_,_,_,ae n9 rfl,(k9.add Z rfl hlen hl hk).mono ?_⟩;rintro e bi ⟨rfl,aw,ax⟩;exact ⟨rfl,0,rfl,fm (m9.trans ax),.inr (.inl ⟨rfl,.inl J,rfl,dG aw⟩)⟩
end
end Go.Proofs.YtbdghpjnifjlmaaGreat.W
