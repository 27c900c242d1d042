/- Layer 6: the statements PropSound and PropNobody. -/
import Derived.Test.YtenmibfmhccmiaaGreatPropB
import Derived.Test.YtenmibfmhccmiaaGreatFwRead
import Derived.Test.YtenmibfmhccmiaaGreatFwMem
import Derived.Maps.OwnSet
import Derived.Test.YtenmibfmhccmiaaGreatSortA
import Derived.Test.YtenmibfmhccmiaaGreatQuotaA
namespace Go.Proofs.YtenmibfmhccmiaaGreat.W
open Go Go.Fw Go.RowKit Go.SoP Go.LiP
section
variable {w w' w0 w2 w3:World} {b:Nat} {H H' H2:Pt->Sl} {s t u s' T:aH} {p cp gp dp ap:Option Addr} {hs:List Sl} {cs:List (List Int)} {gl:List Bool} {dl c m:List Int} {cn cc gn gc dn dc an ac:Nat} {v:Int}
theorem p6 {n:Nat} {l:Int} (hn:n<=1048576) (h:dB n l):bq l=true:=by
 have:=(ir hn).2 h;unfold xC at this;simp only [Bool.and_eq_true] at this;exact this.1
end
section
variable {w w' w0 w2 w3:World} {b:Nat} {H H' H2:Pt->Sl} {s t u s' T:aH} {p cp gp dp ap:Option Addr} {hs:List Sl} {cs:List (List Int)} {gl:List Bool} {dl c m:List Int} {cn cc gn gc dn dc an ac:Nat} {v:Int}
theorem Et (l:Int):(s.decide l).R .tr=s.R .tr++ [l]:=by
 unfold aH.decide;rw [pO];unfold aH.je;rw [aq (by simp),aq (by simp)]
end
section
variable {cs:List (List Int)} {c d T T':List Int} {κ:Int->Int}
def KD (T:List Int):Prop:= ∀x∈T,-x ∉ T
def NH (cs:List (List Int)) (T:List Int):Prop:= ∀c∈cs,bS c T=false/\b9 c T=0
def NZ (cs:List (List Int)):Prop:= ∀c∈cs,∀x∈c,x≠0
def nY (c:List Int):List Int:=c.map fun x=> -x
theorem px {x:Int}:x∈nY c↔ -x∈c:=by
 unfold nY;rw [List.mem_map];exact ⟨fun ⟨y,I,e⟩=>by rw [<- e,Int.neg_neg];exact I,fun h=> ⟨-x,h,Int.neg_neg x⟩⟩
theorem zi (h:Ad cs d T): ∀x∈d,x∈T:=by
 induction h with
 |refl=>exact fun _ h=>h
 |step _ _ _ ih=>exact fun x I=>List.mem_append_left _ (ih x I)
theorem Bo (h: ∀x∈T,x∈T') (hb:bS c T=true):bS c T'=true:=cw.2 fun x I=>h _ (cw.1 hb x I)
theorem FW (U: ∀x∈c,x≠0) (h1:bS c T'=false) (O:b9 c T'=0) (Q:KD T') (hs: ∀x∈T,x∈T') (hu:b9 c T≠0):b9 c T∈T':=by
 obtain ⟨a1,a2,a3,a4⟩:=lA U hu;rcases Classical.em (b9 c T∈T') with h|h
 . exact h
 . exfalso;have hn: -(b9 c T) ∉ T':=fun e=>by
    rw [<- Bool.not_eq_true,cw] at h1;exact h1 fun y J=> (a4 y J).elim (fun I=>by rw [I];exact e) fun I=>hs _ I
   have:=ly (t:=T') (l:=b9 c T) hu hn c 0 (fun y J=>by
    rcases a4 y J with e|e
    . exact ⟨by rw [e];exact h,.inl e⟩
    . exact ⟨fun I=>Q y I (hs _ e),.inr (hs _ e)⟩) (.inr ⟨rfl,a1⟩)
   unfold b9 at O;rw [O] at this;exact hu this.symm
theorem Ji (Y:NZ cs) (O:NH cs T') (U:KD T') (X: ∀x∈d,x∈T') (h:Ad cs d T): ∀x∈T,x∈T':=by
 induction h with
 |refl=>exact X
 |step h1 J V Q=>
  intro x I;rcases List.mem_append.1 I with I|I
  . exact Q x I
  . rw [List.mem_singleton] at I;rw [I];exact FW (Y _ J) (O _ J).1 (O _ J).2 U Q V
theorem zh (Q:NZ cs) (J:KD d) (h:Ad cs d T):KD T:=by
 induction h with
 |refl=>exact J
 |step h1 h2 h3 O=>
  rename_i t c;obtain ⟨_,a2,a3,_⟩:=lA (Q _ h2) h3;intro x I e;rcases List.mem_append.1 I with I|I
  . rcases List.mem_append.1 e with e|e
    . exact O x I e
    . rw [List.mem_singleton] at e;exact a3 (by rw [<- e,Int.neg_neg];exact I)
  . rw [List.mem_singleton] at I;rcases List.mem_append.1 e with e|e
    . rw [I] at e;exact a3 e
    . rw [List.mem_singleton] at e;omega
def xq (cs:List (List Int)) (T:List Int):Nat:=(cs.filter fun c=> !c.any fun x=>decide (x∈T)).length
theorem qK (Q:NZ cs) (O:c∈cs) (hu:b9 c T≠0):xq cs (T++ [b9 c T])<xq cs T:=by
 obtain ⟨a1,a2,a3,a4⟩:=lA (Q _ O) hu;unfold xq;have I:(cs.filter fun c'=> !c'.any fun x=>decide (x∈T++ [b9 c T])).length< (cs.filter fun c'=> !c'.any fun x=>decide (x∈T)).length:=by
  rw [<- List.countP_eq_length_filter,<- List.countP_eq_length_filter];have key: ∀l:List (List Int),c∈l->l.countP (fun c'=> !c'.any fun x=>decide (x∈T++ [b9 c T]))<l.countP (fun c'=> !c'.any fun x=>decide (x∈T)):=by
   intro l;have le: ∀l:List (List Int),l.countP (fun c'=> !c'.any fun x=>decide (x∈T++ [b9 c T]))<=l.countP (fun c'=> !c'.any fun x=>decide (x∈T)):=fun l=>by
    refine List.countP_mono_left fun x _ h=> ?_;simp only [Bool.not_eq_true',List.any_eq_false,decide_eq_true_eq] at h ⊢;exact fun y J e=>h y J (List.mem_append_left _ e)
   induction l with
   |nil=>intro h;simp at h
   |cons y l X=>
    intro h;rw [List.countP_cons,List.countP_cons];rcases List.mem_cons.1 h with h|h
    . subst h;have V:(!c.any fun x=>decide (x∈T++ [b9 c T]))=false:=by
       simp only [Bool.not_eq_false',List.any_eq_true,decide_eq_true_eq];exact ⟨_,a1,by simp⟩
      have U:(!c.any fun x=>decide (x∈T))=true:=by
       simp only [Bool.not_eq_true',List.any_eq_false,decide_eq_true_eq];intro y J e;obtain ⟨a,b⟩:=rP c 0 (Q _ O) hu;exact (a y J).1 e
      have:=le l;rw [V,U,if_neg (by simp),if_pos rfl];omega
    . have:=X h;have hm:(if (!y.any fun x=>decide (x∈T++ [b9 c T]))=true then 1 else 0)<=if (!y.any fun x=>decide (x∈T))=true then 1 else 0:=by
       have:=le [y];simpa [List.countP_cons] using this
      omega
  exact key cs O
 exact I
theorem Gh (cs:List (List Int)) (T:List Int):xq cs T<=cs.length:=List.length_filter_le _ _
theorem zF (O:NZ cs): ∀ (n:Nat) (T:List Int),xq cs T<=n->Ad cs d T->∃T',Ad cs d T'/\((∃x∈cs,bS x T'=true)\/NH cs T'):=by
 intro n
 induction n with
 |zero=>
  intro T h J;rcases Classical.em (∃x∈cs,bS x T=true) with hb|hb
  . exact ⟨T,J,.inl hb⟩
  . refine ⟨T,J,.inr fun c I=> ⟨by rw [<- Bool.not_eq_true];exact fun e=>hb ⟨c,I,e⟩,?_⟩⟩;rcases Classical.em (b9 c T=0) with e|e
    . exact e
    . have:=qK O I e;omega
 |succ n ih=>
  intro T h J;rcases Classical.em (∃x∈cs,bS x T=true) with hb|hb
  . exact ⟨T,J,.inl hb⟩
  rcases Classical.em (∃c∈cs,b9 c T≠0) with ⟨c,I,e⟩|hn
  . have:=qK O I e;exact ih _ (by omega) (.step J I e)
  . exact ⟨T,J,.inr fun c I=> ⟨by rw [<- Bool.not_eq_true];exact fun e=>hb ⟨c,I,e⟩,Classical.byContradiction fun e=>hn ⟨c,I,e⟩⟩⟩
def uB (cs:List (List Int)) (c:List Int):Prop:=mL c=true\/∃T,Ad cs (nY c) T/\∃x∈cs,bS x T=true
theorem o_:mL c=true↔∃x∈c,-x∈c:=by unfold mL;simp
theorem wC (h:mL c=false):KD (nY c):=by
 intro x I e;rw [<- Bool.not_eq_true,o_] at h;rw [px] at I e;rw [Int.neg_neg] at e;exact h ⟨x,e,I⟩
theorem K7 (O:NZ cs) (h:mL c=false) (U:Ad cs (nY c) T) (J:NH cs T): ¬uB cs c:=by
 rintro (Q| ⟨T',I,x,V,hb⟩)
 . rw [h] at Q;cases Q
 . have:=Bo (Ji O J (zh O (wC h) U) (zi U) I) hb;rw [(J x V).1] at this;cases this
theorem zv (U:NZ cs) (h:mL c=false) (J:Ad cs (nY c) T) (Q:(∃x∈cs,bS x T=true)\/NH cs T):uB cs c↔∃x∈cs,bS x T=true:=by
 rcases Q with hb|I
 . exact ⟨fun _=>hb,fun _=> .inr ⟨T,J,hb⟩⟩
 . refine ⟨fun V=>absurd V (K7 U h J I),fun ⟨x,O,hb⟩=> ?_⟩;rw [(I x O).1] at hb;cases hb
theorem JH {s:aH} (g:aL s) {r:Int} (ht:N_ s r) (J: ∀x,x∈cs↔s.CJ x) (U:mL c=false) (h1: ∀x∈c,-x∈s.R .tr) (h2: ∀x∈s.uc,-x∈c):r>=0↔uB cs c:=by
 have X:NZ cs:=fun x I y hy=> (g.LM ((J x).1 I) y hy).1;obtain ⟨T,V,Y⟩:=zF (cs:=cs) (d:=nY c) X _ _ (Nat.le_refl _) .refl;rw [zv X U V Y];have O:=zh X (wC U) V;have Q:=zi V;rcases ht with ⟨rfl,hC⟩| ⟨i,rfl,hB⟩
 . have hs:=hC.Oj g (fun x I=> (J x).1 I) (fun x I=>by rw [px] at I;have:=h1 _ I;rwa [Int.neg_neg] at this) V;refine ⟨fun h=>by omega,fun ⟨x,I,hb⟩=> ?_⟩;rw [hC.Ft g hs ((J x).1 I)] at hb;cases hb
 . refine ⟨fun _=> ?_,fun _=>by omega⟩;rcases Y with hb|Z
   . exact hb
   . exfalso;have hs:=g.sH (T:=T) (fun x I=>Q x (px.2 (h2 x I))) O fun c hc=>Z c ((J c).2 hc);have:=(Z _ ((J _).2 ⟨i,hB.1,rfl⟩)).1;rw [<- Bool.not_eq_true,cw] at this;exact this fun x I=>hs _ (hB.2 x I)
structure xl (N:Int->Prop) (κ:Int->Int):Prop where
 neg: ∀x,κ (-x)= -κ x
 inj: ∀x y,N x->N y->κ x=κ y->x=y
 nz: ∀x,N x->κ x≠0
 sym: ∀x,N x->N (-x)
 n0: ¬N 0
theorem xl.z {N:Int->Prop} (h:xl N κ):κ 0=0:=by have:=h.neg 0;simp at this;omega
theorem xl.mem {N:Int->Prop} (h:xl N κ) {x:Int} (I:N x) (O: ∀y∈T,N y):κ x∈T.map κ↔x∈T:=by
 rw [List.mem_map];exact ⟨fun ⟨y,J,e⟩=>by rw [<- h.inj y x (O y J) I e];exact J,fun I=> ⟨x,I,rfl⟩⟩
theorem xl.u5 {N:Int->Prop} (h:xl N κ) {x:Int} (I:N x) (J: ∀y∈T,N y): -κ x∈T.map κ↔ -x∈T:=by rw [<- h.neg];exact h.mem (h.sym x I) J
theorem xl.BV {N:Int->Prop} (h:xl N κ) (Q: ∀y∈T,N y): ∀ (c:List Int) (o:Int),(∀x∈c,N x)->(o=0\/N o)->iQ (T.map κ) (c.map κ) (κ o)=κ (iQ T c o)
 | [],o,_,_=>rfl
 |x::c,o,hc,I=>by
  have O:=hc x (List.mem_cons_self ..);have J: ∀y∈c,N y:=fun y Y=>hc y (List.mem_cons_of_mem _ Y);rw [List.map_cons];unfold iQ;have U:κ x∈T.map κ↔x∈T:=h.mem O Q;have V:(-κ x∈T.map κ\/κ x=κ o)↔(-x∈T\/x=o):=by
   rw [h.u5 O Q];refine or_congr Iff.rfl ⟨fun e=> ?_,fun e=>by rw [e]⟩;rcases I with rfl|I
   . rw [h.z] at e;exact absurd e (h.nz x O)
   . exact h.inj x o O I e
  have X:κ o≠0↔o≠0:=by
   rcases I with rfl|I
   . rw [h.z]
   . exact ⟨fun _ e=>h.n0 (e▸I),fun _=>h.nz o I⟩
  by_cases a1:x∈T
  . rw [if_pos (U.2 a1),if_pos a1,h.z]
  . rw [if_neg (fun e=>a1 (U.1 e)),if_neg a1];by_cases a2: -x∈T\/x=o
    . rw [if_pos (V.2 a2),if_pos a2];exact h.BV Q c o J I
    . rw [if_neg (fun e=>a2 (V.1 e)),if_neg a2];by_cases a3:o≠0
      . rw [if_pos (X.2 a3),if_pos a3,h.z]
      . rw [if_neg (fun e=>a3 (X.1 e)),if_neg a3];exact h.BV Q c x J (.inr O)
theorem xl.CX {N:Int->Prop} (h:xl N κ) (J: ∀y∈T,N y) (I: ∀x∈c,N x):b9 (c.map κ) (T.map κ)=κ (b9 c T):=by
 have:=h.BV J c 0 I (.inl rfl);rw [h.z] at this;exact this
theorem xl.oC {N:Int->Prop} (h:xl N κ) (O: ∀y∈T,N y) (J: ∀x∈c,N x):bS (c.map κ) (T.map κ)=bS c T:=by
 rw [Bool.eq_iff_iff,cw,cw];constructor
 . intro hb x I;exact (h.u5 (J x I) O).1 (hb _ (List.mem_map_of_mem I))
 . intro hb y Q;obtain ⟨x,I,rfl⟩:=List.mem_map.1 Q;exact (h.u5 (J x I) O).2 (hb x I)
theorem xl.HU {N:Int->Prop} (h:xl N κ) (J: ∀x∈c,N x):mL (c.map κ)=mL c:=by
 rw [Bool.eq_iff_iff,o_,o_];constructor
 . rintro ⟨y,Q,O⟩;obtain ⟨x,I,rfl⟩:=List.mem_map.1 Q;exact ⟨x,I,(h.u5 (J x I) J).1 O⟩
 . rintro ⟨x,I,O⟩;exact ⟨κ x,List.mem_map_of_mem I,(h.u5 (J x I) J).2 O⟩
theorem Hj {N:Int->Prop} (X:NZ cs) (J: ∀c∈cs,∀x∈c,N x) (U: ∀x∈d,N x) (h:Ad cs d T): ∀x∈T,N x:=by
 induction h with
 |refl=>exact U
 |step h1 O Q V=>
  intro x I;rcases List.mem_append.1 I with I|I
  . exact V x I
  . rw [List.mem_singleton] at I;rw [I];exact J _ O _ (lA (X _ O) Q).1
theorem xl.Oj {N:Int->Prop} (h:xl N κ) (O:NZ cs) (I: ∀c∈cs,∀x∈c,N x) (Q: ∀x∈d,N x) (U:Ad cs d T):Ad (cs.map (List.map κ)) (d.map κ) (T.map κ):=by
 induction U with
 |refl=>exact .refl
 |step h1 h2 h3 ih=>
  rename_i t c;have J:=Hj O I Q h1;rw [List.map_append,List.map_singleton,<- h.CX J (I _ h2)];refine .step ih (List.mem_map_of_mem h2) ?_;rw [h.CX J (I _ h2)];exact h.nz _ (I _ h2 _ (lA (O _ h2) h3).1)
theorem xl.Ni {N:Int->Prop} (h:xl N κ) (c:List Int):nY (c.map κ)=(nY c).map κ:=by
 unfold nY;rw [List.map_map,List.map_map];exact List.map_congr_left fun x _=> (h.neg x).symm
theorem xl.OG {N:Int->Prop} (h:xl N κ) (J: ∀c∈cs,∀x∈c,N x) (hc: ∀x∈c,N x):uB (cs.map (List.map κ)) (c.map κ)↔uB cs c:=by
 have X:NZ cs:=fun x O y Y e=>h.n0 (e▸J x O y Y);have hn: ∀x∈nY c,N x:=fun x O=>by rw [px] at O;have:=h.sym _ (hc _ O);rwa [Int.neg_neg] at this
 cases ht:mL c with
 |true=>exact ⟨fun _=> .inl ht,fun _=> .inl (by rw [h.HU hc];exact ht)⟩
 |false=>
  have ad:NZ (cs.map (List.map κ)):=fun x O y Y=>by
   obtain ⟨Z,I,rfl⟩:=List.mem_map.1 O;obtain ⟨y',aa,rfl⟩:=List.mem_map.1 Y;exact h.nz _ (J _ I _ aa)
  obtain ⟨T,hF,hT⟩:=zF (cs:=cs) (d:=nY c) X _ _ (Nat.le_refl _) .refl;have Q:=Hj X J hn hF;have V:=h.Oj X J hn hF;rw [<- h.Ni] at V;rw [zv X ht hF hT];have U:(∃x∈cs.map (List.map κ),bS x (T.map κ)=true)↔∃x∈cs,bS x T=true:=by
   constructor
   . rintro ⟨x,O,hb⟩;obtain ⟨Z,I,rfl⟩:=List.mem_map.1 O;exact ⟨Z,I,by rwa [h.oC Q (J _ I)] at hb⟩
   . rintro ⟨x,O,hb⟩;exact ⟨_,List.mem_map_of_mem O,by rwa [h.oC Q (J _ O)]⟩
  rw [zv ad (by rw [h.HU hc];exact ht) V (hT.imp (fun e=>U.2 e) fun hE x O=> ?_),U];obtain ⟨Z,I,rfl⟩:=List.mem_map.1 O;rw [h.oC Q (J _ I),h.CX Q (J _ I),(hE _ I).2,h.z];exact ⟨(hE _ I).1,rfl⟩
end
section
variable {w w' w0 w2 w3:World} {p q:Option Addr} {n m c d:Nat} {l t T:List Int} {hs:List Sl} {cs:List (List Int)}
theorem l4 {x:Int} (h:bq x=true): -1048576<=x/\x<=1048576:=by
 unfold bq at h;simp only [decide_eq_true_eq] at h;exact ⟨h.2.1,h.2.2⟩
theorem zC {x:Int} (h:bq x=true):x≠0:=by
 unfold bq at h;simp only [decide_eq_true_eq] at h;exact h.1
theorem uy (V:V2 (Value.int .i64) w p hs cs) (hn:n=cs.length) (hx:n<=90000) (ht:Vw (Value.int .i64) w q t) (hm:m=t.length) (cm:m<=100000) (a7: ∀c∈cs,∀x∈c,bq x=true):
 Calls Tryz.prog dq.id #[.slice p n c,.slice q m d] w fun e w'=> ∃ (T:List Int) (br:Bool) (q2:Option Addr) (d2:Nat),e= .returned (.tuple #[.slice q2 T.length d2,.bool br])/\da aC w' q2 d2 T/\Ad cs t T/\
  (br=true->∃c∈cs,bS c T=true)/\(br=false->∀c∈cs,bS c T=false/\b9 c T=0)/\ao w w'/\∀b,aJ q2=some b->w.heap.size<=b:=by
 have hz:NZ cs:=fun c V x hx=>zC (a7 c V x hx);refine dq.ak ?_;intro n1 w2 h2;have e1:=h2.num;have ov:da aC w2 (some ⟨n1,0,none⟩) 0 []:=aY.o0 h2;refine d6 (W0:=w) ov h2.mod (fun b hb=>by have:=aO hb;omega) (ht.grow h2.mod) rfl hm (by simp;omega) fun w3 p3 c3 o3 g3 f3=> ?_;rw [List.nil_append] at o3 ⊢;refine ⟨fun P N C J u z=> ∃ (j:Nat) (T:List Int),J=j/\N=T.length/\z=cs.length - j/\T.length=t.length+j/\j+xq cs T<=cs.length/\Ad cs t T/\da aC u P C T/\(∀b,aJ P=some b->w.heap.size<=b)/\ao w u,⟨_,0,t,rfl,rfl,rfl,rfl,by have:=Gh cs t;omega,.refl,o3,f3,g3⟩,?_⟩;rintro P N C J bk z _ ⟨j,T,rfl,rfl,rfl,di,c2,hF,oT,fT,gT⟩;have ay:=oT.vw;have aw:T.length<=maxLen:=by unfold maxLen;omega
 refine cu (by rw [decide_eq_true_eq];omega) ?_;refine ⟨fun X I u z=> ∃i:Nat,I=i/\i<=cs.length/\z=cs.length - i/\ao bk u/\(∀c∈cs.take i,bS c T=false)/\((X=0/\∀c∈cs.take i,b9 c T=0)\/(X≠0/\∃c∈cs,X=b9 c T)),
  ⟨_,0,rfl,Nat.zero_le _,rfl,aF.refl _,fun c V=>by simp at V,.inl ⟨rfl,fun c V=>by simp at V⟩⟩,?_⟩
 rintro X I cT z _ ⟨i,rfl,hi,rfl,O,ad,U⟩;have aT:=V.grow (gT.trans O);refine aj (fun r=> ?_) (fun r=> ?_)
 . have r:i<cs.length:=by rw [hn] at r;simpa using r
   have Z:cs.getD i []∈cs:=by simp [List.getD,r]
   have az: ∀x∈cs.getD i [],-1048576<=x/\x<=1048576:=fun x hx=>l4 (a7 _ Z x hx);have tk: ∀c,c∈cs.take (i+1)↔c∈cs.take i\/c=cs.getD i []:=fun c=>by
    rw [List.take_add_one,List.mem_append];simp [List.getD,r]
   refine aT.ix (by omega) hn (by omega) fun a sl k1 k0 k2 k3 k4=> ⟨_,_,_,k1,?_⟩
   rw [Int.toNat_natCast] at k2 k4;refine (yQ k4 k2 k3 (ay.grow O) rfl aw az).mono ?_;rintro e ce ⟨rfl,Y⟩;refine ⟨_,rfl,?_⟩;cases hb:bS (cs.getD i []) T with
   |true=>
    refine cu rfl ⟨T,true,_,_,rfl,oT.grow (O.trans Y),hF,fun _=> ⟨_,Z,hb⟩,fun h=> (by cases h),gT.trans (O.trans Y),fT⟩
   |false=>
    refine bm rfl (aj (fun Q=> ?_) (fun Q=> ?_))
    . have Q:X=0:=by simpa using Q
      refine (aT.grow Y).ix (by omega) hn (by omega) fun a sl k1 k0 k2 k3 k4=> ⟨_,_,_,k1,?_⟩
      rw [Int.toNat_natCast] at k2 k4;refine (CG k4 k2 k3 (ay.grow (O.trans Y)) rfl aw az).mono ?_;rintro e b' ⟨rfl,bx⟩;refine ⟨_,rfl,_,?_,i+1,wN (by omega) (by omega),r,rfl,O.trans (Y.trans bx),fun c V=> ?_,?_⟩
      . omega
      . rcases (tk c).1 V with h|h
        . exact ad c h
        . rw [h];exact hb
      . by_cases e0:b9 (cs.getD i []) T=0
        . refine .inl ⟨e0,fun c V=> ?_⟩;rcases (tk c).1 V with h|h
          . rcases U with U|U
            . exact U.2 c h
            . exact absurd Q U.1
          . rw [h];exact e0
        . exact .inr ⟨e0,_,Z,rfl⟩
    . have Q:X≠0:=by simpa using Q
      refine ⟨_,?_,i+1,wN (by omega) (by omega),r,rfl,O.trans Y,fun c V=> ?_,?_⟩
      . omega
      . rcases (tk c).1 V with h|h
        . exact ad c h
        . rw [h];exact hb
      . rcases U with U|U
        . exact absurd U.1 Q
        . exact .inr U
 . have r:i=cs.length:=by rw [hn] at r;simp at r;omega
   subst r;rw [List.take_length] at ad;refine aj (fun Q=> ?_) (fun Q=> ?_)
   . have Q:X=0:=by simpa using Q
     refine ⟨T,false,_,_,rfl,oT.grow O,hF,fun h=> (by cases h),fun _ c V=> ⟨ad c V,?_⟩,gT.trans O,fT⟩;rcases U with U|U
     . rw [List.take_length] at U;exact U.2 c V
     . exact absurd Q U.1
   . have Q:X≠0:=by simpa using Q
     obtain ⟨_,c,a6,aa⟩:=U.resolve_left fun h=>Q h.1;have bv:Ad cs t (T++ [X]):=by rw [aa];exact .step hF a6 (by rw [<- aa];exact Q)
     have ar:=qK (T:=T) hz a6 (by rw [<- aa];exact Q);rw [<- aa] at ar;intro n25 c0 ag;have b7:=(gT.trans O).trans ag.mod;refine d6 (W0:=w) ((oT.grow O).grow ag.mod) b7 fT (Hb ag) rfl rfl (by simp;omega) fun dk b_ du b4 b6 f27=> ?_;refine ⟨_,?_,j+1,T++ [X],wN (by omega) (by omega),rfl,rfl,by simp;omega,by omega,bv,b4,f27,b6⟩;omega
theorem pA {k:List Int} (hc:V2 (Value.int .i64) w p hs cs) (hn:n=cs.length) (Q:n<=90000) (U: ∀c∈cs,∀x∈c,bq x=true) (hk:Vw (Value.int .i64) w q k) (hm:m=k.length) (ay:m<=100000) (O: ∀x∈k,bq x=true):
 Calls Tryz.prog fC.id #[.slice p n c,.slice q m d] w fun e w'=> ∃r:Bool,e= .returned (.bool r)/\(r=true↔uB cs k)/\ao w w':=by
 have hz:NZ cs:=fun c hc x Q=>zC (U c hc x Q);refine fC.ak ((Cg hk hm (by unfold maxLen;omega) O).mono ?_);rintro e w1 ⟨rfl,V⟩;refine ⟨_,rfl,aj (fun r=> ⟨true,rfl,⟨fun _=> .inl r,fun _=>rfl⟩,V⟩) (fun ar=> ?_)⟩;intro n3 w4 X;have e3:=X.num;have g4:=V.trans X.mod;have s1:=V.size;refine ⟨fun P N C I u z=> ∃i:Nat,I=i/\i<=k.length/\z=k.length - i/\N=i/\da aC u P C (nY (k.take i))/\(∀b,aJ P=some b->w.heap.size<=b)/\ao w u,⟨_,0,rfl,Nat.zero_le _,rfl,rfl,aY.o0 X,fun b hb=>by have:=aO hb;omega,g4⟩,?_⟩;rintro P N C I u z _ ⟨i,rfl,hi,rfl,hN,o,f,g⟩;have hlen:(nY (k.take i)).length=i:=by unfold nY;simp;omega
 refine aj (fun r=> ?_) (fun r=> ?_)
 . have r:i<k.length:=by rw [hm] at r;simpa using r
   refine (hk.grow g).ix 0 (by omega) hm (by omega) fun a e=> ⟨_,e,?_⟩
   rw [Int.toNat_natCast];have hb:=l4 (O _ (bg r));rw [nw _ hb];intro a7 a8 J;refine d6 (W0:=w) (o.grow J.mod) (g.trans J.mod) f (Hb J) (hN.trans hlen.symm) rfl (by rw [hlen];simp;omega) fun ax az a' Z ag f15=> ?_;have aa:nY (k.take (i+1))=nY (k.take i)++ [-(k.getD i 0)]:=by
    unfold nY;rw [List.take_add_one,List.map_append];simp [List.getD,r]
   refine ⟨_,by omega,i+1,wN (by omega) (by omega),r,rfl,by rw [List.length_append,hlen];rfl,by rw [aa];exact Z,f15,ag⟩
 . have r:i=k.length:=by rw [hm] at r;simp at r;omega
   subst r;rw [List.take_length] at o hlen;refine (uy (hc.grow g) hn Q o.vw (hN.trans hlen.symm) (by omega) U).mono ?_;rintro e aT ⟨T,br,q2,d2,rfl,oT,hF,h1,h2,Y,_⟩;refine ⟨_,_,_,_,rfl,br,rfl,?_,g.trans Y⟩;rw [zv hz ar hF (by
    cases br with
    |true=>exact .inl (h1 rfl)
    |false=>exact .inr (h2 rfl))]
   cases br with
   |true=>exact ⟨fun _=>h1 rfl,fun _=>rfl⟩
   |false=>exact ⟨fun e=> (by cases e),fun ⟨x,Q,hb⟩=>by rw [(h2 rfl x Q).1] at hb;cases hb⟩
def sD (k c:List Int):List Int:=k++wo c (-(k.getD 0 0))
def fB (cs:List (List Int)) (k:List Int):Prop:=k≠[]/\∀c∈cs,-(k.getD 0 0)∈c->(sD k c).length<=4096/\uB cs (sD k c)
theorem yR {k:List Int} (Y:V2 (Value.int .i64) w p hs cs) (hn:n=cs.length) (hx:n<=90000) (a8: ∀c∈cs,∀x∈c,bq x=true) (cb: ∀c∈cs,c.length<=4096) (hk:Vw (Value.int .i64) w q k) (hm:m=k.length) (du:m<=90000) (av: ∀x∈k,bq x=true):
 Calls Tryz.prog eG.id #[.slice p n c,.slice q m d] w fun e w'=> ∃r:Bool,e= .returned (.bool r)/\(r=true↔fB cs k)/\ao w w':=by
 refine eG.ak (aj (fun r=> ?_) (fun r=> ?_))
 . have r:k= []:=by
    have:(m:Int)=0:=by simpa using r
    exact List.eq_nil_of_length_eq_zero (by omega)
   exact ⟨false,rfl,⟨fun e=> (by cases e),fun h=>absurd r h.1⟩,aF.refl w⟩
 have aT:0<k.length:=by
  have:(m:Int)≠0:=by simpa using r
  omega
 have ay:k≠[]:=List.length_pos_iff.1 aT;have cg:=av _ (bg aT);have a_:=l4 cg;refine ⟨fun I u z=> ∃i:Nat,I=i/\i<=cs.length/\z=cs.length - i/\ao w u/\∀c∈cs.take i,-(k.getD 0 0)∈c->(sD k c).length<=4096/\uB cs (sD k c),⟨_,0,rfl,Nat.zero_le _,rfl,aF.refl w,fun c Y=>by simp at Y⟩,?_⟩;rintro I u z _ ⟨i,rfl,hi,rfl,g,Q⟩;refine aj (fun r=> ?_) (fun r=> ?_)
 . have r:i<cs.length:=by rw [hn] at r;simpa using r
   have U:cs.getD i []∈cs:=by simp [List.getD,r]
   have tk: ∀c,c∈cs.take (i+1)↔c∈cs.take i\/c=cs.getD i []:=fun c=>by
    rw [List.take_add_one,List.mem_append];simp [List.getD,r]
   have gd:=g.drew;have kx: ∀ {u:World},ao w u->∀ {K:Addr->Prop},(∀a,u.cell? a=some (.int .i64 (k.getD 0 0))->K a)->aP q m 0 1 K:=fun {u} g {K} hK=>by
    refine (hk.grow g).ix 0 (by omega) hm (by omega) fun a e=>hK a ?_;simpa using e
   have a6: ∀ {u:World},ao w u->∀ {K:Addr->Prop},(∀a (s:Sl),u.cell? a=some (.slice s.p s.n s.c)->s=hs.getD i Sl.nil->s.n=(cs.getD i []).length->s.n<=maxLen->Vw (Value.int .i64) u s.p (cs.getD i [])->K a)->aP p n (i:Int) 1 K:=fun {u} g {K} hK=>by
    refine (Y.grow g).ix (by omega) hn (by omega) fun a sl k1 k0 k2 k3 k4=>hK a sl k1 ?_ ?_ k3 ?_
    . simpa using k0
    . simpa using k2
    . simpa using k4
   refine a6 gd fun a sl k1 k0 k2 k3 k4=> ⟨_,_,_,k1,kx gd fun a2 e2=> ⟨_,e2,?_⟩⟩
   rw [nw _ a_];refine (sL k4 k2 k3 _).mono ?_;rintro e J ⟨rfl,b5⟩;have O:=gd.trans b5;refine ⟨_,rfl,aj (fun X=> ?_) (fun X=> ?_)⟩
   . have X: -(k.getD 0 0) ∉ cs.getD i []:=by simpa using X
     refine ⟨_,by omega,i+1,wN (by omega) (by omega),r,rfl,O,fun c Y h=> ?_⟩;rcases (tk c).1 Y with h3|h3
     . exact Q c h3 h
     . rw [h3] at h;exact absurd h X
   . have X: -(k.getD 0 0)∈cs.getD i []:=by simpa using X
     have G0:=O.drew;refine ⟨ao J,(aF.refl J).drew,?_⟩;intro d5 b' ad;have Z:ao J b':=(aF.refl J).drew.trans ad.mod;have d':=ad.num;have ea:=O.size;have zd:J.drew.heap.size=J.heap.size:=rfl;refine ⟨Z,?_⟩;refine d6 (W0:=J) (aY.o0 ad) Z (fun b hb=>by have:=aO hb;omega) (hk.grow (O.trans Z)) rfl hm (by simp;omega) fun c7 dw eb a7 ag f15=> ?_;rw [List.nil_append] at a7 ⊢;refine ⟨ag,a6 O fun a sl2 b_ dd aw d8 ce=> ⟨_,_,_,fun u hu=>dZ hu b_ id,kx O fun a2 e2=> ⟨_,fun u hu=>dZ hu e2 id,?_⟩⟩⟩;rw [nw _ a_];have c1:=cb _ U;refine (B2 (ce.grow ag) aw (by rw [aw];omega) _).mono ?_;rintro e d9 ⟨q2,d2,rfl,bu,ax,f21⟩;have dT:=Ct (l:=cs.getD i []) (x:= -(k.getD 0 0));refine ⟨_,_,_,rfl,?_⟩;refine d6 (W0:=J) (a7.grow ax) (ag.trans ax) f15 bu.vw rfl rfl (by omega) fun c3 di d4 bv b7 f23=> ?_;have az: ∀x∈k++wo (cs.getD i []) (-(k.getD 0 0)),bq x=true:=fun x hx=>by
      rcases List.mem_append.1 hx with h|h
      . exact av x h
      . exact a8 _ U x (nW.1 h).1
     have V:=O.trans b7;refine aj (fun r3=> ?_) (fun r3=> ?_)
     . have r3:(k++wo (cs.getD i []) (-(k.getD 0 0))).length>4096:=by rw [decide_eq_true_eq] at r3;omega
       refine ⟨false,rfl,⟨fun e=> (by cases e),fun h=> ?_⟩,V⟩;have:=(h.2 _ U X).1;unfold sD at this;omega
     . have r3:(k++wo (cs.getD i []) (-(k.getD 0 0))).length<=4096:=by rw [decide_eq_false_iff_not] at r3;omega
       refine (pA (Y.grow V) hn hx a8 bv.vw rfl (by omega) az).mono ?_;rintro e dk ⟨r,rfl,hr,a'⟩;refine ⟨_,rfl,aj (fun r4=> ⟨false,rfl,⟨fun e=> (by cases e),fun h=> ?_⟩,V.trans a'⟩) (fun r4=> ⟨_,by omega,i+1,wN (by omega) (by omega),by omega,rfl,V.trans a',fun c Y h=> ?_⟩)⟩
       . have:=hr.2 (h.2 _ U X).2;rw [this] at r4;cases r4
       . rcases (tk c).1 Y with h3|h3
         . exact Q c h3 h
         . rw [h3];exact ⟨r3,hr.1 (by simpa using r4)⟩
 . have r:i=cs.length:=by rw [hn] at r;simp at r;omega
   subst r;rw [List.take_length] at Q;exact ⟨true,rfl,⟨fun _=> ⟨ay,Q⟩,fun _=>rfl⟩,g⟩
end
end Go.Proofs.YtenmibfmhccmiaaGreat.W
namespace Go.Fw
open Go Go.RowKit Go.MapKept
variable {P:Program} {α:Type} {g:α->Value} {t k e:TypeId} {w w':World} {b:Nat} {m:List (Int × α)}
def CD (P:Program) (t k e:TypeId):Bool:=
 (match P.underlying t with|some (.map I J)=>Nat.beq I k && Nat.beq J e|_=>false) && (match P.underlying k with|some (.int .i64)=>true|_=>false)
theorem sO (h:CD P t k e=true):P.underlying t=some (.map k e)/\P.underlying k=some (.int .i64):=by
 simp only [CD,Bool.and_eq_true] at h;obtain ⟨h1,I⟩:=h;constructor
 . split at h1
   . rename_i J O hu;simp only [Bool.and_eq_true] at h1;rw [hu,Nat.eq_of_beq_eq_true h1.1,Nat.eq_of_beq_eq_true h1.2]
   . simp at h1
 . split at I
   . assumption
   . simp at I
def al (m:List (Int × α)) (a:Int):Option α:=(m.find? fun x=>x.1==a).map (·.2)
def ai (m:List (Int × α)) (a:Int) (v:α):List (Int × α):=if (al m a).isSome then m.map (fun x=>if x.1=a then (a,v) else x) else m++ [(a,v)]
theorem rL {a:Int}:al m a=none↔∀x∈m,x.1≠a:=by
 unfold al;rw [Option.map_eq_none_iff,List.find?_eq_none];simp
theorem zc {a:Int} {x:α} (h:al m a=some x):(a,x)∈m:=by
 unfold al at h;rw [Option.map_eq_some_iff] at h;obtain ⟨y,h1,rfl⟩:=h;have J:=List.find?_some h1;have I:=List.mem_of_find?_eq_some h1;have:y.1=a:=by simpa using J
 rw [<- this];exact I
theorem MX (nd:(m.map (·.1)).Nodup) {a:Int} {x:α} (h:(a,x)∈m):al m a=some x:=by
 cases ha:al m a with
 |none=>exact absurd rfl (rL.1 ha (a,x) h)
 |some y=>
  have Q:=zc ha;obtain ⟨i,hi,J⟩:=List.mem_iff_getElem.1 h;obtain ⟨j,O,I⟩:=List.mem_iff_getElem.1 Q;have:=(List.getElem_inj (h₀:=show i< (m.map (·.1)).length by simpa using hi) (h₁:=show j< (m.map (·.1)).length by simpa using O) nd).1 (by rw [List.getElem_map,List.getElem_map,J,I]);subst this;rw [J] at I;rw [(Prod.mk.inj I).2]
theorem Kb (m:List (Int × α)) (a:Int) (v:α):(ai m a v).map (·.1)=if (al m a).isSome then m.map (·.1) else m.map (·.1)++ [a]:=by
 unfold ai;split
 . rw [List.map_map];refine List.map_congr_left fun x _=> ?_;simp only [Function.comp];split
   . rename_i h;exact h.symm
   . rfl
 . simp
theorem vK (nd:(m.map (·.1)).Nodup) (a:Int) (v:α):((ai m a v).map (·.1)).Nodup:=by
 rw [Kb];split
 . exact nd
 . rename_i h;have h:al m a=none:=by simpa using h
   rw [List.nodup_append];refine ⟨nd,by simp,fun x J y I e=> ?_⟩;rw [List.mem_singleton] at I;obtain ⟨z,O,rfl⟩:=List.mem_map.1 J;exact rL.1 h z O (e.trans I)
theorem Kr (m:List (Int × α)) (a u:Int) (v:α):al (ai m a v) u=if u=a then some v else al m u:=by
 unfold ai;split
 . rename_i h;unfold al;rw [List.find?_map];by_cases e:u=a
   . subst e;rw [if_pos rfl];have hf:m.find? ((fun x:Int × α=>x.1==u) ∘ fun x=>if x.1=u then (u,v) else x)=m.find? fun x=>x.1==u:=by
      congr 1;funext x;simp only [Function.comp];split<;>simp_all
     rw [hf];unfold al at h;cases I:m.find? fun x=>x.1==u with
     |none=>rw [I] at h;simp at h
     |some y=>have:=List.find?_some I;simp at this;simp [this]
   . rw [if_neg e];have hf:m.find? ((fun x:Int × α=>x.1==u) ∘ fun x=>if x.1=a then (a,v) else x)=m.find? fun x=>x.1==u:=by
      congr 1;funext x;simp only [Function.comp];by_cases J:x.1=a
      . rw [if_pos J,J]
      . rw [if_neg J]
     rw [hf];cases I:m.find? fun x=>x.1==u with
     |none=>rfl
     |some y=>
      have h1:=List.find?_some I;have h1:y.1=u:=by simpa using h1
      have: ¬y.1=a:=fun J=>e (h1.symm.trans J);simp [this]
 . rename_i h;have h:al m a=none:=by simpa using h
   unfold al;rw [List.find?_append];by_cases e:u=a
   . subst e;rw [if_pos rfl];unfold al at h;rw [Option.map_eq_none_iff] at h;rw [h];simp
   . rw [if_neg e];cases I:m.find? fun x=>x.1==u with
     |some y=>simp
     |none=>simp [Ne.symm e]
def MV (g:α->Value) (w:World) (b:Nat) (m:List (Int × α)):Prop:=
 (∃I clock,w.heap[b]? =some (.map I clock)/\I.toList.map (fun e=> (e.key,e.val))=m.map fun x=> (Value.int .i64 x.1,g x.2))/\(m.map (·.1)).Nodup
theorem MV.lt (h:MV g w b m):b<w.heap.size:=by obtain ⟨⟨I,c,h,_⟩,_⟩:=h;exact (Array.getElem?_eq_some_iff.1 h).1
theorem MV.keep {S:Nat->Prop} (h:MV g w b m) (m':aF S w w') (hs: ¬S b):MV g w' b m:=by
 have hl:=h.lt;obtain ⟨⟨I,c,h,he⟩,nd⟩:=h;exact ⟨⟨I,c,(m'.block b hl hs).trans h,he⟩,nd⟩
theorem MV.grow (h:MV g w b m) (m':ao w w'):MV g w' b m:=h.keep m' id
theorem MV.drew (h:MV g w b m):MV g w.drew b m:=h
theorem MV.new {b:Nat} (h:aY (.map #[] 0) w b w'):MV g w' b []:=⟨⟨#[],0,h.at,rfl⟩,by simp⟩
theorem MV.len (hm:CD P t k e=true) (h:MV g w b m) (ty:TypeId):(Builtin.len_ #[t] ty #[.map (some b)]).run P w= .ok (.int .i64 m.length) w:=by
 obtain ⟨ht,_⟩:=sO hm;obtain ⟨⟨I,c,hb,he⟩,_⟩:=h;have:I.size=m.length:=by have:=congrArg List.length he;simpa using this
 simp [Builtin.len_,run_underlying ht,MapKept.run_getObj_map hb,Result.andThen,goInt,this]
theorem MV.find (h:MV g w b m) (a:Int): ∃I c,w.heap[b]? =some (.map I c)/\I.toList.map (fun e=> (e.key,e.val))=(m.map fun x=> (Value.int .i64 x.1,g x.2))/\
 ((Instr.findNow (.int .i64) (.int .i64 a) I.toList 0=some none/\al m a=none)\/∃j x e,Instr.findNow (.int .i64) (.int .i64 a) I.toList 0=some (some (j,g x))/\I[j]? =some e/\e.key= .int .i64 a/\m[j]? =some (a,x)/\al m a=some x):=by
 obtain ⟨⟨I,c,hb,he⟩,nd⟩:=h;refine ⟨I,c,hb,he,?_⟩;have get: ∀ (j:Nat) (e:MapEntry),I.toList[j]? =some e->∃x:Int × α,m[j]? =some x/\e.key= .int .i64 x.1/\e.val=g x.2:=by
  intro j e Q;have:=congrArg (·[j]?) he;simp only [List.getElem?_map,Q,Option.map_some] at this;cases hm:m[j]? with
  |none=>rw [hm] at this;simp at this
  |some x=>
   rw [hm] at this;simp at this;exact ⟨x,rfl,this⟩
 have V: ∀x∈I.toList,IsKey (.int .i64) x.key:=by
  intro x O;obtain ⟨j,Q,e⟩:=List.mem_iff_getElem.1 O;obtain ⟨y,_,h1,_⟩:=get j x (by rw [List.getElem?_eq_getElem Q,e]);rw [h1];rfl
 rcases findNow_spec (d:= .int .i64) (show IsKey (.int .i64) (.int .i64 a) from rfl) I.toList 0 V with ⟨h1,U⟩| ⟨j,e,h1,U,X⟩
 . refine .inl ⟨h1,rL.2 fun x O=> ?_⟩;obtain ⟨j,Q,e⟩:=List.mem_iff_getElem.1 O;have hlen:I.toList.length=m.length:=by have:=congrArg List.length he;simpa using this
   obtain ⟨y,J,h5,_⟩:=get j I.toList[j] (by rw [List.getElem?_eq_getElem (by omega)]);rw [List.getElem?_eq_getElem Q,e] at J;have J:=Option.some.inj J;have:=U _ (List.getElem_mem (show j<I.toList.length by omega));rw [h5,<- J] at this;exact fun Y=>this (by rw [Y])
 . obtain ⟨x,J,h5,Z⟩:=get j e U;have O:x.1=a:=by rw [h5] at X;injection X
   refine .inr ⟨j,x.2,e,by rw [h1,<- Z,Nat.zero_add],by simpa using U,X,by rw [J,<- O],MX nd ?_⟩;rw [<- O];exact List.mem_of_getElem? J
theorem MV.cA (hm:CD P t k e=true) (h:MV g w b m) (a:Int) {z:Value} (Q:(zeroValue e).run P w= .ok z w):
 (Instr.lookup t (.map (some b)) (.int .i64 a) false).run P w= .ok (((al m a).map g).getD z) w:=by
 obtain ⟨ht,J⟩:=sO hm;obtain ⟨V,c,hb,he,hf⟩:=h.find a;have I:IsKey (.int .i64) (.int .i64 a):=rfl;rcases hf with ⟨h1,O⟩| ⟨j,x,e,h1,O,U,X,h5⟩
 . simp [Instr.lookup,run_underlying ht,MapKept.run_getObj_map hb,MapKept.run_checkKey J I,MapKept.run_findKey J h1,Q,Result.andThen,O]
 . simp [Instr.lookup,run_underlying ht,MapKept.run_getObj_map hb,MapKept.run_checkKey J I,MapKept.run_findKey J h1,Result.andThen,h5]
theorem Gx {w:World} {b:Nat} (o:Obj):aF (·=b) w {w with heap:=w.heap.setIfInBounds b o}:=
 ⟨rfl,rfl,rfl,by simp,fun x _ I=>by simp [Array.getElem?_setIfInBounds_ne (Ne.symm I)]⟩
theorem MV.put (hm:CD P t k e=true) (h:MV g w b m) (a:Int) (v:α):
 ∃w',(Instr.mapUpdate t (.map (some b)) (.int .i64 a) (g v)).run P w= .ok () w'/\MV g w' b (ai m a v)/\aF (·=b) w w'/\w'.heap.size=w.heap.size:=by
 obtain ⟨ht,X⟩:=sO hm;have nd:=h.2;have ad:=h.lt;obtain ⟨U,c,hb,he,hf⟩:=h.find a;have I:IsKey (.int .i64) (.int .i64 a):=rfl;rcases hf with ⟨h1,Z⟩| ⟨j,x,e,h1,Z,h3,Y,h5⟩
 . refine ⟨_,?_,⟨⟨U.push {key:= .int .i64 a,val:=g v,born:=c},c+1,(MapKept.heap_set hb).1,?_⟩,vK nd a v⟩,Gx _,by simp⟩
   . simp [Instr.mapUpdate,run_underlying ht,MapKept.run_getObj_map hb,MapKept.run_checkKey X I,MapKept.run_findKey X h1,MapKept.run_setObj_map _ hb,Result.andThen]
   . unfold ai;rw [Z];simp only [Option.isSome_none,Bool.false_eq_true,if_false,Array.toList_push,List.map_append,he,List.map_cons,List.map_nil]
 . refine ⟨_,?_,⟨⟨U.modify j fun e=> {e with key:= .int .i64 a,val:=g v},c,(MapKept.heap_set hb).1,?_⟩,vK nd a v⟩,Gx _,by simp⟩
   . simp [Instr.mapUpdate,run_underlying ht,MapKept.run_getObj_map hb,MapKept.run_checkKey X I,MapKept.run_findKey X h1,Z,h3,run_keyThatStays I,MapKept.run_setObj_map _ hb,Result.andThen]
   . unfold ai;rw [h5];simp only [Option.isSome_some,if_true,Array.toList_modify];apply List.ext_getElem?;intro i;have hi:=congrArg (·[i]?) he;simp only [List.getElem?_map] at hi;simp only [List.getElem?_map,List.getElem?_modify];by_cases e2:j=i
     . subst e2;rw [Y] at hi ⊢;have:U.toList[j]? =some e:=by simpa using Z
       rw [this];simp
     . cases J:m[i]? with
       |none=>rw [J] at hi;cases O:U.toList[i]? with
        |none=>simp
        |some z=>rw [O] at hi;simp at hi
       |some y=>
        rw [J] at hi;cases O:U.toList[i]? with
        |none=>rw [O] at hi;simp at hi
        |some z=>
         rw [O] at hi;simp at hi;have:y.1≠a:=fun e3=>by
          have V:i<m.length:=(List.getElem?_eq_some_iff.1 J).1;have Q:j<m.length:=(List.getElem?_eq_some_iff.1 Y).1;have:=(List.getElem_inj (h₀:=show i< (m.map (·.1)).length by simpa using V) (h₁:=show j< (m.map (·.1)).length by simpa using Q) nd).1 (by
           rw [List.getElem_map,List.getElem_map];rw [List.getElem?_eq_getElem V] at J;rw [List.getElem?_eq_getElem Q] at Y;rw [Option.some.inj J,Option.some.inj Y];exact e3)
          omega
         simp [e2,this,hi]
end Go.Fw
namespace Go.Proofs.YtenmibfmhccmiaaGreat.W
open Go Go.Fw Go.RowKit Go.SoP Go.LiP
open Go.Proofs.Tryz (prog)
section
variable {W w w' w0 w2 w3:World} {nb b ib ab:Nat} {vars:Int} {id:List (Int × Int)} {H H' H2:Pt->Sl} {s t u s':aH} {lp:Option Addr} {lc:Nat} {ls:List Int} {sm:List (Int × Sl)} {cl:Int->List Int} {cp:Option Addr} {n cc:Nat} {c:List Int}
def jF (id:List (Int × Int)) (x:Int):Int:=if x<0 then -((al id (bf x)).getD 0) else (al id (bf x)).getD 0
structure BM (id:List (Int × Int)):Prop where
 nd:(id.map (·.1)).Nodup
 wS: ∀j,j<id.length->(id.getD j (0,0)).2=((j+1:Nat):Int)
 Oi: ∀x∈id,1<=x.1/\x.1<=1048576
theorem JD {l:List Int} {B:Nat} (nd:l.Nodup) (h: ∀x∈l,1<=x/\x<=B):l.length<=B:=by
 have hs:=List.Nodup.length_le_of_subset nd (l₂:=(List.range B).map fun j:Nat=> (j:Int)+1) fun y I=>by
  have:=h y I;exact List.mem_map.2 ⟨(y - 1).toNat,List.mem_range.2 (by omega),by show (((y - 1).toNat:Nat):Int)+1=_;omega⟩
 rwa [List.length_map,List.length_range] at hs
theorem BM.le {id:List (Int × Int)} (h:BM id):id.length<=1048576:=by
 have:=JD (l:=id.map (·.1)) (B:=1048576) h.nd fun x I=>by
  obtain ⟨y,J,rfl⟩:=List.mem_map.1 I;exact h.Oi y J
 rwa [List.length_map] at this
def Nt (id:List (Int × Int)) (x:Int):Prop:=x≠0/\(al id (bf x)).isSome
theorem BM.get (h:BM id) {x:Int} {v:Int} (hv:al id x=some v): ∃j,j<id.length/\id.getD j (0,0)=(x,v)/\v=((j+1:Nat):Int):=by
 obtain ⟨j,I,e⟩:=List.mem_iff_getElem.1 (zc hv);have e:id.getD j (0,0)=(x,v):=by simp [List.getD,I,e]
 have:=h.wS j I;rw [e] at this;exact ⟨j,I,e,this⟩
theorem Jv {x:Int} (I:x≠0):jF id (-x)= -jF id x:=by
 unfold jF;rw [p9];by_cases h:x<0
 . rw [if_neg (by omega),if_pos h];omega
 . rw [if_pos (by omega),if_neg h]
theorem BM.jF (h:BM id):xl (Nt id) (jF id):=by
 have O:al id 0=none:=rL.2 fun x I=>by have:=h.Oi x I;omega
 have val: ∀x,Nt id x->∃v j:Nat,al id (bf x)=some (v:Int)/\v=j+1/\j<id.length/\id.getD j (0,0)=(bf x,(v:Int)):=fun x I=>by
  obtain ⟨v,hv⟩:=Option.isSome_iff_exists.1 I.2;obtain ⟨j,Q,e,rfl⟩:=h.get hv;exact ⟨j+1,j,hv,rfl,Q,e⟩
 refine ⟨fun x=> ?_,fun x y I X e=> ?_,fun x I=> ?_,fun x I=> ⟨by have:=I.1;omega,by rw [p9];exact I.2⟩,fun h=>h.1 rfl⟩
 . by_cases I:x=0
   . subst I;unfold Go.Proofs.YtenmibfmhccmiaaGreat.W.jF;have:bf 0=0:=by decide
     simp [this,O]
   . exact Jv I
 . obtain ⟨v,j,h1,h2,h3,V⟩:=val x I;obtain ⟨v',j',U,Z,Y,J⟩:=val y X;unfold Go.Proofs.YtenmibfmhccmiaaGreat.W.jF at e;rw [h1,U] at e;simp only [Option.getD_some] at e;have Q:j=j'/\(x<0↔y<0):=by
    split at e<;>split at e<;>omega
   have ha:bf x=bf y:=by
    rw [Q.1] at V;rw [V] at J;exact (Prod.mk.inj J).1
   have:=I.1;rcases zR ha with e2|e2<;>omega
 . obtain ⟨v,j,h1,h2,_,_⟩:=val x I;unfold Go.Proofs.YtenmibfmhccmiaaGreat.W.jF;rw [h1];simp only [Option.getD_some];split<;>omega
theorem BM.qX (h:BM id) {x:Int} (I:Nt id x):dB id.length (Go.Proofs.YtenmibfmhccmiaaGreat.W.jF id x):=by
 obtain ⟨v,hv⟩:=Option.isSome_iff_exists.1 I.2;obtain ⟨j,J,e,rfl⟩:=h.get hv;unfold Go.Proofs.YtenmibfmhccmiaaGreat.W.jF dB;rw [hv];simp only [Option.getD_some];split<;>omega
structure RB (W w:World) (nb b ib ab:Nat) (vars:Int) (id:List (Int × Int)) (H:Pt->Sl) (s:aH) (lp:Option Addr) (lc:Nat) (ls:List Int) (sm:List (Int × Sl)) (cl:Int->List Int):Prop where
 st:bA w nb #[.int .i64 vars,.map (some ib),bL b,.slice lp ls.length lc,.map (some ab)]
 pm:PM w b H s
 g:aL s
 im:MV (Value.int .i64) w ib id
 am:MV Sl.v w ab sm
 lo:da aC w lp lc ls
 rw: ∀x∈sm,x.2.n=(cl x.1).length/\x.2.n<=maxLen/\Vw (Value.int .i64) w x.2.p (cl x.1)
 d1: ∀x k,own b H x=some k->k≠nb/\k≠ib/\k≠ab/\aJ lp≠some k
 d2:nb≠ib/\nb≠ab/\ib≠ab/\aJ lp≠some nb/\aJ lp≠some ib/\aJ lp≠some ab
 d3: ∀x∈sm,0<x.2.n->∀k,aJ x.2.p=some k->k≠nb/\k≠ib/\k≠ab/\aJ lp≠some k/\∀y,own b H y≠some k
 wg:ao W w
 wy:W.heap.size<=nb/\W.heap.size<=ib/\W.heap.size<=ab/\(∀k,aJ lp=some k->W.heap.size<=k)/\∀x k,own b H x=some k->W.heap.size<=k
 be:s.R .be= []
 wS:BM id
 sv:s.vars=id.length
 nd:ls.Nodup
 th: ∀i:Nat,s.aN i↔(i:Int)∈ls
 l0: ∀i∈ls,0<=i
 lk: ∀i∈ls,(al sm i).isSome
 cd: ∀i:Nat,s.aN i->s.R (.a i)=(cl i).map (jF id)
 lt: ∀i∈ls,∀x∈cl i,bq x=true/\Nt id x
 ln: ∀i∈ls,(cl i).length<=4096
 JZ: ∀x∈sm,0<=x.1/\x.1<s.nc
 ll:ls.length<=s.nc
theorem RB.grow (h:RB W w nb b ib ab vars id H s lp lc ls sm cl) (m:ao w w'):RB W w' nb b ib ab vars id H s lp lc ls sm cl:=
 ⟨h.st.grow m,h.pm.grow m,h.g,h.im.grow m,h.am.grow m,h.lo.grow m,fun x I=> ⟨(h.rw x I).1,(h.rw x I).2.1,(h.rw x I).2.2.grow m⟩,h.d1,h.d2,h.d3,h.wg.trans m,h.wy,h.be,h.wS,h.sv,h.nd,h.th,h.l0,h.lk,h.cd,h.lt,h.ln,h.JZ,h.ll⟩
theorem RB.drew (h:RB W w nb b ib ab vars id H s lp lc ls sm cl):RB W w.drew nb b ib ab vars id H s lp lc ls sm cl:=h.grow (aF.refl w).drew
theorem RB.sU (h:RB W w nb b ib ab vars id H s lp lc ls sm cl) (P:Pw w w' b H H' s') (g:aL s') (hv:s'.vars=s.vars) (hn:s'.nc=s.nc) (Z:s'.gone=s.gone) (ha: ∀i,s'.R (.a i)=s.R (.a i)) (hb:s'.R .be= []):
 RB W w' nb b ib ab vars id H' s' lp lc ls sm cl:=by
 have no: ∀ {k:Nat},(∀x,own b H x≠some k)->¬∃x,own b H x=some k:=fun h ⟨x,e⟩=>h x e;have n1: ∀x,own b H x≠some nb:=fun x e=> (h.d1 x _ e).1 rfl;have n2: ∀x,own b H x≠some ib:=fun x e=> (h.d1 x _ e).2.1 rfl;have Y: ∀x,own b H x≠some ab:=fun x e=> (h.d1 x _ e).2.2.1 rfl;have Q: ∀i,s'.aN i↔s.aN i:=fun i=>by unfold aH.aN;rw [hn,Z]
 have aa:=h.st.lt;refine ⟨h.st.keep P.mod (no n1),P.pm,g,h.im.keep P.mod (no n2),h.am.keep P.mod (no Y),h.lo.keep P.mod fun k I ⟨x,e⟩=> (h.d1 x k e).2.2.2 I,fun x J=> ?_,fun x k I=> ?_,h.d2,fun x J h0 k I=> ?_,h.wg.then P.mod fun k I ⟨x,e⟩=> ?_,⟨h.wy.1,h.wy.2.1,h.wy.2.2.1,h.wy.2.2.2.1,fun x k I=> ?_⟩,hb,h.wS,hv.trans h.sv,h.nd,fun i=> (Q i).trans (h.th i),h.l0,h.lk,fun i hi=>by rw [ha];exact h.cd i ((Q i).1 hi),h.lt,h.ln,fun x J=>by rw [hn];exact h.JZ x J,by rw [hn];exact h.ll⟩
 . obtain ⟨O,r2,V⟩:=h.rw x J;refine ⟨O,r2,V.jG P.mod fun X k I ⟨y,e⟩=> (h.d3 x J (by rw [O];exact List.length_pos_iff.2 X) k I).2.2.2.2 y e⟩
 . rcases P.ft x k I with ⟨y,e⟩|e
   . exact h.d1 y k e
   . have l1:=h.st.lt;have l2:=h.im.lt;have l3:=h.am.lt;exact ⟨by omega,by omega,by omega,fun U=>by have:=h.lo.lt k U;omega⟩
 . obtain ⟨a1,a2,a3,a4,a5⟩:=h.d3 x J h0 k I;refine ⟨a1,a2,a3,a4,fun y e=> ?_⟩;rcases P.ft y k e with ⟨z,U⟩|U
   . exact a5 z U
   . obtain ⟨O,_,V⟩:=h.rw x J;have:=V.lt (fun e3=>by rw [e3] at O;simp at O;omega) k I;omega
 . have:=h.wy.2.2.2.2 x k e;omega
 . rcases P.ft x k I with ⟨y,e⟩|e
   . exact h.wy.2.2.2.2 y k e
   . have:=h.wg.size;omega
theorem vD:CD prog ie aC aC=true:=by kernel_rfl
theorem GI:CD prog lZ aC aI=true:=by kernel_rfl
theorem Eb {e:TypeId} {z:Value} (h:(Tryz.prog.info? e).bind (·.zero)=some z) (w:World):(zeroValue e).run prog w= .ok z w:=by
 cases hi:Tryz.prog.info? e with
 |none=>rw [hi] at h;simp at h
 |some i=>
  rw [hi] at h;simp at h;unfold zeroValue;simp only [Sem.run_bind,eS hi,Result.andThen_ok,h,Sem.run_pure]
theorem Bx (w:World):(zeroValue aC).run prog w= .ok (.int .i64 0) w:=Eb ik w
theorem Jm (w:World):(zeroValue aI).run prog w= .ok (.slice none 0 0) w:=Eb D2 w
theorem DL (h:RB W w nb b ib ab vars id H s lp lc ls sm cl) (hc:Vw (Value.int .i64) w cp c) (hn:n=c.length) (hx:n<=100000) (hl: ∀x∈c,bq x=true):
 Calls prog iK.id #[bL nb,.slice cp n cc] w fun e w'=> ∃ (q:Option Addr) (d:Nat),e= .returned (.slice q c.length d)/\da aC w' q d (c.map (jF id))/\ao w w'/\∀k,aJ q=some k->w.heap.size<=k:=by
 subst hn;refine iK.ak ?_;refine ⟨fun P N C I u z=> ∃i:Nat,I=i/\i<=c.length/\z=c.length - i/\N=((c.take i).map (jF id)).length/\da aC u P C ((c.take i).map (jF id))/\(∀k,aJ P=some k->w.heap.size<=k)/\ao w u,
  ⟨_,0,rfl,Nat.zero_le _,rfl,by simp,Ow.nil _ _ _,fun k hk=>by simp [aJ] at hk,aF.refl w⟩,?_⟩
 rintro P N C I u z _ ⟨i,rfl,hi,rfl,rfl,o,fP,Y⟩;have hlen:((c.take i).map (jF id)).length=i:=by simp;omega
 refine aj (fun r=> ?_) (fun r=> ?_)
 . have r:i<c.length:=by simpa using r
   refine (hc.grow Y).ix 0 (by omega) rfl (by omega) fun a e=> ⟨_,e,_,rfl,_,ae (h.st.grow Y) rfl,?_⟩
   rw [Int.toNat_natCast];have aw:=hl _ (bg r);have hb:=l4 aw;have hs:(c.take (i+1)).map (jF id)=(c.take i).map (jF id)++ [jF id (c.getD i 0)]:=by
    rw [List.take_add_one,List.map_append];simp [List.getD,r]
   generalize c.getD i 0=X at*
   have ea:imax X (IntKind.i64.wrap (0 - X))=bf X:=by
    rw [nw X hb];unfold imax bf;split<;>split<;>omega
   rw [ea];have Z:=(h.im.grow Y).cA vD (bf X) (Bx u);have aa:((al id (bf X)).map (Value.int .i64)).getD (.int .i64 0)= .int .i64 ((al id (bf X)).getD 0):=by cases al id (bf X)<;>rfl
   rw [aa] at Z;have a7:0<=(al id (bf X)).getD 0/\(al id (bf X)).getD 0<=1048576:=by
    cases hv:al id (bf X) with
    |none=>simp
    |some v=>
     obtain ⟨j,hj,_,rfl⟩:=h.wS.get hv;have:=h.sv;have:=h.g.dS;simp only [Option.getD_some];omega
   refine ⟨_,_,Z,aj (fun U=> ?_) (fun U=> ?_)⟩
   . have U:X<0:=by simpa using U
     intro ad ar J;rw [nw _ (by omega)] at J;refine d6 (W0:=w) (o.grow J.mod) (Y.trans J.mod) fP (Hb J) rfl rfl (by rw [hlen];simp;omega) fun ag av ay O V f15=> ?_;have Q:jF id X= -((al id (bf X)).getD 0):=by unfold jF;rw [if_pos U]
     rw [<- Q] at O;refine ⟨_,by omega,i+1,wN (by omega) (by omega),r,rfl,by rw [hs];simp,by rw [hs];exact O,f15,V⟩
   . have U: ¬X<0:=by simpa using U
     intro ad ar J;refine d6 (W0:=w) (o.grow J.mod) (Y.trans J.mod) fP (Hb J) rfl rfl (by rw [hlen];simp;omega) fun ag av ay O V f15=> ?_;have Q:jF id X=(al id (bf X)).getD 0:=by unfold jF;rw [if_neg U]
     rw [<- Q] at O;refine ⟨_,by omega,i+1,wN (by omega) (by omega),r,rfl,by rw [hs];simp,by rw [hs];exact O,f15,V⟩
 . have r:i=c.length:=by simp at r;omega
   subst r;rw [List.take_length] at o hlen;exact ⟨P,C,by rw [List.take_length,hlen],o,Y,fP⟩
end
section
variable {W w w' w0 w2 w3:World} {nb b ib ab:Nat} {vars:Int} {id:List (Int × Int)} {H H' H2:Pt->Sl} {s t u s':aH} {lp:Option Addr} {lc:Nat} {ls:List Int} {sm:List (Int × Sl)} {cl:Int->List Int} {cp:Option Addr} {n cc:Nat} {c:List Int}
structure z_ (s s':aH):Prop where
 v:s'.vars=s.vars
 n:s'.nc=s.nc
 g:s'.gone=s.gone
 a: ∀i,s'.R (.a i)=s.R (.a i)
theorem z_.refl (s:aH):z_ s s:=⟨rfl,rfl,rfl,fun _=>rfl⟩
theorem z_.trans (h:z_ s t) (k:z_ t u):z_ s u:=⟨k.v.trans h.v,k.n.trans h.n,k.g.trans h.g,fun i=> (k.a i).trans (h.a i)⟩
theorem z_.decide (s:aH) (l:Int):z_ s (s.decide l):=by
 obtain ⟨J,O,I,Q⟩:=BB (s:=s) l;exact ⟨J,O,I,Q⟩
theorem z_.ext (h:iM s t):z_ s t:=⟨h.v,h.n,h.g,h.a⟩
theorem z_.bD (s:aH) (L:Nat):z_ s (s.bD L):=by
 obtain ⟨J,O,I,Q,_⟩:=xp (s:=s) L;exact ⟨J,O,I,Q⟩
theorem z_.ni (h:z_ s t) {i:Nat}:t.aN i↔s.aN i:=by unfold aH.aN;rw [h.n,h.g]
theorem Em (s:aH) (l:Int):(s.decide l).R .be=s.R .be++ [((s.R .tr).length:Int)]:=by
 unfold aH.decide;rw [iZ (by simp) (by simp) (by simp) (by simp)];unfold aH.je;rw [aq (by simp),aK]
theorem RB.CJ (h:RB W w nb b ib ab vars id H s lp lc ls sm cl) (k:z_ s t) (x:List Int):x∈(ls.map cl).map (List.map (jF id))↔t.CJ x:=by
 unfold aH.CJ;rw [List.map_map,List.mem_map];constructor
 . rintro ⟨i,hi,rfl⟩;have J:=h.l0 i hi;have I:s.aN i.toNat:=(h.th _).2 (by rw [Int.toNat_of_nonneg J];exact hi);refine ⟨i.toNat,k.ni.2 I,?_⟩;rw [k.a,h.cd _ I,Int.toNat_of_nonneg J];rfl
 . rintro ⟨i,hi,rfl⟩;have I:=k.ni.1 hi;exact ⟨(i:Int),(h.th i).1 I,by rw [k.a,h.cd _ I];rfl⟩
structure Rd (s s':aH) (id:List (Int × Int)) (c:List Int) (j:Nat):Prop where
 g:aL s'
 k:z_ s s'
 dt:s'.uc=s'.R .tr
 bt:(s'.R .be).length=(s'.R .tr).length
 b0:s'.R .be≠[]->(s'.R .be).getD 0 0=0
 fw: ∀x∈c.take j,-jF id x∈s'.R .tr
 bw: ∀y∈s'.R .tr,∃x∈c.take j,y= -jF id x
theorem HM {u:FrameMode} (h:PM w b H s) (g:aL s) (bi:Int):CallsD prog bJ.id #[bL b,.int .i64 bi] u w fun e I w'=>I=u/\e= .returned (.tuple #[])/\∃H',Pw w w' b H H' (if (max 0 bi).toNat< (s.R .be).length then s.bD (max 0 bi).toNat else s):=
 bJ.KQ (R:=fun e w'=>e= .returned (.tuple #[])/\∃H',Pw w w' b H H' (if (max 0 bi).toNat< (s.R .be).length then s.bD (max 0 bi).toNat else s)) (F4 h g bi)
theorem RB.KC (h:RB W w nb b ib ab vars id H s lp lc ls sm cl) (P:Pw w w2 b H H2 t) (g:aL t) (k:z_ s t) (Q:t.R .be≠[]->(t.R .be).getD 0 0=0) {R:World->Prop}
 (V: ∀w' H' s',RB W w' nb b ib ab vars id H' s' lp lc ls sm cl->Pw w w' b H H' s'->s'.nc=s.nc->(t.R .be≠[]->s'.R .tr= [])->R w'):
 CallsD prog bJ.id #[bL b,.int .i64 0] .returning w2 fun e u w'=>u= .returning/\∃v:Value,e= .returned v/\R w':=by
 refine (HM P.pm g 0).mono ?_;rintro e u w' ⟨rfl,rfl,H',U⟩;refine ⟨rfl,_,rfl,?_⟩;have Z:(max (0:Int) 0).toNat=0:=rfl;rw [Z] at U;have J:=P.trans U;by_cases hb:0< (t.R .be).length
 . rw [if_pos hb] at J;have I:=Q (List.length_pos_iff.1 hb);obtain ⟨_,_,_,_,Y,X⟩:=xp (s:=t) 0;have O:=k.trans (z_.bD t 0);refine V _ _ _ (h.sU J (lw g hb) O.v O.n O.g O.a (by rw [Y];rfl)) J O.n fun _=> ?_;rw [X,I];rfl
 . rw [if_neg hb] at J;have I:t.R .be= []:=List.eq_nil_of_length_eq_zero (by omega);exact V _ _ _ (h.sU J g k.v k.n k.g k.a I) J k.n fun e=>absurd I e
theorem DE (h:RB W w nb b ib ab vars id H s lp lc ls sm cl) (ar:s.R .tr= []) (hc:Vw (Value.int .i64) w cp c) (hn:n=c.length) (J:n<=100000) (hl: ∀x∈c,bq x=true) (hN: ∀x∈c,Nt id x):
 Calls prog eX.id #[bL nb,.slice cp n cc] w fun e w'=> ∃r:Bool,e= .returned (.bool r)/\(r=true↔uB (ls.map cl) c)/\∃H' s',RB W w' nb b ib ab vars id H' s' lp lc ls sm cl/\Pw w w' b H H' s'/\s'.nc=s.nc/\(c≠[]->s'.R .tr= []):=by
 have C:=h.wS.jF;refine eX.ak ⟨_,rfl,_,ae h.st rfl,(DL h hc hn J hl).mono ?_⟩;rintro e w3 ⟨q,d,rfl,o3,g3,f3⟩;have h3:=h.grow g3;have sv:=h.sv;have hinv: ∀x∈c,dB s.vars (jF id x):=fun x J=>by rw [sv];exact h.wS.qX (hN x J)
 have bk: ∀ {k:Nat},aJ q=some k->∀x,own b H x≠some k:=fun hk x e=>by have:=f3 _ hk;have:=h.pm.lt x _ e;omega
 have a7: ∀i,i∈ls->∀x∈cl i,Nt id x:=fun i hi x J=> (h.lt i hi x J).2;have b7:uB ((ls.map cl).map (List.map (jF id))) (c.map (jF id))↔uB (ls.map cl) c:=C.OG (fun x J y O=>by
  obtain ⟨i,hi,rfl⟩:=List.mem_map.1 J;exact a7 i hi y O) hN
 refine ⟨_,_,_,rfl,?_⟩;refine ⟨fun I u z=> ∃j:Nat,I=j/\j<=c.length/\z=c.length - j/\∃H' s',Pw w3 u b H H' s'/\Rd s s' id c j,⟨_,0,rfl,Nat.zero_le _,rfl,H,s,Pw.refl h3.pm (aF.refl _),
  ⟨h.g,.refl s,by unfold aH.uc;rw [h.be,ar];rfl,by rw [h.be,ar],fun e=>absurd h.be e,fun x J=>by simp at J,fun y O=>by rw [ar] at O;simp at O⟩⟩,?_⟩
 rintro I u z _ ⟨j,rfl,hj,rfl,H1,Q,P1,R⟩;have b8:Vw (Value.int .i64) u q (c.map (jF id)):=o3.vw.jG P1.mod fun _ k hk ⟨x,e⟩=>bk hk x e;have av:bA u nb _:=h3.st.keep P1.mod fun ⟨x,e⟩=> (h.d1 x _ e).1 rfl;have k1:=R.g.wf;refine aj (fun r=> ?_) (fun r=> ?_)
 . have r:j<c.length:=by simpa using r
   have hm:=bg r;have b3:(c.map (jF id)).getD j 0=jF id (c.getD j 0):=by simp [List.getD,r]
   have tk: ∀x,x∈c.take (j+1)↔x∈c.take j\/x=c.getD j 0:=fun x=>fg r;refine b8.ix 0 (by omega) (by simp) (by omega) fun a e=> ⟨_,e,_,rfl,_,ae av rfl,?_⟩
   rw [Int.toNat_natCast,b3];generalize hX:c.getD j 0=X at*
   have hv:dB Q.vars (jF id X):=by rw [R.k.v];exact hinv X hm
   refine (An P1.pm k1 _).mono ?_;rintro e b' ⟨rfl,az⟩;have Y:=P1.grow az;have a_:Q.value (jF id X)=Q.val (jF id X):=by
    unfold aH.value;rw [(ir R.g.dS).2 hv];rfl
   rw [a_];refine ⟨_,rfl,aj (fun r1=> ?_) (fun r1=>aj (fun r2=> ?_) (fun r2=> ?_))⟩
   . have r1:Q.val (jF id X)=1:=by simpa using r1
     have V:=(R.g.v1 _ hv).1 r1;obtain ⟨x',ad,e⟩:=R.bw _ V;have aa:=List.mem_of_mem_take ad;have ex:X= -x':=C.inj _ _ (hN X hm) (C.sym _ (hN x' aa)) (by rw [C.neg];exact e);have U:Q.R .be≠[]:=fun e2=>by
      have:=R.bt;rw [e2] at this;have:=List.eq_nil_of_length_eq_zero this.symm;rw [this] at V;simp at V
     refine h3.KC Y R.g R.k R.b0 fun w' H' s' hB hP hn ht=> ⟨true,rfl,⟨fun _=> .inl (o_.2 ⟨x',aa,ex▸hm⟩),fun _=>rfl⟩,H',s',hB,hP.cM g3,hn,fun _=>ht U⟩
   . have r2:Q.val (jF id X)=0:=by simpa using r2
     refine ⟨_,rfl,_,ae (av.grow az) rfl,?_⟩;rw [nw _ (hv.bd R.g.dS)];have a6:Q.val (-jF id X)=0:=by rw [oe hv,r2];rfl
     refine (yJ Y.pm R.g (-jF id X)).mono ?_;rintro e b_ ⟨r,rfl,H',hd⟩;obtain ⟨rfl,P⟩:r=0/\Pw b' b_ b H1 H' (Q.decide (-jF id X)):=hd.elim (fun h=> ⟨h.1,h.2.2.2⟩) fun h=>absurd ⟨hv.neg,a6⟩ h.2.1;have Z:=Et (s:=Q) (-jF id X);have aT:=Em Q (-jF id X);refine ⟨_,rfl,_,by omega,j+1,wN (by omega) (by omega),r,rfl,H',_,Y.trans P,⟨pD R.g hv.neg a6,R.k.trans (.decide Q _),by rw [CY R.g,R.dt,Z],by rw [aT,Z];simp [R.bt],fun _=> ?_,fun x J=> ?_,fun y O=> ?_⟩⟩
     . rw [aT];cases U:Q.R .be with
       |nil=>
        have:=R.bt;rw [U] at this;rw [<- this];rfl
       |cons y l=>
        have:=R.b0 (by rw [U];simp);rw [U] at this;simpa using this
     . rw [Z];rcases (tk x).1 J with J|rfl
       . exact List.mem_append_left _ (R.fw x J)
       . simp
     . rw [Z] at O;rcases List.mem_append.1 O with O|O
       . obtain ⟨x,J,e⟩:=R.bw y O;exact ⟨x,(tk x).2 (.inl J),e⟩
       . rw [List.mem_singleton] at O;exact ⟨X,(tk X).2 (.inr rfl),O⟩
   . have r1: ¬Q.val (jF id X)=1:=by simpa using r1
     have r2: ¬Q.val (jF id X)=0:=by simpa using r2
     have cb:Q.val (jF id X)= -1:=by
      rcases aH.pw k1 (jF id X) with e|e|e
      . exact absurd e r2
      . exact absurd e r1
      . exact e
     have V:=(R.g.vm hv).1 cb;refine ⟨_,by omega,j+1,wN (by omega) (by omega),r,rfl,H1,Q,Y,⟨R.g,R.k,R.dt,R.bt,R.b0,fun x J=> ?_,fun y O=> ?_⟩⟩
     . rcases (tk x).1 J with J|rfl
       . exact R.fw x J
       . exact V
     . obtain ⟨x,J,e⟩:=R.bw y O;exact ⟨x,(tk x).2 (.inl J),e⟩
 . have r:j=c.length:=by simp at r;omega
   subst r;refine ⟨_,rfl,_,ae av rfl,(HD P1.pm R.g).mono ?_⟩;rintro e c1 ⟨r,rfl,s2,H2,P2,g2,x,ht⟩;have PP:=P1.trans P2;have kk:=R.k.trans (.ext x);have fw: ∀x∈c,-jF id x∈Q.R .tr:=fun x J=>R.fw x (by rw [List.take_length];exact J);have bw: ∀y∈Q.R .tr,∃x∈c,y= -jF id x:=fun y O=>by
    obtain ⟨x,J,e⟩:=R.bw y O;exact ⟨x,List.mem_of_mem_take J,e⟩
   have ce:mL (c.map (jF id))=false:=by
    rw [<- Bool.not_eq_true,C.HU hN,o_];rintro ⟨x,J,ad⟩;have a1:=fw x J;have a2:=fw _ ad;rw [C.neg,Int.neg_neg] at a2;exact R.g.cons a2 a1
   have a':s2.uc=Q.R .tr:=by rw [IK R.g x,R.dt]
   have key:=JH (cs:=(ls.map cl).map (List.map (jF id))) g2 ht (fun x=>h.CJ kk x) ce (fun y O=>by
    obtain ⟨z,hz,rfl⟩:=List.mem_map.1 O;exact x.mem (fw z hz)) (fun y O=>by
    rw [a'] at O;obtain ⟨z,hz,rfl⟩:=bw y O;rw [Int.neg_neg];exact List.mem_map_of_mem hz)
   refine ⟨_,rfl,h3.KC PP g2 kk (by rw [x.be];exact R.b0) fun w' H' s' hB hP hn ht=> ⟨_,rfl,?_,H',s',hB,hP.cM g3,hn,fun b6=>ht ?_⟩⟩
   . rw [decide_eq_true_eq,key,b7]
   . rw [x.be];intro e2;have:=R.bt;rw [e2] at this;have a8:=List.eq_nil_of_length_eq_zero this.symm;have:=fw _ (List.head_mem b6);rw [a8] at this;simp at this
end
section
variable {W w w' w0 w2 w3:World} {nb b ib ab:Nat} {vars:Int} {id:List (Int × Int)} {H H' H2:Pt->Sl} {s t u s':aH} {lp:Option Addr} {lc:Nat} {ls:List Int} {sm:List (Int × Sl)} {cl:Int->List Int} {cp:Option Addr} {n cc:Nat} {c:List Int}
theorem RB.cA (h:RB W w nb b ib ab vars id H s lp lc ls sm cl) {J:Int} (Q:J∈ls): ∃sl:Sl,al sm J=some sl/\(Instr.lookup lZ (.map (some ab)) (.int .i64 J) false).run prog w= .ok (.slice sl.p sl.n sl.c) w/\(J,sl)∈sm/\sl.n=(cl J).length/\Vw (Value.int .i64) w sl.p (cl J):=by
 obtain ⟨sl,I⟩:=Option.isSome_iff_exists.1 (h.lk J Q);obtain ⟨V,X,U⟩:=h.rw (J,sl) (zc I);have O:=h.am.cA GI J (Jm w);rw [I] at O;exact ⟨sl,I,O,zc I,V,U⟩
theorem JP (l:List Int) (y x:Int):wo (l++ [y]) x=wo l x++ (if y=x then [] else [y]):=by
 unfold wo;rw [List.filter_append,List.filter_cons,List.filter_nil];by_cases e:y=x
 . subst e;simp
 . simp [e]
theorem HQ (h:RB W w nb b ib ab vars id H s lp lc ls sm cl) (bb:s.R .tr= []) (hc:Vw (Value.int .i64) w cp c) (hn:n=c.length) (hx:n<=90000) (hl: ∀x∈c,bq x=true) (hN: ∀x∈c,Nt id x) (ho:c≠[]->∀k,aJ cp=some k->∀x,own b H x≠some k):
 Calls prog dK.id #[bL nb,.slice cp n cc] w fun e w'=> ∃r:Bool,e= .returned (.bool r)/\(r=true↔fB (ls.map cl) c)/\∃H' s',RB W w' nb b ib ab vars id H' s' lp lc ls sm cl/\Pw w w' b H H' s'/\s'.nc=s.nc/\s'.R .tr= []:=by
 subst hn;refine dK.ak (aj (fun r=> ?_) (fun r=> ?_))
 . have r:c= []:=by
    have:(c.length:Int)=0:=by simpa using r
    exact List.eq_nil_of_length_eq_zero (by omega)
   exact ⟨false,rfl,⟨fun e=> (by cases e),fun h=>absurd r h.1⟩,H,s,h,Pw.refl h.pm (aF.refl w),rfl,bb⟩
 have U:0<c.length:=by
  have:(c.length:Int)≠0:=by simpa using r
  omega
 have av:c≠[]:=List.length_pos_iff.1 U;have bc:=l4 (hl _ (bg U));refine ⟨_,rfl,_,_,_,ae h.st rfl,?_⟩;refine ⟨fun I u z=> ∃i:Nat,I=i/\i<=ls.length/\z=ls.length - i/\(∃H1 s1,RB W u nb b ib ab vars id H1 s1 lp lc ls sm cl/\Pw w u b H H1 s1/\s1.nc=s.nc/\s1.R .tr= [])/\
  ∀j∈ls.take i,-(c.getD 0 0)∈cl j->(sD c (cl j)).length<=4096/\uB (ls.map cl) (sD c (cl j)),
  ⟨_,0,rfl,Nat.zero_le _,rfl,⟨H,s,h,Pw.refl h.pm (aF.refl w),rfl,bb⟩,fun j hj=>by simp at hj⟩,?_⟩
 rintro I u z _ ⟨i,rfl,hi,rfl,⟨H1,s1,h1,P1,n1,t1⟩,Q⟩;have b_:Vw (Value.int .i64) u cp c:=hc.jG P1.mod fun U k hk ⟨x,e⟩=>ho U k hk x e;refine aj (fun r=> ?_) (fun r=> ?_)
 . have r:i<ls.length:=by simpa using r
   have hm:=bg r;have tk: ∀x,x∈ls.take (i+1)↔x∈ls.take i\/x=ls.getD i 0:=fun x=>fg r;refine h1.lo.vw.ix 0 (by omega) rfl (by omega) fun a e=> ⟨_,e,?_⟩
   rw [Int.toNat_natCast];generalize hJ:ls.getD i 0=J at*
   have hd:=h1.drew;obtain ⟨sl,c0,b8,d',bx,bu⟩:=hd.cA hm;have en:=h1.ll;have eb:=h1.g.FE;have dw:=h1.ln J hm;refine ⟨fun v=>v=u.drew,rfl,_,rfl,_,fun v e=>e▸ae hd.st rfl,_,_,_,_,b8,rfl,b_.ix 0 (by omega) rfl (by omega) fun a2 e2=> ⟨_,fun v e=>by subst e;exact e2,?_⟩⟩;rw [show ((0:Int).toNat)=0 from rfl,nw _ bc];refine (sW bu bx (by rw [bx];unfold maxLen;omega) _).mono ?_;rintro e Y ⟨rfl,ay⟩;have Z:=P1.grow (((aF.refl u).drew:ao u u.drew).trans ay);have kP:=hd.grow ay;refine ⟨_,rfl,aj (fun r2=> ?_) (fun r2=> ?_)⟩
   . have r2: -(c.getD 0 0) ∉ cl J:=by simpa using r2
     refine ⟨_,by omega,i+1,wN (by omega) (by omega),r,rfl,⟨H1,s1,kP,Z,n1,t1⟩,fun j hj h2=> ?_⟩;rcases (tk j).1 hj with h3|rfl
     . exact Q j h3 h2
     . exact absurd h2 r2
   . have r2: -(c.getD 0 0)∈cl J:=by simpa using r2
     have ar:Vw (Value.int .i64) Y cp c:=hc.jG Z.mod fun U k hk ⟨x,e⟩=>ho U k hk x e;refine (iO ar rfl (by omega)).mono ?_;rintro e d5 ⟨q,d,rfl,c1,az,f19⟩;have bk:=kP.grow az;have d4:=Z.grow az;obtain ⟨sl2,a',bY,_,V,_⟩:=bk.cA hm;obtain rfl:sl=sl2:=Option.some.inj (c0.symm.trans a');have a_:=bu.grow ay;refine ⟨q,_,d,rfl,_,rfl,_,ae bk.st rfl,_,_,_,_,bY,?_⟩;refine ⟨fun P N C I u z=> ∃k:Nat,I=k/\k<=(cl J).length/\z=(cl J).length - k/\N=(c++wo ((cl J).take k) (-(c.getD 0 0))).length/\da aC u P C (c++wo ((cl J).take k) (-(c.getD 0 0)))/\(∀y,aJ P=some y->Y.heap.size<=y)/\ao Y u,
      ⟨_,0,rfl,Nat.zero_le _,rfl,by simp [wo],by simpa [wo] using c1,f19,az⟩,?_⟩
     rintro P N C I v z _ ⟨k,rfl,hk,rfl,rfl,o,f,g⟩;have hv:=kP.grow g;have ce:=ar.grow g;refine aj (fun X=> ?_) (fun X=> ?_)
     . have X:k< (cl J).length:=by rw [V] at X;simpa using X
       have b':=Ct (l:=(cl J).take k) (x:= -(c.getD 0 0));rw [List.length_take] at b';refine (a_.grow g).ix 0 (by omega) V (by omega) fun a3 e3=> ⟨_,e3,ce.ix 0 (by omega) rfl (by omega) fun a4 e4=> ⟨_,e4,?_⟩⟩
       rw [show ((0:Int).toNat)=0 from rfl,nw _ bc,Int.toNat_natCast];have cg:(cl J).take (k+1)=(cl J).take k++ [(cl J).getD k 0]:=by
        rw [List.take_add_one];simp [List.getD,X]
       have ew:wo ((cl J).take (k+1)) (-(c.getD 0 0))=wo ((cl J).take k) (-(c.getD 0 0))++ (if (cl J).getD k 0= -(c.getD 0 0) then [] else [(cl J).getD k 0]):=by
        rw [cg];exact JP _ _ _
       refine aj (fun O=> ?_) (fun O=> ?_)
       . have O: ¬(cl J).getD k 0= -(c.getD 0 0):=by simpa using O
         intro ea ei ax;rw [if_neg O] at ew;refine d6 (W0:=Y) (o.grow ax.mod) (g.trans ax.mod) f (Hb ax) rfl rfl (by simp only [List.length_append,List.length_singleton];omega) fun d9 ef ep a8 cb f37=> ?_;rw [List.append_assoc,<- ew] at a8;refine ⟨_,by omega,k+1,wN (by omega) (by omega),X,rfl,by rw [ew,List.append_assoc],a8,f37,cb⟩
       . have O:(cl J).getD k 0= -(c.getD 0 0):=by simpa using O
         rw [if_pos O,List.append_nil] at ew;exact ⟨_,by omega,k+1,wN (by omega) (by omega),X,rfl,by rw [ew],by rw [ew];exact o,f,g⟩
     . have X:k=(cl J).length:=by rw [V] at X;simp at X;omega
       subst X;rw [List.take_length] at o ⊢;have Pv:=Z.grow g;have er:c++wo (cl J) (-(c.getD 0 0))=sD c (cl J):=rfl;rw [er] at o ⊢;refine aj (fun O=> ?_) (fun O=> ?_)
       . have O:(sD c (cl J)).length>4096:=by rw [decide_eq_true_eq] at O;omega
         refine ⟨false,rfl,⟨fun e=> (by cases e),fun h=> ?_⟩,H1,s1,hv,Pv,n1,t1⟩;have:=(h.2 _ (List.mem_map_of_mem hm) r2).1;omega
       . have O:(sD c (cl J)).length<=4096:=by rw [decide_eq_false_iff_not] at O;omega
         have aw: ∀x∈sD c (cl J),bq x=true/\Nt id x:=fun x hx=>by
          unfold sD at hx;rcases List.mem_append.1 hx with h|h
          . exact ⟨hl x h,hN x h⟩
          . exact h1.lt J hm x (nW.1 h).1
         refine (DE hv t1 o.vw rfl (by omega) (fun x hx=> (aw x hx).1) (fun x hx=> (aw x hx).2)).mono ?_;rintro e ej ⟨r,rfl,hr,H2,s2,h2,P2,n2,t2⟩;have t2:=t2 (by unfold sD;simp [av]);have PP:=Pv.trans P2;refine ⟨_,rfl,aj (fun r5=> ⟨false,rfl,⟨fun e=> (by cases e),fun h=> ?_⟩,H2,s2,h2,PP,n2.trans n1,t2⟩) (fun r5=> ⟨_,by omega,i+1,wN (by omega) (by omega),by omega,rfl,⟨H2,s2,h2,PP,n2.trans n1,t2⟩,fun j hj h3=> ?_⟩)⟩
         . have:=hr.2 (h.2 _ (List.mem_map_of_mem hm) r2).2;rw [this] at r5;cases r5
         . rcases (tk j).1 hj with h4|rfl
           . exact Q j h4 h3
           . exact ⟨O,hr.1 (by simpa using r5)⟩
 . have r:i=ls.length:=by simp at r;omega
   subst r;rw [List.take_length] at Q;exact ⟨true,rfl,⟨fun _=> ⟨av,fun x hx=>by
    obtain ⟨j,hj,rfl⟩:=List.mem_map.1 hx;exact Q j hj⟩,fun _=>rfl⟩,H1,s1,h1,P1,n1,t1⟩
end
section
variable {W w w' w0 w2 w3:World} {nb b ib ab:Nat} {vars:Int} {id id':List (Int × Int)} {H H' H2:Pt->Sl} {s t u s':aH} {lp:Option Addr} {lc:Nat} {ls:List Int} {sm:List (Int × Sl)} {cl:Int->List Int} {cp:Option Addr} {n cc:Nat} {c:List Int}
structure RM (W w:World) (nb b ib ab:Nat) (vars:Int) (id:List (Int × Int)) (H:Pt->Sl) (s:aH) (lp:Option Addr) (lc:Nat) (ls:List Int) (sm:List (Int × Sl)) (cl:Int->List Int):Prop where
 st:bA w nb #[.int .i64 vars,.map (some ib),bL b,.slice lp ls.length lc,.map (some ab)]
 pm:PM w b H s
 im:MV (Value.int .i64) w ib id
 am:MV Sl.v w ab sm
 lo:da aC w lp lc ls
 rw: ∀x∈sm,x.2.n=(cl x.1).length/\x.2.n<=maxLen/\Vw (Value.int .i64) w x.2.p (cl x.1)
 d1: ∀x k,own b H x=some k->k≠nb/\k≠ib/\k≠ab/\aJ lp≠some k
 d2:nb≠ib/\nb≠ab/\ib≠ab/\aJ lp≠some nb/\aJ lp≠some ib/\aJ lp≠some ab
 d3: ∀x∈sm,0<x.2.n->∀k,aJ x.2.p=some k->k≠nb/\k≠ib/\k≠ab/\aJ lp≠some k/\∀y,own b H y≠some k
 wg:ao W w
 wy:W.heap.size<=nb/\W.heap.size<=ib/\W.heap.size<=ab/\(∀k,aJ lp=some k->W.heap.size<=k)/\∀x k,own b H x=some k->W.heap.size<=k
def FP (nb ib ab b:Nat) (H:Pt->Sl) (lp:Option Addr) (k:Nat):Prop:=k=nb\/k=ib\/k=ab\/aJ lp=some k\/∃x,own b H x=some k
structure RL (id:List (Int × Int)) (s:aH) (ls:List Int) (sm:List (Int × Sl)) (cl:Int->List Int):Prop where
 g:aL s
 be:s.R .be= []
 wS:BM id
 sv:s.vars=id.length
 nd:ls.Nodup
 th: ∀i:Nat,s.aN i↔(i:Int)∈ls
 l0: ∀i∈ls,0<=i
 lk: ∀i∈ls,(al sm i).isSome
 cd: ∀i:Nat,s.aN i->s.R (.a i)=(cl i).map (jF id)
 lt: ∀i∈ls,∀x∈cl i,bq x=true/\Nt id x
 ln: ∀i∈ls,(cl i).length<=4096
 JZ: ∀x∈sm,0<=x.1/\x.1<s.nc
 ll:ls.length<=s.nc
theorem RB.of (m:RM W w nb b ib ab vars id H s lp lc ls sm cl) (l:RL id s ls sm cl):RB W w nb b ib ab vars id H s lp lc ls sm cl:=
 ⟨m.st,m.pm,l.g,m.im,m.am,m.lo,m.rw,m.d1,m.d2,m.d3,m.wg,m.wy,l.be,l.wS,l.sv,l.nd,l.th,l.l0,l.lk,l.cd,l.lt,l.ln,l.JZ,l.ll⟩
theorem RB.rm (h:RB W w nb b ib ab vars id H s lp lc ls sm cl):RM W w nb b ib ab vars id H s lp lc ls sm cl:=
 ⟨h.st,h.pm,h.im,h.am,h.lo,h.rw,h.d1,h.d2,h.d3,h.wg,h.wy⟩
theorem RB.rl (h:RB W w nb b ib ab vars id H s lp lc ls sm cl):RL id s ls sm cl:=
 ⟨h.g,h.be,h.wS,h.sv,h.nd,h.th,h.l0,h.lk,h.cd,h.lt,h.ln,h.JZ,h.ll⟩
theorem RM.sU (h:RM W w nb b ib ab vars id H s lp lc ls sm cl) (P:Pw w w' b H H' s'):RM W w' nb b ib ab vars id H' s' lp lc ls sm cl:=by
 have no: ∀ {k:Nat},(∀x,own b H x≠some k)->¬∃x,own b H x=some k:=fun h ⟨x,e⟩=>h x e;have n1: ∀x,own b H x≠some nb:=fun x e=> (h.d1 x _ e).1 rfl;have n2: ∀x,own b H x≠some ib:=fun x e=> (h.d1 x _ e).2.1 rfl;have X: ∀x,own b H x≠some ab:=fun x e=> (h.d1 x _ e).2.2.1 rfl;refine ⟨h.st.keep P.mod (no n1),P.pm,h.im.keep P.mod (no n2),h.am.keep P.mod (no X),h.lo.keep P.mod fun k I ⟨x,e⟩=> (h.d1 x k e).2.2.2 I,fun x O=> ?_,fun x k I=> ?_,h.d2,fun x O h0 k I=> ?_,h.wg.then P.mod fun k I ⟨x,e⟩=> ?_,⟨h.wy.1,h.wy.2.1,h.wy.2.2.1,h.wy.2.2.2.1,fun x k I=> ?_⟩⟩
 . obtain ⟨J,Y,U⟩:=h.rw x O;refine ⟨J,Y,U.jG P.mod fun V k I ⟨y,e⟩=> (h.d3 x O (by rw [J];exact List.length_pos_iff.2 V) k I).2.2.2.2 y e⟩
 . rcases P.ft x k I with ⟨y,e⟩|e
   . exact h.d1 y k e
   . have l1:=h.st.lt;have l2:=h.im.lt;have l3:=h.am.lt;exact ⟨by omega,by omega,by omega,fun Q=>by have:=h.lo.lt k Q;omega⟩
 . obtain ⟨a1,a2,a3,a4,a5⟩:=h.d3 x O h0 k I;refine ⟨a1,a2,a3,a4,fun y e=> ?_⟩;rcases P.ft y k e with ⟨z,Q⟩|Q
   . exact a5 z Q
   . obtain ⟨J,_,U⟩:=h.rw x O;have:=U.lt (fun Z=>by rw [Z] at J;simp at J;omega) k I;omega
 . have:=h.wy.2.2.2.2 x k e;omega
 . rcases P.ft x k I with ⟨y,e⟩|e
   . exact h.wy.2.2.2.2 y k e
   . have:=h.wg.size;omega
structure NC (id id':List (Int × Int)) (c:List Int):Prop where
 wS:BM id'
 kp: ∀x,Nt id x->Nt id' x
 all: ∀x∈c,Nt id' x
 len:id'.length<=id.length+c.length
theorem Du {p0 p2 p3 p4:Value} (aa:bA w nb #[p0,.map (some ib),p2,p3,p4]) (a6:MV (Value.int .i64) w ib id) (xy:BM id) (ar:nb≠ib) (hc:Vw (Value.int .i64) w cp c) (ax:c≠[]->aJ cp≠some ib) (hn:n=c.length) (hl: ∀x∈c,bq x=true) (hlen:id.length+c.length<=1100000):
 Calls prog iJ.id #[bL nb,.slice cp n cc] w fun e w'=>e= .returned (.tuple #[])/\∃id',aF (·=ib) w w'/\MV (Value.int .i64) w' ib id'/\NC id id' c:=by
 subst hn;refine iJ.ak ?_;refine ⟨fun I u z=> ∃i:Nat,I=i/\i<=c.length/\z=c.length - i/\∃id',aF (·=ib) w u/\MV (Value.int .i64) u ib id'/\NC id id' (c.take i),
  ⟨_,0,rfl,Nat.zero_le _,rfl,id,aF.refl w,a6,xy,fun _ h=>h,fun x J=>by simp at J,by simp⟩,?_⟩
 rintro I u z _ ⟨i,rfl,hi,rfl,id',Y,mu,nt⟩;refine aj (fun r=> ?_) (fun r=> ?_)
 . have r:i<c.length:=by simpa using r
   have tk: ∀x,x∈c.take (i+1)↔x∈c.take i\/x=c.getD i 0:=fun x=>fg r;refine (hc.jG Y fun aT k hk e=>ax aT (by rw [<- e];exact hk)).ix 0 (by omega) rfl (by omega) fun a e=> ⟨_,e,_,rfl,_,ae (aa.keep Y ar) rfl,?_⟩
   rw [Int.toNat_natCast];have ad:=hl _ (bg r);have hb:=l4 ad;have hz:=zC ad;generalize c.getD i 0=X at*
   have ea:imax X (IntKind.i64.wrap (0 - X))=bf X:=by
    rw [nw X hb];unfold imax bf;split<;>split<;>omega
   rw [ea];have ha:1<=bf X/\bf X<=1048576:=by unfold bf;split<;>omega
   have Z:=mu.cA vD (bf X) (Bx u);have ag:((al id' (bf X)).map (Value.int .i64)).getD (.int .i64 0)= .int .i64 ((al id' (bf X)).getD 0):=by cases al id' (bf X)<;>rfl
   rw [ag] at Z;refine ⟨_,_,Z,aj (fun O=> ?_) (fun O=> ?_)⟩
   . have O:(al id' (bf X)).getD 0=0:=by simpa using O
     have a7:al id' (bf X)=none:=by
      cases hv:al id' (bf X) with
      |none=>rfl
      |some v=>
       obtain ⟨j,_,_,rfl⟩:=nt.wS.get hv;rw [hv] at O;simp only [Option.getD_some] at O;omega
     have hd:=mu.drew;have av:=(aa.keep Y ar).drew;have V:=nt.len;rw [List.length_take] at V;refine ⟨_,rfl,_,ae av rfl,_,rfl,_,ae av rfl,_,hd.len vD _,?_⟩;rw [wN (i:=id'.length+1) (by omega) (by omega)];obtain ⟨az,hr,mv,mm,_⟩:=hd.put vD (bf X) ((id'.length+1:Nat):Int);have U:ai id' (bf X) ((id'.length+1:Nat):Int)=id'++ [(bf X,((id'.length+1:Nat):Int))]:=by unfold ai;rw [a7];rfl
     have Q: ∀y,al (ai id' (bf X) ((id'.length+1:Nat):Int)) y=if y=bf X then some ((id'.length+1:Nat):Int) else al id' y:=fun y=>Kr _ _ _ _
     refine ⟨az,hr,_,by omega,i+1,wN (by omega) (by omega),r,rfl,_,(Y.grow (aF.refl u).drew).trans mm,mv,⟨vK nt.wS.nd _ _,fun j hj=> ?_,fun x J=> ?_⟩,fun x J=> ⟨(nt.kp x J).1,?_⟩,fun x J=> ?_,?_⟩
     . rw [U] at hj ⊢;rw [List.length_append,List.length_singleton] at hj;by_cases e:j<id'.length
       . have:=nt.wS.wS j e;simp only [List.getD,List.getElem?_append_left e] at this ⊢;exact this
       . have:j=id'.length:=by omega
         subst this;simp [List.getD]
     . rw [U] at J;rcases List.mem_append.1 J with J|J
       . exact nt.wS.Oi x J
       . rw [List.mem_singleton] at J;rw [J];exact ha
     . rw [Q];split
       . rfl
       . exact (nt.kp x J).2
     . rcases (tk x).1 J with J|rfl
       . refine ⟨(nt.all x J).1,?_⟩;rw [Q];split
         . rfl
         . exact (nt.all x J).2
       . exact ⟨hz,by rw [Q,if_pos rfl];rfl⟩
     . rw [U,List.length_append,List.length_singleton,List.length_take];omega
   . have O:(al id' (bf X)).getD 0≠0:=by simpa using O
     have ay:(al id' (bf X)).isSome:=by
      cases hv:al id' (bf X) with
      |none=>rw [hv] at O;simp at O
      |some v=>rfl
     have V:=nt.len;rw [List.length_take] at V;refine ⟨_,by omega,i+1,wN (by omega) (by omega),r,rfl,id',Y,mu,nt.wS,nt.kp,fun x J=> ?_,by rw [List.length_take];omega⟩;rcases (tk x).1 J with J|rfl
     . exact nt.all x J
     . exact ⟨hz,ay⟩
 . have r:i=c.length:=by simp at r;omega
   subst r;rw [List.take_length] at nt;exact ⟨rfl,id',Y,mu,nt⟩
def xm (v:Int) (c:List Int):Int:=c.foldl (fun a x=>imax (imax a x) (-x)) v
theorem AL {v:Int} {j:Nat} (r:j<c.length):xm v (c.take (j+1))=imax (imax (xm v (c.take j)) (c.getD j 0)) (-(c.getD j 0)):=by
 unfold xm;rw [List.take_add_one,List.foldl_append];simp [List.getD,r]
end
section
variable {W w w' w0 w2 w3:World} {nb b ib ab:Nat} {vars:Int} {id id':List (Int × Int)} {H H' H2:Pt->Sl} {s t u s':aH} {lp:Option Addr} {lc:Nat} {ls:List Int} {sm:List (Int × Sl)} {cl:Int->List Int} {cp:Option Addr} {n cc:Nat} {c:List Int}
theorem Jg (hv: ∀x∈c,dB n (jF id x)) (hm:n<=1048576) (hlen:c.length<=4096):uQ n (c.map (jF id))=true:=by
 unfold uQ;rw [Bool.and_eq_true,List.all_eq_true];constructor
 . unfold iy;rw [Bool.and_eq_true,List.all_eq_true];first
   |refine ⟨by simpa using hlen,fun y J=> ?_⟩
    obtain ⟨x,I,rfl⟩:=List.mem_map.1 J;have:=hv x I;have:=this.bd hm;have Q:=this;unfold bq;simp only [decide_eq_true_eq];have O:=(hv x I).1;exact ⟨O,this.1,this.2⟩
   |refine ⟨fun y J=> ?_,by simpa using hlen⟩
    obtain ⟨x,I,rfl⟩:=List.mem_map.1 J;have:=(hv x I).bd hm;unfold bq;simp only [decide_eq_true_eq];have O:=(hv x I).1;exact ⟨O,this.1,this.2⟩
 . intro y J;obtain ⟨x,I,rfl⟩:=List.mem_map.1 J;exact (ir hm).2 (hv x I)
theorem RL.add (h:RL id s ls sm cl) (g:aL s') (A:kI s (c.map (jF id)) s') (hl: ∀x∈c,bq x=true/\Nt id x) (hlen:c.length<=4096) (sl:Sl):
 RL id s' (ls++ [(s.nc:Int)]) (ai sm (s.nc:Int) sl) (fun j=>if j=(s.nc:Int) then c else cl j)/\(ls++ [(s.nc:Int)]).map (fun j=>if j=(s.nc:Int) then c else cl j)=ls.map cl++ [c]/\ai sm (s.nc:Int) sl=sm++ [((s.nc:Int),sl)]:=by
 have U: ∀j∈ls,j< (s.nc:Int):=fun j Z=>by
  have h0:=h.l0 j Z;have:=((h.th j.toNat).2 (by rw [Int.toNat_of_nonneg h0];exact Z)).1;omega
 have X:al sm (s.nc:Int)=none:=rL.2 fun x J=>by have:=(h.JZ x J).2;omega
 have Q:ai sm (s.nc:Int) sl=sm++ [((s.nc:Int),sl)]:=by unfold ai;rw [X];rfl
 have I: ∀i,i∈ls++ [(s.nc:Int)]↔i∈ls\/i=(s.nc:Int):=fun i=>by simp
 have O: ∀i∈ls,(if i=(s.nc:Int) then c else cl i)=cl i:=fun i hi=>if_neg (by have:=U i hi;omega);have V: ∀i:Nat,s'.aN i↔s.aN i\/i=s.nc:=fun i=>by
  unfold aH.aN;rw [A.n,A.g];by_cases e:i=s.nc
  . subst e;simp
  . rw [if_neg e];exact ⟨fun ⟨h1,Y⟩=> .inl ⟨by omega,Y⟩,fun h=>h.elim (fun ⟨h1,Y⟩=> ⟨by omega,Y⟩) fun h=>absurd h e⟩
 refine ⟨⟨g,A.be.trans h.be,h.wS,A.v.trans h.sv,?_,fun i=> ?_,fun i hi=> ?_,fun i hi=> ?_,fun i hi=> ?_,fun i hi=> ?_,fun i hi=> ?_,fun x J=> ?_,?_⟩,?_,Q⟩
 . rw [List.nodup_append];refine ⟨h.nd,by simp,fun x J y hy e=> ?_⟩;rw [List.mem_singleton] at hy;have:=U x J;omega
 . rw [V,I,h.th];refine or_congr Iff.rfl (by omega)
 . rcases (I i).1 hi with hi|rfl
   . exact h.l0 i hi
   . omega
 . rw [Kr];split
   . rfl
   . rename_i e;exact h.lk i (((I i).1 hi).resolve_right e)
 . rw [A.a];by_cases e:i=s.nc
   . subst e;simp
   . rw [if_neg e,if_neg (by omega)];exact h.cd i (((V i).1 hi).resolve_right e)
 . rcases (I i).1 hi with hi|rfl
   . rw [O i hi];exact h.lt i hi
   . rw [if_pos rfl];exact hl
 . rcases (I i).1 hi with hi|rfl
   . rw [O i hi];exact h.ln i hi
   . rw [if_pos rfl];exact hlen
 . rw [Q] at J;rw [A.n];rcases List.mem_append.1 J with J|J
   . have:=h.JZ x J;omega
   . rw [List.mem_singleton] at J;rw [J];show 0<=(s.nc:Int)/\(s.nc:Int)<_;omega
 . rw [List.length_append,List.length_singleton,A.n];have:=h.ll;omega
 . rw [List.map_append,List.map_singleton,if_pos rfl];refine congrArg (·++ [c]) (List.map_congr_left O)
theorem J1 (h:RB W w nb b ib ab vars id H s lp lc ls sm cl) (hc:Vw (Value.int .i64) W cp c) (hn:n=c.length) (hlen:c.length<=4096) (hl: ∀x∈c,bq x=true/\Nt id x) (ec:s.nc<262144):
 Calls prog iv.id #[bL nb,.slice cp n cc] w fun e w'=>e= .returned (.tuple #[])/\∃H' s' lp' c0 a8 c2 bu,RB W w' nb b ib ab (xm vars c) id H' s' lp' c0 a8 c2 bu/\a8.map bu=ls.map cl++ [c]/\s'.nc=s.nc+1/\s'.R .tr=s.R .tr/\aF (FP nb ib ab b H lp) w w'/\(∀k,FP nb ib ab b H' lp' k->FP nb ib ab b H lp k\/w.heap.size<=k):=by
 subst hn;have C:=h.wS.jF;have sv:=h.sv;have hinv: ∀x∈c,dB s.vars (jF id x):=fun x Q=>by rw [sv];exact h.wS.qX (hl x Q).2
 have hd:=h.drew;refine iv.ak ⟨ao w.drew,aF.refl _,_,rfl,_,fun u g=>ae (hd.st.grow g) rfl,(DL hd (hc.grow hd.wg) rfl (by omega) fun x Q=> (hl x Q).1).mono ?_⟩;rintro e w4 ⟨q,d,rfl,o4,g4,f4⟩;have h4:=hd.grow g4;refine ⟨_,_,_,rfl,g4,(qH h4.pm h4.g o4.vw (by simp) (by unfold maxLen;omega)).mono ?_⟩;rintro e w6 ⟨r1,r2,rfl,s',H2,P,g',hr⟩;have dk:=Jg hinv h.g.dS hlen;have ⟨e1,e2,A⟩:r1=s.nc/\r2=0/\kI s (c.map (jF id)) s':=by
  rcases hr with ⟨_,_,hb,_⟩| ⟨_,_,_,hb,_⟩| ⟨a,a2,_,_,a3⟩
  . rw [dk] at hb;cases hb
  . omega
  . exact ⟨a,a2,a3⟩
 subst e1 e2;have O:=h4.rm.sU P;have ll:=h.ll;refine ⟨_,_,rfl,bm rfl ⟨_,rfl,_,_,_,ae O.st rfl,?_⟩⟩;intro n47 ep U;have z6:=O.wg.size;have d':=U.num;have ej:=U.mod.size;have i6:=O.st.lt;have i7:=O.im.lt;have i8:=O.am.lt;refine Ow.mF c4 (O.lo.grow U.mod) ((s.nc:Int)) U.has rfl rfl eV (by omega) fun b4 p' c' bv aa dw d5=> ?_;have aw: ∀k,aJ p'=some k->aJ lp=some k\/w6.heap.size<=k:=fun k J=>by
  rcases dw with rfl|rfl
  . exact .inl J
  . right;have:=aO J;omega
 have b3:=(O.st.grow U.mod).keep aa fun e=>O.d2.2.2.2.1 e;refine ⟨_,rfl,bO b3 rfl rfl fun V ad Y=> ?_⟩;have en:=Y.size;have ar:=ad.drew;have a':ao W V:=((O.wg.trans U.mod).then aa fun k J e=>by have:=O.wy.2.2.2.1 k e;omega).then Y fun k J e=>by have:=O.wy.1;omega
 refine ⟨ao V.drew,aF.refl _,_,rfl,_,fun u g=>ae (ar.grow g) rfl,(iO (hc.grow a'.drew) rfl (by omega)).mono ?_⟩;rintro e bY ⟨q2,d2,rfl,c1,az,f56⟩;have f56: ∀k,aJ q2=some k->V.heap.size<=k:=f56;have bc:MV Sl.v b4 ab sm:=(O.am.grow U.mod).keep aa fun e=>O.d2.2.2.2.2.2 e;have bx:MV Sl.v bY ab sm:=((bc.keep Y fun e=>O.d2.2.1 e.symm).drew).grow az;obtain ⟨ag,b7,bb,Z,_⟩:=bx.put GI (s.nc:Int) (⟨q2,c.length,d2⟩:Sl);refine ⟨_,_,_,rfl,az,ag,b7,?_⟩;have X:ao V bY:=((aF.refl V).drew:ao V V.drew).trans az;have dd:ao W ag:=(a'.trans X).then Z fun k J e=>by have:=O.wy.2.2.1;omega
 have b6:=(ad.grow X).keep Z fun e=>O.d2.2.1 e;refine ⟨fun I u z=> ∃j:Nat,I=j/\j<=c.length/\z=c.length - j/\aF (·=nb) ag u/\bA u nb #[.int .i64 (xm vars (c.take j)),.map (some ib),bL b,.slice p' (ls.length+1) c',.map (some ab)],⟨_,0,rfl,Nat.zero_le _,rfl,aF.refl _,b6⟩,?_⟩;rintro I u z _ ⟨j,rfl,hj,rfl,gu,su⟩;have Gu:ao W u:=dd.then gu fun k J e=>by have:=O.wy.1;omega
 refine aj (fun r=> ?_) (fun r=> ?_)
 . have r:j<c.length:=by simpa using r
   refine (hc.grow Gu).ix 0 (by omega) rfl (by omega) fun a e=> ⟨_,e,_,rfl,_,ae su rfl,_,rfl,?_⟩
   rw [Int.toNat_natCast,nw _ (l4 (hl _ (bg r)).1),<- AL r];refine bO su rfl rfl fun ed bk di=> ⟨_,by omega,j+1,wN (by omega) (by omega),r,rfl,gu.trans di,bk⟩
 . have r:j=c.length:=by simp at r;omega
   subst r;rw [List.take_length] at su;obtain ⟨L,a_,b5⟩:=h.rl.add g' A hl hlen ⟨q2,c.length,d2⟩;have MM:aF (fun k=>aJ lp=some k\/k=nb\/k=ab) w6 u:=by
    have a1:aF (fun k=>aJ lp=some k\/k=nb\/k=ab) w6 b4:=(U.mod.mono fun _ _ e=>e.elim).then aa fun k _ e=> .inl e;have a2:=a1.then Y fun k _ e=> .inr (.inl e);have a3:=(a2.then X fun k _ e=>e.elim).then Z fun k _ e=> .inr (.inr e);exact a3.then gu fun k _ e=> .inr (.inl e)
   have z4:=g4.size;have z46:=P.mod.size;have zd:w.drew.heap.size=w.heap.size:=rfl;refine ⟨rfl,H2,s',p',c',_,_,_,RB.of ?_ L,a_,A.n,A.tr,(((((aF.refl w).drew.grow g4:ao w w4)).mono fun _ _ e=>e.elim).then P.mod fun k _ e=> .inr (.inr (.inr (.inr e)))).then MM fun k _ e=> ?_,fun k J=> ?_⟩
   rotate_left
   . rcases e with e|e|e
     . exact .inr (.inr (.inr (.inl e)))
     . exact .inl e
     . exact .inr (.inr (.inl e))
   . rcases J with e|e|e|e| ⟨x,e⟩
     . exact .inl (.inl e)
     . exact .inl (.inr (.inl e))
     . exact .inl (.inr (.inr (.inl e)))
     . rcases aw k e with e|e
       . exact .inl (.inr (.inr (.inr (.inl e))))
       . right;omega
     . rcases P.ft x k e with ⟨y,e⟩|e
       . exact .inl (.inr (.inr (.inr (.inr ⟨y,e⟩))))
       . right;omega
   have G6:=O.wg.size;have hz: ∀k,k<w6.heap.size->aJ lp≠some k->aJ p'≠some k:=fun k J hn e=>by
    rcases aw k e with e|e
    . exact hn e
    . omega
   have aT:=bv.lt;refine ⟨by simpa using su,O.pm.keep MM fun x k J e=> ?_,O.im.keep MM fun e=> ?_,bb.keep gu fun e=>O.d2.2.1 e.symm,?_,fun x Q=> ?_,fun x k J=> ?_,?_,fun x Q h0 k J=> ?_,Gu,?_⟩
   . obtain ⟨a1,a2,a3,a4⟩:=O.d1 x k J;rcases e with e|e|e
     . exact a4 e
     . exact a1 e
     . exact a3 e
   . obtain ⟨a1,a2,a3,a4,a5,a6⟩:=O.d2;rcases e with e|e|e
     . exact a5 e
     . exact a1 e.symm
     . exact a3 e
   . have nn: ∀k,aJ p'=some k->k≠nb/\k≠ab:=fun k J=> ⟨fun e=>hz nb i6 O.d2.2.2.2.1 (e▸J),fun e=>hz ab i8 O.d2.2.2.2.2.2 (e▸J)⟩
     exact (((bv.keep Y fun k J e=> (nn k J).1 e).grow X).keep Z fun k J e=> (nn k J).2 e).keep gu fun k J e=> (nn k J).1 e
   . rw [b5] at Q;rcases List.mem_append.1 Q with Q|Q
     . obtain ⟨r1,r2,r3⟩:=O.rw x Q;have av:x.1≠(s.nc:Int):=by have:=(h.JZ x Q).2;omega
       rw [if_neg av];refine ⟨r1,r2,r3.jG MM fun av k J e=> ?_⟩;obtain ⟨a1,a2,a3,a4,a5⟩:=O.d3 x Q (by rw [r1];exact List.length_pos_iff.2 av) k J;rcases e with e|e|e
       . exact a4 e
       . exact a1 e
       . exact a3 e
     . rw [List.mem_singleton] at Q;subst Q;rw [if_pos rfl];refine ⟨rfl,by show c.length<=maxLen;unfold maxLen;omega,(c1.vw.keep Z fun k J e=> ?_).keep gu fun k J e=> ?_⟩
       . have:=f56 k J;omega
       . have:=f56 k J;omega
   . obtain ⟨a1,a2,a3,a4⟩:=O.d1 x k J;exact ⟨a1,a2,a3,hz k (O.pm.lt x k J) a4⟩
   . obtain ⟨a1,a2,a3,a4,a5,a6⟩:=O.d2;exact ⟨a1,a2,a3,hz _ i6 a4,hz _ i7 a5,hz _ i8 a6⟩
   . rw [b5] at Q;rcases List.mem_append.1 Q with Q|Q
     . obtain ⟨r1,r2,r3⟩:=O.rw x Q;obtain ⟨a1,a2,a3,a4,a5⟩:=O.d3 x Q h0 k J;exact ⟨a1,a2,a3,hz k (r3.lt (fun e3=>by rw [e3] at r1;simp at r1;omega) k J) a4,a5⟩
     . rw [List.mem_singleton] at Q;subst Q;have fk:=f56 k J;refine ⟨by omega,by omega,by omega,fun e=> ?_,fun y e=> ?_⟩
       . have:=aT k e;omega
       . have:=O.pm.lt y k e;omega
   . obtain ⟨a1,a2,a3,a4,a5⟩:=O.wy;refine ⟨a1,a2,a3,fun k J=> ?_,a5⟩;rcases aw k J with e|e
     . exact a4 k e
     . omega
end
end Go.Proofs.YtenmibfmhccmiaaGreat.W
namespace Go.Fw
open Go Go.RowKit
variable {P:Program} {α:Type} {f:α->Value} {T:TypeId} {w w':World} {p q:Option Addr} {c:Nat} {l:List α}
theorem Ow.IG {t ty e bytes:Nat} (hs:mB P t e bytes=true) (h:Ow f e w p c l) {k m d:Nat} {news:List α} (Y:Vw f w q news) (hm:m=news.length) (I:k+m<=l.length) (ho: ∀x,(f x).oneCell'=true) {K:World->Prop}
 (O: ∀w',Ow f e w' p c (l.take k++news++l.drop (k+m))->aF (fun b=>aJ p=some b) w w'->K w'):
 ∃w',(Builtin.append_ #[t,t] ty #[.slice p k c,.slice q m d]).run P w= .ok (.slice p (k+m) c) w'/\K w':=by
 obtain ⟨ht,i,z,hi,hz,h1,hb,h3⟩:=kW hs;subst hm;rcases Nat.eq_zero_or_pos news.length with Q|Q
 . have hn:news= []:=List.eq_nil_of_length_eq_zero Q;subst hn;have hr:=(h.take (k:=k) (by omega)).LG hs (q:=q) (k:=d) (n:=k) (ty:=ty) (by rw [List.length_take];omega);exact ⟨w,hr,O w (by simpa using h) (aF.refl w)⟩
 . obtain ⟨a,rfl,_⟩:=Y 0 Q;rcases h.un with ⟨rfl,rfl,rfl⟩| ⟨g,cur,rfl,V,g1,g2,Z,g4⟩
   . rw [List.length_nil] at I;omega
   . have hr:=run_append_room (P:=P) w t ty e i ht hi g k c cur V a news.length d (news.map f) (by simp [h1]) (fun j v X=>by
      have J:j<news.length:=by have:=(List.getElem?_eq_some_iff.1 X).1;simpa using this
      obtain ⟨a',ha,U⟩:=Y j J;simp only [Option.some.injEq] at ha;subst ha;rw [U];simpa [J] using X) (fun u hu=>by obtain ⟨x,_,rfl⟩:=List.mem_map.1 hu;exact ho x) (by omega) (by simp [h1];omega)
     rw [h1,Nat.mul_one] at hr;refine ⟨_,hr,O _ (Ow.dx (setRow_heap w g cur _ e _ V) (by simp;omega) g2 (by simp;omega) ?_) ⟨rfl,rfl,rfl,by simp,fun k _ O=>setRow_other w g k _ fun he=>O (by simp [aJ,he])⟩⟩;have hl:(l.take k++news++l.drop (k+news.length)).length=l.length:=by simp;omega
     rw [hl,List.map_append,List.map_append,List.map_take,List.map_drop,<- g4];have U:cur.toList.length=c:=by simpa using Z
     apply List.ext_getElem?;intro j;simp only [List.length_map,List.getElem?_take,List.getElem?_append,List.length_append,List.length_take,List.getElem?_drop,U];repeat' split
     all_goals first
      |rfl
      |omega
      | (congr 1;omega)
end Go.Fw
namespace Go.Proofs.YtenmibfmhccmiaaGreat.W
open Go Go.Fw Go.RowKit Go.SoP Go.LiP
open Go.Proofs.Tryz (prog)
section
variable {w w':World} {p q:Option Addr} {n c:Nat} {l:List Int}
theorem II (o:da aC w p c l) (hn:n=l.length) (hm:n<=1000000) {i:Nat} (hi:i<n):
 Calls prog cR.id #[.slice p n c,.int .i64 (i:Int),.int .i64 ((i+1:Nat):Int)] w fun e w'=>e= .returned (.slice p (l.eraseIdx i).length c)/\da aC w' p c (l.eraseIdx i)/\aF (Bk p) w w':=by
 subst hn;have X:l.length<=c:=by
  rcases o.un with ⟨_,_,rfl⟩| ⟨_,_,_,_,h,_⟩
  . simp at hi
  . exact h
 refine cR.ak ?_;refine fe i (i+1) l.length rfl rfl rfl (by omega) (by omega) (by omega) ?_;refine bm (by simp;omega) ?_;refine fe 0 i c rfl rfl rfl (by omega) (by omega) (by omega) ?_;refine fe (i+1) l.length c rfl rfl rfl (by omega) (by omega) (by omega) ?_;rw [if_neg (by omega),IU,Nat.sub_zero,Nat.sub_zero];have hv:Vw (Value.int .i64) w.drew (if c=i+1 then p else p.map (·.add ((i+1)*1))) (l.drop (i+1)):=by
  by_cases e:c=i+1
  . rw [List.drop_eq_nil_of_le (by omega)];exact Vw.nil
  . rw [if_neg e];have:=(o.drew.vw).part (i:=i+1) (m:=l.length - (i+1)) (by omega)
    rwa [List.take_of_length_le (by rw [List.length_drop];omega)] at this
 obtain ⟨J,hr,Q,V⟩:=o.drew.IG c4 (ty:=31) (d:=c - (i+1)) (k:=i) hv (m:=l.length - (i+1)) (by rw [List.length_drop]) (by omega) eV (K:=fun J=>da aC J p c (l.take i++l.drop (i+1)++l.drop (i+ (l.length - (i+1))))/\aF (fun b=>aJ p=some b) w.drew J) fun w' a b=> ⟨a,b⟩
 have he:(l.take i++l.drop (i+1))=l.eraseIdx i:=(List.eraseIdx_eq_take_drop_succ ..).symm;have hlen:(l.eraseIdx i).length=l.length - 1:=by rw [List.length_eraseIdx,if_pos hi]
 rw [he] at Q;have I:(l.eraseIdx i++l.drop (i+ (l.length - (i+1)))).length=l.length:=by rw [List.length_append,hlen,List.length_drop];omega
 have O:i+ (l.length - (i+1))=l.length - 1:=by omega
 rw [O] at hr Q I;refine ⟨J,_,_,_,hr,?_⟩;refine fe (l.length - 1) l.length c rfl rfl rfl (by omega) (by omega) (by omega) ?_;rw [if_neg (by omega)];refine Q.clear c4 ik (x:=(0:Int)) rfl rfl (by rw [I];omega) (by omega) fun Z U Y=> ?_;rw [List.take_append_of_le_length (by omega),List.take_of_length_le (by omega)] at U;rw [hlen];exact ⟨rfl,U,(aF.mono ((aF.refl w).drew:ao w w.drew) fun _ _ e=>e.elim).trans (V.trans Y)⟩
end
section
variable {W w w' w0 w2 w3:World} {nb b ib ab:Nat} {vars:Int} {id id':List (Int × Int)} {H H' H2:Pt->Sl} {s t u s':aH} {lp:Option Addr} {lc:Nat} {ls:List Int} {sm:List (Int × Sl)} {cl:Int->List Int} {cp:Option Addr} {n cc:Nat} {c:List Int}
def lX (c:List Int):List (List Int)->List (List Int)
 | []=> []
 |x::l=>if aW x=aW c then l else x::lX c l
theorem yT: ∀ {cs:List (List Int)} {i:Nat},i<cs.length->(∀j,j<i->aW (cs.getD j [])≠aW c)->aW (cs.getD i [])=aW c->lX c cs=cs.eraseIdx i
 | [],_,h,_,_=>by simp at h
 |x::l,0,_,_,h=>by
  have h:aW x=aW c:=h;show (if aW x=aW c then l else _)=_;rw [if_pos h];rfl
 |x::l,i+1,hi,hj,h=>by
  have I:aW x≠aW c:=hj 0 (by omega);show (if aW x=aW c then l else x::lX c l)=_;rw [if_neg I,List.eraseIdx_cons_succ];exact congrArg _ (yT (by simpa using hi) (fun j h=>hj (j+1) (by omega)) h)
theorem zH: ∀ {cs:List (List Int)},(∀j,j<cs.length->aW (cs.getD j [])≠aW c)->lX c cs=cs
 | [],_=>rfl
 |x::l,h=>by
  have J:aW x≠aW c:=h 0 (by simp);show (if aW x=aW c then l else x::lX c l)=_;rw [if_neg J];exact congrArg _ (zH fun j I=>h (j+1) (by simpa using I))
theorem sM {α β:Type} {f:α->β} {l:List α} {i:Nat} (h:i<l.length) (d:α) (e:β):(l.map f).getD i e=f (l.getD i d):=by simp [List.getD,h]
theorem HZ (h1: ∀x∈c,bq x=true) (I:c.length<=4096):iy c=true:=by
 unfold iy;rw [Bool.and_eq_true,List.all_eq_true,decide_eq_true_eq];exact ⟨h1,I⟩
theorem aL.Oo (g:aL s) (ht:s.R .tr= []) {x:Int} (I:dB s.vars x): ¬0<s.val x:=by
 rcases aH.pw g.wf x with e|e|e
 . omega
 . have:=(g.v1 x I).1 e;rw [ht] at this;simp at this
 . omega
theorem yu (i:Nat):(s.drop i).vars=s.vars/\(s.drop i).nc=s.nc:=by
 obtain ⟨I,J,O,Q⟩:=gZ i ((s.R (.l i)).take 2) s;exact ⟨I,J⟩
theorem RL.drop (h:RL id s ls sm cl) {i:Nat} (hi:i<ls.length) (g:aL (s.drop (ls.getD i 0).toNat)):RL id (s.drop (ls.getD i 0).toNat) (ls.eraseIdx i) sm cl:=by
 have hm:=bg hi;have h0:=h.l0 _ hm;obtain ⟨v1,v2⟩:=yu (s:=s) (ls.getD i 0).toNat;have I: ∀x∈ls.eraseIdx i,x∈ls:=fun x J=>List.mem_of_mem_eraseIdx J;have U: ∀x,x∈ls.eraseIdx i↔x∈ls/\x≠ls.getD i 0:=fun x=>by
  rw [List.mem_eraseIdx_iff_getElem];have Z:ls.getD i 0=ls[i]:=by simp [List.getD,hi]
  rw [Z];constructor
  . rintro ⟨j,X,O,rfl⟩;exact ⟨List.getElem_mem _,fun e=>O ((List.getElem_inj h.nd).1 e)⟩
  . rintro ⟨J,O⟩;obtain ⟨j,X,rfl⟩:=List.mem_iff_getElem.1 J;exact ⟨j,X,fun e=>O (by subst e;rfl),rfl⟩
 have V: ∀k:Nat,(s.drop (ls.getD i 0).toNat).aN k↔(k:Int)∈ls.eraseIdx i:=fun k=>by
  rw [fS,U,h.th];refine and_congr Iff.rfl ?_;omega
 refine ⟨g,?_,h.wS,v1.trans h.sv,h.nd.sublist (List.eraseIdx_sublist ..),V,fun x J=>h.l0 x (I x J),fun x J=>h.lk x (I x J),fun k Y=> ?_,fun x J=>h.lt x (I x J),fun x J=>h.ln x (I x J),fun x J=>by rw [v2];exact h.JZ x J,?_⟩
 . rw [sg _ _ (by simp) (by simp) (by simp) (by simp)];exact h.be
 . have Q:=fS.1 Y;rw [sg _ _ (by simp) (by simp) (by simpa using Q.2) (by simp)];exact h.cd k Q.1
 . rw [v2];have:=h.ll;have:=List.length_eraseIdx_le ls i;omega
theorem Ht (h:RB W w nb b ib ab vars id H s lp lc ls sm cl) (aa:s.R .tr= []) (hc:Vw (Value.int .i64) w cp c) (hn:n=c.length) (a':iy c=true):
 Calls prog gN.id #[bL nb,.slice cp n cc] w fun e w'=>e= .returned (.tuple #[])/\∃H' s' ax,RB W w' nb b ib ab vars id H' s' lp lc ax sm cl/\ax.map cl=lX c (ls.map cl)/\s'.nc=s.nc/\s'.R .tr= []/\aF (FP nb ib ab b H lp) w w'/\(∀k,FP nb ib ab b H' lp k->FP nb ib ab b H lp k\/w.heap.size<=k):=by
 subst hn;have cm:=(cX a').2;have dw:=h.ll;have d8:=h.g.FE;refine gN.ak ((DO hc rfl (by unfold maxLen;omega)).mono ?_);rintro e w1 ⟨q,d,m,hm,rfl,o1,g1⟩;rw [a'] at hm;simp only [if_true] at hm;subst hm;have h1:=h.grow g1;refine ⟨_,_,_,_,rfl,_,rfl,_,_,_,ae h1.st rfl,?_⟩;refine ⟨fun I u z=> ∃i:Nat,I=i/\i<=ls.length/\z=ls.length - i/\ao w1 u/\∀j,j<i->aW (cl (ls.getD j 0))≠aW c,⟨_,0,rfl,Nat.zero_le _,rfl,aF.refl _,fun j hj=>by omega⟩,?_⟩;rintro I u z _ ⟨i,rfl,hi,rfl,gu,ag⟩;have hu:=h1.grow gu;refine aj (fun r=> ?_) (fun r=> ?_)
 . have r:i<ls.length:=by simpa using r
   have hm:=bg r;refine hu.lo.vw.ix 0 (by omega) rfl (by omega) fun a e=> ⟨_,e,?_⟩
   rw [Int.toNat_natCast];obtain ⟨sl,di,bu,c7,ay,cg⟩:=hu.cA hm;have b_:iy (cl (ls.getD i 0))=true:=HZ (fun x X=> (h.lt _ hm x X).1) (h.ln _ hm);have c0:=h.ln _ hm;refine ⟨_,rfl,_,ae hu.st rfl,_,_,_,_,bu,(DO cg ay (by rw [ay];unfold maxLen;omega)).mono ?_⟩;rintro e dd ⟨q2,d2,m2,Z,rfl,b6,aT⟩;rw [b_] at Z;simp only [if_true] at Z;subst Z;have nl:=nN (cl (ls.getD i 0));refine ⟨_,_,_,_,rfl,(Hu b6.vw rfl (by unfold maxLen;omega) ((o1.grow gu).grow aT).vw rfl).mono ?_⟩;rintro e a8 ⟨rfl,bx⟩;have V:=(gu.trans aT).trans bx;have J:=h1.grow V;refine ⟨_,rfl,aj (fun Q=> ?_) (fun Q=> ?_)⟩
   . have Q:aW (cl (ls.getD i 0))=aW c:=by simpa using Q
     refine ⟨_,rfl,_,_,_,ae J.st rfl,?_⟩;rw [wN (i:=i+1) (by omega) (by omega)];refine (II J.lo rfl (by omega) r).mono ?_;rintro e bY ⟨rfl,b7,b'⟩;obtain ⟨a1,a2,a3,a4,a5,a6⟩:=J.d2;have Y:aF (fun k=>aJ lp=some k) a8 bY:=b';have a_:=J.st.keep Y fun e=>a4 e;refine ⟨_,_,_,rfl,_,rfl,bO a_ rfl rfl fun ar az bb=> ?_⟩;have MM:aF (fun k=>aJ lp=some k\/k=nb) a8 ar:=(Y.mono fun k _ e=> .inl e).then bb fun k _ e=> .inr e;have ad:RM W ar nb b ib ab vars id H s lp lc (ls.eraseIdx i) sm cl:=by
      refine ⟨az,J.pm.keep MM fun x k O e=> ?_,J.im.keep MM fun e=> ?_,J.am.keep MM fun e=> ?_,b7.keep bb fun k O e=>a4 (e▸O),fun x X=> ?_,J.d1,J.d2,J.d3,J.wg.then MM fun k O e=> ?_,J.wy⟩
      . obtain ⟨b1,b2,b3,b4⟩:=J.d1 x k O;exact e.elim b4 b1
      . exact e.elim a5 fun e=>a1 e.symm
      . exact e.elim a6 fun e=>a2 e.symm
      . obtain ⟨r1,Q,r3⟩:=J.rw x X;refine ⟨r1,Q,r3.jG MM fun b8 k O e=> ?_⟩;obtain ⟨b1,b2,b3,b4,b5⟩:=J.d3 x X (by rw [r1];exact List.length_pos_iff.2 b8) k O;exact e.elim b4 b1
      . rcases e with e|e
        . have:=J.wy.2.2.2.1 k e;omega
        . have:=J.wy.1;omega
     have h0:=h.l0 _ hm;have hJ:(((ls.getD i 0).toNat:Nat):Int)=ls.getD i 0:=Int.toNat_of_nonneg h0;have U:s.aN (ls.getD i 0).toNat:=(h.th _).2 (by rw [hJ];exact hm);have a7: ∀x∈s.R (.l (ls.getD i 0).toNat),¬(0<s.val x/\s.kG x=(((ls.getD i 0).toNat:Nat):Int)):=fun x X e=>h.g.Oo aa (h.g.cv _ U x X) e.1;have cb:s.is (ls.getD i 0)=true:=by
      unfold aH.is;have:=U.1;rw [U.2];simp only [Bool.not_false,Bool.and_true,decide_eq_true_eq];omega
     refine ⟨_,rfl,_,ae ad.st rfl,(Dv ad.pm h.g (ls.getD i 0)).mono ?_⟩;rintro e ce ⟨du,rfl,H',hr⟩;have P:Pw ar ce b H H' (s.drop (ls.getD i 0).toNat):=by
      rcases hr with ⟨_,hf,_⟩| ⟨_,_,⟨x,X,h1,h2⟩,_⟩| ⟨_,_,_,hP⟩
      . rw [cb] at hf;cases hf
      . exact absurd ⟨h1,h2⟩ (a7 x X)
      . exact hP
     refine ⟨_,rfl,rfl,H',_,_,RB.of (ad.sU P) (h.rl.drop r (xQ h.g U a7)),?_,(yu _).2,?_,(((g1.trans V).mono fun _ _ e=>e.elim).then MM fun k _ e=>e.elim (fun e=> .inr (.inr (.inr (.inl e)))) fun e=> .inl e).then P.mod fun k _ e=> .inr (.inr (.inr (.inr e))),fun k O=> ?_⟩
     . rw [yT (i:=i) (by simpa using r) (fun j hj=>by rw [sM (by omega) 0];exact ag j hj) (by rw [sM r 0];exact Q)];exact Go.ChangeMaps.map_eraseIdx _ _ _
     . rw [sg _ _ (by simp) (by simp) (by simp) (by simp)];exact aa
     . rcases O with e|e|e|e| ⟨x,e⟩
       . exact .inl (.inl e)
       . exact .inl (.inr (.inl e))
       . exact .inl (.inr (.inr (.inl e)))
       . exact .inl (.inr (.inr (.inr (.inl e))))
       . rcases P.ft x k e with ⟨y,e⟩|e
         . exact .inl (.inr (.inr (.inr (.inr ⟨y,e⟩))))
         . right;have a1:=(g1.trans V).size;have a2:=MM.size;omega
   . have Q:aW (cl (ls.getD i 0))≠aW c:=by simpa using Q
     refine ⟨_,by omega,i+1,wN (by omega) (by omega),r,rfl,V,fun j hj=> ?_⟩;by_cases e:j<i
     . exact ag j e
     . obtain rfl:j=i:=by omega
       exact Q
 . have r:i=ls.length:=by simp at r;omega
   subst r;exact ⟨rfl,H,s,ls,hu,(zH fun j hj=>by rw [sM (by simpa using hj) 0];exact ag j (by simpa using hj)).symm,rfl,aa,(g1.trans gu).mono fun _ _ e=>e.elim,fun k O=> .inl O⟩
end
section
variable {W w w' w0 w2 w3:World} {nb b ib ab k:Nat} {vars:Int} {id id':List (Int × Int)} {cs:List (List Int)} {t:Bool} {A A':Nat->Prop} {cp lp lp':Option Addr} {n cc:Nat} {c:List Int} {H H':Pt->Sl} {s s':aH} {lc:Nat} {ls:List Int} {sm:List (Int × Sl)} {cl:Int->List Int}
theorem RB.N6 (h:RB W w nb b ib ab vars id H s lp lc ls sm cl): ∀k,FP nb ib ab b H lp k->k<w.heap.size:=by
 rintro k (rfl|rfl|rfl|e| ⟨x,e⟩)
 . exact h.st.lt
 . exact h.im.lt
 . exact h.am.lt
 . exact h.lo.lt k e
 . exact h.pm.lt x k e
theorem Pw.fp (P:Pw w w' b H H' s'):aF (FP nb ib ab b H lp) w w'/\∀k,FP nb ib ab b H' lp k->FP nb ib ab b H lp k\/w.heap.size<=k:=by
 refine ⟨P.mod.mono fun k _ e=> .inr (.inr (.inr (.inr e))),fun k I=> ?_⟩;rcases I with e|e|e|e| ⟨x,e⟩
 . exact .inl (.inl e)
 . exact .inl (.inr (.inl e))
 . exact .inl (.inr (.inr (.inl e)))
 . exact .inl (.inr (.inr (.inr (.inl e))))
 . rcases P.ft x k e with ⟨y,e⟩|e
   . exact .inl (.inr (.inr (.inr (.inr ⟨y,e⟩))))
   . exact .inr e
def Aw (A:Nat->Prop) (w:World) (F:Nat->Prop):Prop:= ∀j,A j->j<w.heap.size/\¬F j
theorem Aw.go {F J:Nat->Prop} (h:Aw A w F) (M:aF F w w') (f: ∀k,J k->F k\/w.heap.size<=k):Aw A w' J/\aF (fun j=> ¬A j) w w':=by
 refine ⟨fun j I=> ⟨by have:=(h j I).1;have:=M.size;omega,fun e=> ?_⟩,M.mono fun k _ e O=> (h k O).2 e⟩;rcases f j e with e|e
 . exact (h j I).2 e
 . have:=(h j I).1;omega
def Wk (t:Bool) (A:Nat->Prop) (W w:World) (nb:Nat) (vars:Int) (id:List (Int × Int)) (cs:List (List Int)) (k:Nat):Prop:=
 ∃b ib ab H s lp lc ls sm cl,RB W w nb b ib ab vars id H s lp lc ls sm cl/\ls.map cl=cs/\s.nc<=k/\(t=true->s.R .tr= [])/\Aw A w (FP nb ib ab b H lp)
theorem Wk.MC (h:Wk t A W w nb vars id cs k) (O: ∀j,A' j->A j):Wk t A' W w nb vars id cs k:=by
 obtain ⟨b,ib,ab,H,s,lp,lc,ls,sm,cl,h,h1,U,I,J⟩:=h;exact ⟨b,ib,ab,H,s,lp,lc,ls,sm,cl,h,h1,U,I,fun j Q=>J j (O j Q)⟩
theorem Wk.enter (h:Wk t A W w nb vars id cs k) (g:ao w w'):Wk t (fun j=>A j\/(w.heap.size<=j/\j<w'.heap.size)) W w' nb vars id cs k:=by
 obtain ⟨b,ib,ab,H,s,lp,lc,ls,sm,cl,h,h1,Q,O,J⟩:=h;refine ⟨b,ib,ab,H,s,lp,lc,ls,sm,cl,h.grow g,h1,Q,O,fun j I=> ?_⟩;have U:=g.size;rcases I with I|I
 . exact ⟨by have:=(J j I).1;omega,(J j I).2⟩
 . exact ⟨I.2,fun e=>by have:=h.N6 j e;omega⟩
theorem Wk.wg (h:Wk t A W w nb vars id cs k):ao W w:=by
 obtain ⟨b,ib,ab,H,s,lp,lc,ls,sm,cl,h,h1,J,I⟩:=h;exact h.wg
theorem Wk.len (h:Wk t A W w nb vars id cs k):cs.length<=k:=by
 obtain ⟨b,ib,ab,H,s,lp,lc,ls,sm,cl,h,rfl,J,I⟩:=h;rw [List.length_map];have:=h.ll;omega
theorem Wk.has (h:Wk t A W w nb vars id cs k): ∃p2 I J:Value,∃ (lp:Option Addr) (lc:Nat),bA w nb #[.int .i64 vars,p2,I,.slice lp cs.length lc,J]:=by
 obtain ⟨b,ib,ab,H,s,lp,lc,ls,sm,cl,h,rfl,Q,O⟩:=h;rw [List.length_map];exact ⟨_,_,_,_,_,h.st⟩
theorem Wk.up (h:Wk t A W w nb vars id cs k):Wk t A W w nb vars id cs (k+1):=by
 obtain ⟨b,ib,ab,H,s,lp,lc,ls,sm,cl,h,h1,O,I,J⟩:=h;exact ⟨b,ib,ab,H,s,lp,lc,ls,sm,cl,h,h1,by omega,I,J⟩
theorem Wk.unit (h:Wk true A W w nb vars id cs k) (U:Vw (Value.int .i64) W cp c) (hn:n=c.length) (I:n<=100000) (hl: ∀x∈c,bq x=true/\Nt id x):
 Calls prog eX.id #[bL nb,.slice cp n cc] w fun e w'=> ∃r:Bool,e= .returned (.bool r)/\(r=true↔uB cs c)/\Wk (!c.isEmpty) A W w' nb vars id cs k/\aF (fun j=> ¬A j) w w':=by
 obtain ⟨b,ib,ab,H,s,lp,lc,ls,sm,cl,h,rfl,Z,V,J⟩:=h;refine (DE h (V rfl) (U.grow h.wg) hn I (fun x I=> (hl x I).1) (fun x I=> (hl x I).2)).mono ?_;rintro e w' ⟨r,rfl,hr,H',s',Y,P,O,ht⟩;obtain ⟨X,p2⟩:=P.fp (nb:=nb) (ib:=ib) (ab:=ab) (lp:=lp);obtain ⟨a1,a2⟩:=J.go X p2;exact ⟨r,rfl,hr,⟨b,ib,ab,H',s',lp,lc,ls,sm,cl,Y,rfl,by omega,fun e=>ht fun Q=>by subst Q;simp at e,a1⟩,a2⟩
theorem Wk.first (h:Wk (!c.isEmpty) A W w nb vars id cs k) (O:Vw (Value.int .i64) W cp c) (hn:n=c.length) (J:n<=90000) (hl: ∀x∈c,bq x=true/\Nt id x):
 Calls prog dK.id #[bL nb,.slice cp n cc] w fun e w'=> ∃r:Bool,e= .returned (.bool r)/\(r=true↔fB cs c)/\Wk (!c.isEmpty) A W w' nb vars id cs k/\aF (fun j=> ¬A j) w w':=by
 by_cases I:c= []
 . subst I;subst hn;exact dK.ak (cu rfl ⟨false,rfl,⟨fun e=> (by cases e),fun h=>absurd rfl h.1⟩,h,aF.refl w⟩)
 . obtain ⟨b,ib,ab,H,s,lp,lc,ls,sm,cl,h,rfl,h2,X,U⟩:=h;refine (HQ h (X (by simpa using I)) (O.grow h.wg) hn J (fun x J=> (hl x J).1) (fun x J=> (hl x J).2) fun _ k Q x e=> ?_).mono ?_
   . have:=O.lt I k Q;have:=h.wy.2.2.2.2 x k e;omega
   . rintro e w' ⟨r,rfl,hr,H',s',Z,P,V,ht⟩;obtain ⟨Y,p2⟩:=P.fp (nb:=nb) (ib:=ib) (ab:=ab) (lp:=lp);obtain ⟨a1,a2⟩:=U.go Y p2;exact ⟨r,rfl,hr,⟨b,ib,ab,H',s',lp,lc,ls,sm,cl,Z,rfl,by omega,fun _=>ht,a1⟩,a2⟩
theorem Wk.add (h:Wk t A W w nb vars id cs k) (X:Vw (Value.int .i64) W cp c) (hn:n=c.length) (hlen:c.length<=4096) (hl: ∀x∈c,bq x=true/\Nt id x) (hk:k<262144):
 Calls prog iv.id #[bL nb,.slice cp n cc] w fun e w'=>e= .returned (.tuple #[])/\Wk t A W w' nb (xm vars c) id (cs++ [c]) (k+1)/\aF (fun j=> ¬A j) w w':=by
 obtain ⟨b,ib,ab,H,s,lp,lc,ls,sm,cl,h,rfl,h2,Y,U⟩:=h;refine (J1 h X hn hlen hl (by omega)).mono ?_;rintro e w' ⟨rfl,H',s',lp',Q,J,O,I,h',hm,V,ht,Z,p2⟩;obtain ⟨a1,a2⟩:=U.go Z p2;exact ⟨rfl,⟨b,ib,ab,H',s',lp',Q,J,O,I,h',hm,by omega,fun e=>ht.trans (Y e),a1⟩,a2⟩
theorem Wk.drop (h:Wk true A W w nb vars id cs k) (U:Vw (Value.int .i64) W cp c) (hn:n=c.length) (J:iy c=true):
 Calls prog gN.id #[bL nb,.slice cp n cc] w fun e w'=>e= .returned (.tuple #[])/\Wk true A W w' nb vars id (lX c cs) k/\aF (fun j=> ¬A j) w w':=by
 obtain ⟨b,ib,ab,H,s,lp,lc,ls,sm,cl,h,rfl,Z,V,O⟩:=h;refine (Ht h (V rfl) (U.grow h.wg) hn J).mono ?_;rintro e w' ⟨rfl,H',s',I,Y,hm,Q,ht,X,p2⟩;obtain ⟨a1,a2⟩:=O.go X p2;exact ⟨rfl,⟨b,ib,ab,H',s',lp,lc,I,sm,cl,Y,hm,by omega,fun _=>ht,a1⟩,a2⟩
theorem Wk.OK {del:Bool} (h:Wk true A W w nb vars id cs k) (Z:Vw (Value.int .i64) W cp c) (hn:n=c.length) (hlen:c.length<=4096) (hl: ∀x∈c,bq x=true/\Nt id x) (hk:k<262144):
 Calls prog jf.id #[bL nb,.agg #[.bool del,.slice cp n cc]] w fun e w'=> ∃r:Int,e= .returned (.int .i64 r)/\aF (fun j=> ¬A j) w w'/\
  ((del=true/\r=0/\Wk true A W w' nb vars id (lX c cs) k)\/(del=false/\(uB cs c\/fB cs c)/\r=0/\Wk (!c.isEmpty) A W w' nb (xm vars c) id (cs++ [c]) (k+1))\/(del=false/\¬(uB cs c\/fB cs c)/\r=7/\Wk (!c.isEmpty) A W w' nb vars id cs k)):=by
 subst hn;have a6:iy c=true:=HZ (fun x hx=> (hl x hx).1) hlen;refine jf.ak ?_;intro V w2 I;have e2:=I.num;have i1:=I.has.lt;have hh:=h.enter I.mod;have lt: ∀j,A j->j<w.heap.size:=by
  obtain ⟨b,ib,ab,H,s,lp,lc,ls,sm,cl,_,_,_,_,h4⟩:=h;exact fun j hj=> (h4 j hj).1
 have dV: ∀ {t v X kk u},Wk t (fun j=>A j\/(w.heap.size<=j/\j<w2.heap.size)) W u nb v id X kk->Wk t A W u nb v id X kk:=fun h=>h.MC fun j hj=> .inl hj;have fm: ∀ {u:World},aF (fun j=> ¬(A j\/(w.heap.size<=j/\j<w2.heap.size))) w2 u->aF (fun j=> ¬A j) w u:=fun m=> (I.mod.mono fun _ _ e=>e.elim).then m fun k _ e e2=>e (.inl e2);have Q:A V\/(w.heap.size<=V/\V<w2.heap.size):= .inr ⟨by omega,i1⟩;refine ⟨_,ae I.has rfl,?_⟩;cases del with
 |true=>
  refine cu rfl ⟨_,_,_,ae I.has rfl,(hh.drop Z rfl a6).mono ?_⟩;rintro e w5 ⟨rfl,h5,m5⟩;exact ⟨rfl,0,rfl,fm m5,.inl ⟨rfl,rfl,dV h5⟩⟩
 |false=>
  obtain ⟨_,_,_,_,_,hs⟩:=hh.has;have bk:=hh.len;refine bm rfl ⟨_,rfl,_,_,_,ae hs rfl,bm (by simp;omega) ⟨_,_,_,ae I.has rfl,(hh.unit Z rfl (by omega) hl).mono ?_⟩⟩;rintro e w9 ⟨r,rfl,hr,k9,m9⟩;have n9:bA w9 V _:=I.has.keep m9 fun e=>e Q;refine ⟨r,rfl,aj (fun J=> ?_) (fun J=> ?_)⟩
  . have J: ¬uB cs c:=fun e=>by rw [hr.2 e] at J;cases J
    refine ⟨_,_,_,ae n9 rfl,(k9.first Z rfl (by omega) hl).mono ?_⟩;rintro e a7 ⟨r2,rfl,U,Y,O⟩;have av:bA a7 V _:=n9.keep O fun e=>e Q;refine ⟨_,rfl,aj (fun r3=> ?_) (fun r3=> ?_)⟩
    . exact ⟨7,rfl,fm (m9.trans O),.inr (.inr ⟨rfl,fun e=>e.elim J fun e=> (by rw [U.2 e] at r3;cases r3),rfl,dV Y⟩)⟩
    . have hf:fB cs c:=U.1 (by simpa using r3);refine ⟨_,_,_,ae av rfl,(Y.add Z rfl hlen hl hk).mono ?_⟩;rintro e bu ⟨rfl,ax,a8⟩;exact ⟨rfl,0,rfl,fm ((m9.trans O).trans a8),.inr (.inl ⟨rfl,.inr hf,rfl,dV ax⟩)⟩
  . have J:uB cs c:=hr.1 (by simpa using J);refine ⟨_,_,_,ae n9 rfl,(k9.add Z rfl hlen hl hk).mono ?_⟩;rintro e b4 ⟨rfl,ay,az⟩;exact ⟨rfl,0,rfl,fm (m9.trans az),.inr (.inl ⟨rfl,.inl J,rfl,dV ay⟩)⟩
end
end Go.Proofs.YtenmibfmhccmiaaGreat.W
