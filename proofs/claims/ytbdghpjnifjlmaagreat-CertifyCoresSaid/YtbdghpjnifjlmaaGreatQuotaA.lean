/- Quotas, plain. -/
import Derived.Test.YtbdghpjnifjlmaaGreatLearnA
import Derived.Test.YtbdghpjnifjlmaaGreatLitA
import Derived.Test.YtbdghpjnifjlmaaGreatSortA
set_option linter.unusedVariables false
namespace Go.QuP
def quo (first:Nat):Nat->Nat
 |0=>first
 |t+1=>quo first t+quo first t / 10+1
theorem Ft {a b:Nat} (h:a<=b):∀t,quo a t<=quo b t
 |0=>h
 |t+1=>by
  have:=Ft h t;unfold quo;omega
theorem yH (a:Nat):∀s t,s<=t->quo a s<=quo a t:=by
 intro s t h
 induction t with
 |zero=>rw [show s=0 by omega];exact y4 _
 |succ t ih=>
  by_cases e:s=t+1
  . rw [e];exact y4 _
  . have:=ih (by omega);have:quo a t<=quo a (t+1):=by simp only [quo];omega
    omega
theorem NW:quo 1048576 101<1000000000000:=by decide+kernel
theorem Ma {a t:Nat} (h:a<=1048576) (ht:t<=101):quo a t<1000000000000:=
 Nat.lt_of_le_of_lt (UY (Ft h t) (yH _ t 101 ht)) NW
end Go.QuP
namespace Go.Proofs.YtbdghpjnifjlmaaGreat.W.Re
open Go Go.Fw Go.RowKit Go.SoP Go.RedP Go.QuP
variable {w:World} {p:sn} {n c:Nat} {l:List Lr}
def AS (first times:Int):Bool:=decide (1<=first/\first<=1048576/\0<=times/\times<=100)
def mM (first times:Int):Int:=if AS first times then (quo first.toNat times.toNat:Int) else 0
theorem Na (first times:Int) (w:World):Calls Tryz.prog lI.id #[.i first,.i times] w λe w'=>e=.returned (.i (mM first times))/\ak w w':=by
 refine lI.aj ?_;have pI:AS first times=false->(Ending.returned (.i 0)=.returned (.i (mM first times))/\ak w w):=λh=>by unfold mM;rw [h];exact ⟨rfl,aD.refl w⟩
 refine ah (λq=>pI (by simp at q;unfold AS;exact decide_eq_false (by omega))) (λQ=>ah (λq=>pI (by simp at q;unfold AS;exact decide_eq_false (by omega))) (λJ=>ah (λq=>pI (by simp at q;unfold AS;exact decide_eq_false (by omega))) (λI=>ah (λq=>pI (by simp at q;unfold AS;exact decide_eq_false (by omega))) (λO=>?_))));simp only [decide_eq_false_iff_not] at Q J I O;have hm:AS first times=true:=decide_eq_true (by omega)
 refine ⟨λN V w' k=>∃t:Nat,V=t/\N=(quo first.toNat t:Nat)/\(t:Int)<=times/\k=times.toNat - t/\ak w w',⟨_,0,rfl,by simp only [quo];omega,by omega,rfl,aD.refl w⟩,?_⟩;rintro N V w1 k _ ⟨t,rfl,rfl,ht,rfl,G⟩;have b0:=Ma (a:=first.toNat) (t:=t) (by omega) (by omega);have b1:=Ma (a:=first.toNat) (t:=t+1) (by omega) (by omega);refine ah (λq=>?_) (λq=>⟨?_,G⟩)
 . have q:(t:Int)<times:=by simpa using q
   refine ⟨by decide,_,?_,t+1,wN,?_,by omega,rfl,G⟩
   . omega
   . have X:IntKind.i64.wrap (((quo first.toNat t:Nat):Int).tdiv 10)=((quo first.toNat t / 10:Nat):Int):=wN (by rw [Wg (by omega)];omega) (by omega);have U:IntKind.i64.wrap (((quo first.toNat t / 10:Nat):Int)+1)=((quo first.toNat t / 10+1:Nat):Int):=wN;rw [X,U];exact wN (by simp only [quo];omega) (by omega)
 . have q:(t:Int)=times:=by simp at q;omega
   unfold mM;rw [hm,if_pos rfl,<- q,tn]
theorem Qy (I first times:Int) (w:World):Calls Tryz.prog oR.id #[.i I,.i first,.i times] w λe w'=>e=.returned (.bool (decide (mM first times>0) && decide (I>=mM first times)))/\ak w w':=by
 refine oR.aj ?_;refine (Na first times w).mono ?_;rintro e w1 ⟨rfl,J⟩;refine ⟨_,rfl,ah (λq=>⟨?_,J⟩) (λq=>⟨?_,J⟩)⟩
 . rw [q];rfl
 . rw [q];rfl
end Go.Proofs.YtbdghpjnifjlmaaGreat.W.Re
namespace Go.Proofs.YtbdghpjnifjlmaaGreat.W
open Go Go.Fw Go.RowKit Go.SoP Go.LiP
open Go.Proofs.Tryz (prog)
section
variable {w:World} {p q:sn} {n c:Nat} {l:List Int}
theorem wS {hs:List Sl} {cs:List (List Int)} (J:V2 sT w q hs cs) {m t:Nat} (hm:m=cs.length) (ht:t<cs.length) {K:Addr->Prop}
 (Q:∀a (s:Sl),w.cell? a=some (.slice s.p s.n s.c)->s.n=(cs.getD t []).length->s.n<=maxLen->Vw sT w s.p (cs.getD t [])->s=hs.getD t Sl.nil->K a):aW q m (t:Int) 1 K:=
 L8 J hm ht λa s e hs h1 O I=>Q a s e h1 O I hs
theorem M0 {k:Int} {hs:List Sl} {cs:List (List Int)} {m d:Nat} (V:V2 sT w q hs cs) (hm:m=cs.length):Calls prog fW.id #[.agg #[.i k,.slice q m d]] w λe w'=>∃b:Bool,e=.returned (.bool b)/\ak w w':=by
 refine fW.aj ?_;intro n1 w1 h1;have X:=h1.mod;refine ⟨λ_ I w' k=>∃t:Nat,I=t/\t<=301/\k=301 - t/\ak w1 w',⟨_,0,rfl,vx _,rfl,aD.refl w1⟩,?_⟩;rintro N I w2 k2 _ ⟨t,rfl,ht,rfl,Q⟩;have O:=h1.has.grow Q;have J:=X.trans Q;refine ⟨_,_,_,ae O rfl,ah (λs=>ah (λU=>?_) (λ_=>?_)) (λ_=>?_)⟩
 . have s:t<cs.length:=by simp at s;omega
   have U:t<=300:=by simp at U;omega
   refine ⟨_,_,_,ae O rfl,wS (V.grow J) hm s λa x e Z Y v _=>⟨_,_,_,e,ah (λ_=>⟨false,rfl,J⟩) (λ_=>?_)⟩⟩;refine ⟨_,_,_,ae O rfl,wS (V.grow J) hm s λa x e Z Y v _=>⟨_,_,_,e,_,?_,t+1,wN,by omega,rfl,Q⟩⟩;omega
 . exact ⟨_,_,_,ae O rfl,ah (λ_=>⟨_,rfl,J⟩) (λ_=>⟨_,rfl,J⟩)⟩
 . exact ⟨_,_,_,ae O rfl,ah (λ_=>⟨_,rfl,J⟩) (λ_=>⟨_,rfl,J⟩)⟩
theorem De {α:Type} {a b:List α} {t:Nat} {d:α} (ha:t<a.length) (hb:t<b.length) (h:a.take t=b.take t) (e:a.getD t d=b.getD t d):a.take (t+1)=b.take (t+1):=by
 have J:a[t]? =some (a.getD t d):=by simp [List.getD,ha]
 have I:b[t]? =some (b.getD t d):=by simp [List.getD,hb]
 rw [UR,UR,h,J,I,e]
theorem E7 {v:List Int} {m d:Nat} (h:Vw sT w p l) (hn:n=l.length) (hm:n<=maxLen) (U:Vw sT w q v) (O:m=v.length):Calls prog dR.id #[.slice p n c,.slice q m d] w λe w'=>e=.returned (.bool (decide (l=v)))/\ak w w':=by
 refine dR.aj ?_;unfold maxLen at hm;refine ah (λs=>⟨?_,aD.refl w⟩) (λs=>?_)
 . have s:(n:Int)≠m:=by simpa using s
   rw [decide_eq_false];rintro rfl;omega
 . have s:(n:Int)=m:=by simpa using s
   refine ⟨λI w' k=>∃t:Nat,I=t/\t<=n/\k=n - t/\l.take t=v.take t/\ak w w',⟨_,0,rfl,vx _,rfl,rfl,aD.refl w⟩,?_⟩;rintro I w2 X _ ⟨t,rfl,ht,rfl,ha,G⟩;refine ah (λr=>?_) (λr=>⟨?_,G⟩)
   . have r:t<n:=by simpa using r
     refine (h.grow G).drew.ix 0 (by omega) hn (by omega) λa e=>⟨_,e,(U.grow G).drew.ix 0 (by omega) O (by omega) λa e=>⟨_,e,?_⟩⟩
     rw [tn];refine ah (λJ=>⟨?_,G.drew⟩) (λJ=>⟨_,?_,t+1,wN,by omega,rfl,De (d:=0) (by omega) (by omega) ha (by simpa using J),G.drew⟩)
     . have J:l.getD t 0≠v.getD t 0:=by simpa using J
       rw [decide_eq_false];rintro rfl;exact J rfl
     . omega
   . have r:t=n:=by simp at r;omega
     subst r;have Q:l.take t=l:=UM (by omega);have V:v.take t=v:=UM (by omega);rw [Q,V] at ha;rw [decide_eq_true ha]
theorem Iy {k:Int} {hs:List Sl} {cs:List (List Int)} {m d:Nat} (hc:V2 sT w q hs cs) (hm:m=cs.length):Calls prog iG.id #[.agg #[.i k,.slice q m d]] w λe w'=>e=.returned (.bool (cQ k cs))/\ak w w':=by
 refine iG.aj ?_;intro n1 w1 h1;have g1:=h1.mod;have pI:∀w',ak w w'->cQ k cs=false->(Ending.returned (.bool false)=.returned (.bool (cQ k cs))/\ak w w'):=λw' g hf=>by rw [hf];exact ⟨rfl,g⟩
 have no: ¬(0<=k/\k<=1048576/\cs.length<=262144)->cQ k cs=false:=λh=>by unfold cQ;rw [decide_eq_false h,Xf]
 refine ⟨_,ae h1.has rfl,ah (λs=>pI _ g1 (no (by simp at s;omega))) (λs1=>⟨_,ae h1.has rfl,ah (λs=>pI _ g1 (no (by simp at s;omega))) (λs2=>⟨_,_,_,ae h1.has rfl,ah (λs=>pI _ g1 (no (by simp at s;omega))) (λs3=>?_)⟩)⟩)⟩;simp only [decide_eq_false_iff_not] at s1 s2 s3;have U:cQ k cs=cs.all λc=>jf c && c.all λl=>decide (bh l<=k):=by unfold cQ;rw [decide_eq_true (by omega),VL]
 refine ⟨λI w' k2=>∃t:Nat,I=t/\t<=cs.length/\k2=cs.length - t/\((cs.take t).all λc=>jf c && c.all λl=>decide (bh l<=k))=true/\ak w1 w',⟨_,0,rfl,vx _,rfl,rfl,aD.refl w1⟩,?_⟩;rintro I w2 k2 _ ⟨t,rfl,ht,rfl,ha,g2⟩;have H2:=h1.has.grow g2;have G2:=g1.trans g2;refine ⟨_,_,_,ae H2 rfl,ah (λs=>?_) (λs=>⟨?_,G2⟩)⟩
 . have s:t<cs.length:=by simp at s;omega
   refine ⟨_,_,_,ae H2 rfl,wS (hc.grow G2) hm s λa x e e1 e2 v ex=>⟨_,_,_,e,(Iw v e1 e2).mono ?_⟩⟩;rintro e w3 ⟨rfl,g3⟩;have G3:=G2.trans g3;refine ⟨_,rfl,ah (λr=>pI _ G3 (by rw [U];exact oG (d:= []) s (by rw [show jf (cs.getD t [])=false by simpa using r];rfl))) (λr=>?_)⟩;have r:jf (cs.getD t [])=true:=by simpa using r
   have hlen:=(cy r).2;refine ⟨λJ w' k3=>∃j:Nat,J=j/\j<=(cs.getD t []).length/\k3=(cs.getD t []).length - j/\(((cs.getD t []).take j).all λl=>decide (bh l<=k))=true/\ak w3 w',⟨_,0,rfl,vx _,rfl,rfl,aD.refl w3⟩,?_⟩;rintro J w4 k3 _ ⟨j,rfl,hj,rfl,hb,Z⟩;have H4:=(H2.grow g3).grow Z;have G4:=G3.trans Z;refine ⟨_,_,_,ae H4 rfl,wS (hc.grow G4) hm s λa x e e1 e2 v ex=>⟨_,_,_,e,ah (λO=>?_) (λO=>?_)⟩⟩
   . have O:j< (cs.getD t []).length:=by simp at O;omega
     refine ⟨_,_,_,ae H4.drew rfl,wS (hc.grow G4).drew hm s λa x e e1 e2 v ex=>⟨_,_,_,e,v.ix 0 (by omega) e1 (by omega) λa e=>⟨_,e,?_⟩⟩⟩;rw [tn];have a8:=cJ (Ip r _ (bN O));have dG:∀Q,ak w4.drew Q->aF (decide (bh ((cs.getD t []).getD j 0)>k)) (Ending.returned (.bool false)=.returned (.bool (cQ k cs))/\ak w Q)
      (∃X,X< (cs.getD t []).length - j/\∃Y:Nat,IntKind.i64.wrap ((j:Int)+1)=Y/\Y<=(cs.getD t []).length/\X=(cs.getD t []).length - Y/\(((cs.getD t []).take Y).all λl=>decide (bh l<=k))=true/\ak w3 Q):=by
      intro Q V;refine ah (λr3=>pI _ (G4.drew.trans V) ?_) (λr3=>⟨_,?_,j+1,wN,by omega,rfl,rV (d:=0) O hb (by simp at r3 ⊢;omega),Z.drew.trans V⟩)
      . rw [U];refine oG (d:= []) s ?_;rw [oG (d:=0) O (by simp at r3 ⊢;omega),VS]
      . omega
     refine ⟨(jB (by omega) _ (by omega)).mono ?_,⟨_,ae H4.drew rfl,(jB (by omega) _ (by omega)).mono ?_⟩⟩
     . rintro e Q ⟨rfl,V⟩;exact ⟨_,rfl,_,ae (H4.drew.grow V) rfl,dG Q V⟩
     . rintro e Q ⟨rfl,V⟩;exact ⟨_,rfl,dG Q V⟩
   . have O:j=(cs.getD t []).length:=by simp at O;omega
     subst O;rw [K'] at hb;refine ⟨_,?_,t+1,wN,by omega,rfl,rV (d:= []) s ha (by rw [r,hb];rfl),(g2.trans g3).trans Z⟩;omega
 . have s:t=cs.length:=by simp at s;omega
   subst s;rw [K'] at ha;rw [U,ha]
end
section
variable {w:World} {p q:sn} {n c:Nat} {l:List Int}
theorem jK:nE prog nv aE 24=true:=by kernel_rfl
theorem PB (h:Vw sT w p l) (hn:n=l.length) (hm:n<=maxLen) {I:FuncId} {U:Array Value} (he:gH prog I=true) (pr:Int->Bool)
 (hf:∀x∈l,∀w',ak w w'->Calls prog I (#[]++ #[.i x]++U) w' λe w2=>e=.returned (.bool (pr x))/\ak w' w2):
 Calls prog bO.id #[.slice p n c,.func (.func I) #[] U] w λe w'=>ak w w'/\((e=.returned (.i (-1))/\∀t,t<l.length->pr (l.getD t 0)=false)\/
  ∃t:Nat,e=.returned (.i t)/\t<l.length/\pr (l.getD t 0)=true/\∀j,j<t->pr (l.getD j 0)=false):=by
 refine bO.aj ?_;unfold maxLen at hm;refine ⟨λv w' k=>∃t:Nat,v=t/\t<=l.length/\k=l.length - t/\(∀j,j<t->pr (l.getD j 0)=false)/\ak w w',⟨_,0,rfl,vx _,rfl,λj Q=>by omega,aD.refl w⟩,?_⟩;rintro v V k _ ⟨t,rfl,ht,rfl,ha,G⟩;refine ah (λq=>?_) (λq=>⟨G,.inl ⟨rfl,λj Q=>ha j (by simp at q;omega)⟩⟩);have O:t<l.length:=by simp at q;omega
 refine (h.grow G).ix 0 (by omega) hn (by omega) λa e=>⟨_,e,?_⟩
 rw [he];show Calls _ _ _ _ _;rw [tn];refine (hf _ (bN O) V G).mono ?_;rintro e X ⟨rfl,J⟩;refine ⟨_,rfl,ah (λs=>⟨G.trans J,.inr ⟨t,rfl,O,s,ha⟩⟩) (λs=>⟨_,?_,t+1,wN,by omega,rfl,λj Q=>?_,G.trans J⟩)⟩
 . omega
 . by_cases e:j=t
   . subst e;exact s
   . exact ha j (by omega)
theorem pd {f:Int->Bool} {t:Nat} (h:t<l.length):(l.take (t+1)).filter f=(l.take t).filter f++ (if f (l.getD t 0) then [l.getD t 0] else []):=by
 rw [UR,WS];have:l[t]? =some (l.getD t 0):=by simp [List.getD,h]
 rw [this];simp only [Wq,WQ,XS]
theorem wX (o:dz aq w p c l) (hn:n=l.length) (hm:n<=1000000) {Q:FuncId} {fv:Array Value} (he:gH prog Q=true) (pr:Int->Bool)
 (hf:∀x∈l,∀w',aD (Bk p) w w'->Calls prog Q (#[]++ #[.i x]++fv) w' λe w2=>e=.returned (.bool (pr x))/\ak w' w2):
 Calls prog cU.id #[.slice p n c,.func (.func Q) #[] fv] w λe w'=>e=.returned (.slice p (l.filter λx=> !pr x).length c)/\dz aq w' p c (l.filter λx=> !pr x)/\aD (Bk p) w w':=by
 refine cU.aj ?_;refine (PB o.vw hn (by unfold maxLen;omega) he pr λx O w' g=>hf x O w' (g.mono λ_ _=>False.elim)).mono ?_;rintro e w1 ⟨Z,⟨rfl,ap⟩| ⟨t,rfl,ht,ac,an⟩⟩
 . have:(l.filter λx=> !pr x)=l:=by
    rw [W2];intro x O;obtain ⟨j,U,e⟩:=I'.1 O;have:=ap j U;simp only [List.getD,Mb U,US,e] at this;rw [this];rfl
   rw [this];exact ⟨_,rfl,bP rfl ⟨by rw [hn],o.grow Z,Z.mono λ_ _=>False.elim⟩⟩
 . have M1:aD (Bk p) w w1:=Z.mono λ_ _=>False.elim;have a8:l.length<=c:=by
    rcases o.un with ⟨_,_,rfl⟩| ⟨_,_,_,_,h,_⟩
    . simp at ht
    . exact h
   have f0:(l.take t).filter (λx=> !pr x)=l.take t:=by
    rw [W2];intro x O;obtain ⟨j,U,e⟩:=I'.1 O;rw [GD] at U;have h2:=an j (by omega);rw [Wh] at e;simp only [List.getD,Mb (show j<l.length by omega),US,e] at h2;rw [h2];rfl
   have f1:(l.take (t+1)).filter (λx=> !pr x)=l.take t:=by
    rw [pd ht,f0,ac];simp
   refine ⟨_,rfl,bA (by simp) ?_⟩;have et:IntKind.i64.wrap ((t:Int)+1)=((t+1:Nat):Int):=wN;rw [et];refine ⟨λI J w' k=>∃ (i j:Nat) (cur:List Int),I=i/\J=j/\i<j/\j<=n/\k=n - j/\cur.length=n/\(∀x,j<=x->x<n->cur.getD x 0=l.getD x 0)/\cur.take i=(l.take j).filter (λx=> !pr x)/\dz aq w' p c cur/\aD (Bk p) w w',⟨_,t,t+1,l,rfl,rfl,by omega,by omega,rfl,hn.symm,λ_ _ _=>rfl,f1.symm,o.grow Z,M1⟩,?_⟩;rintro I J w2 k _ ⟨i,j,cur,rfl,rfl,a',U,rfl,hc,O,V,o2,m2⟩;refine ah (λs=>?_) (λs=>?_)
   . have s:j<n:=by simpa using s
     have sl:j<l.length:=by omega
     refine o2.ix 0 (by omega) hc.symm (by omega) λa e=>⟨_,e,?_⟩
     rw [tn,O j (y4 _) s,he];show Calls _ _ _ _ _;refine (hf _ (bN sl) w2 m2).mono ?_;rintro e w3 ⟨rfl,X⟩;have Y:=pd (f:=λx=> !pr x) sl;refine ⟨_,rfl,ah (λr=>?_) (λr=>?_)⟩
     . rw [if_pos r] at Y;refine (o2.grow X).st (l.getD j 0) rfl rfl (by omega) hc.symm (by omega) λw4 o4 m4=>?_;rw [tn] at o4;refine ⟨_,?_,i+1,j+1,_,wN,wN,by omega,by omega,rfl,by simpa using hc,λx x1 x2=>?_,?_,o4,(m2.grow X).trans m4⟩
       . omega
       . rw [Bu (by omega),if_neg (by omega)];exact O x (by omega) x2
       . rw [pC (by omega),V,Y]
     . rw [if_neg (by rw [r];exact Bool.false_ne_true),VF] at Y;refine ⟨_,?_,i,j+1,cur,rfl,wN,by omega,by omega,rfl,hc,λx x1 x2=>O x (by omega) x2,by rw [V,Y],o2.grow X,m2.grow X⟩;omega
   . have s:j=n:=by simp at s;omega
     have e0:l.take j=l:=UM (by omega);rw [e0] at V;have ag:(l.filter λx=> !pr x).length=i:=by rw [<- V];simp;omega
     refine eh i n c rfl rfl rfl (by omega) (by omega) (by omega) ?_;rw [if_neg (by omega)];refine o2.clear c9 jx (x:=(0:Int)) rfl rfl (by omega) (by omega) λw3 o3 m3=>?_;refine eh 0 i c rfl rfl rfl (by omega) (by omega) (by omega) ?_;rw [if_neg (by omega),Ve,Ve,Ql,ag];rw [V] at o3;exact ⟨rfl,o3,m2.trans m3⟩
end
section
variable {w w' w2:World} {b:Nat}
inductive Pt where
 |st|c|wa|va|le|re|tr|be|ds|lo
 |w (i:Nat)|l (i:Nat)|a (i:Nat)
deriving DecidableEq
def Pt.row:Pt->Bool
 | .st| .c| .wa=>false
 |_=>true
def Pt.f:Pt->Int->Value
 | .va=>Value.int .i8
 |_=>Value.int .i64
def Pt.T:Pt->TypeId
 | .va=>yu
 |_=>aq
def Pt.off:Pt->Nat
 | .c=>1| .wa=>2| .va=>3| .le=>4| .re=>5| .tr=>6| .be=>7| .ds=>8| .lo=>10
 |_=>0
def Pt.field:Pt->Bool
 | .tr| .be| .ds| .lo=>true
 |_=>false
structure aI where
 vars:Nat
 nc:Nat
 gone:Nat->Bool
 done:Nat
 R:Pt->List Int
def bH {α:Type} (R:Pt->α) (x:Pt) (v:α):Pt->α:=λy=>if y=x then v else R y
theorem bq {α:Type} {R:Pt->α} {x:Pt} {v:α}:bH R x v x=v:=by simp [bH]
theorem aU {α:Type} {R:Pt->α} {x y:Pt} {v:α} (h:y≠x):bH R x v y=R y:=by simp [bH,h]
def aI.set (s:aI) (x:Pt) (l:List Int):aI:= {s with R:=bH s.R x l}
abbrev Ce:=Sl × Sl × Bool
def Sg (x:Ce):List Value:= [x.1.v,x.2.1.v,.bool x.2.2]
theorem KW:GV 3 Sg:=⟨λ_=>rfl,by omega,λx v hv=>by
 simp only [Sg,UI,WO,or_false] at hv;rcases hv with rfl|rfl|rfl<;>rfl⟩
def Gn (H:Pt->Sl) (g:Nat->Bool) (i:Nat):Ce:=(H (.a i),H (.l i),g i)
def kg (H:Pt->Sl) (n:Nat):List Sl:=(List.range n).map λi=>H (.w i)
def EA (H:Pt->Sl) (g:Nat->Bool) (n:Nat):List Ce:=(List.range n).map (Gn H g)
def own (b:Nat) (H:Pt->Sl):Pt->Option Nat
 | .st=>some b
 |x=>aG (H x).p
def Cz (s:aI) (H:Pt->Sl):Array Value:=
 #[.i s.vars,(H .c).v,(H .wa).v,(H .va).v,(H .le).v,(H .re).v,(H .tr).v,(H .be).v,(H .ds).v,.i s.done,(H .lo).v]
structure PM (w:World) (b:Nat) (H:Pt->Sl) (s:aI):Prop where
 st:bT w b (Cz s H)
 c:Row 3 Sg lg w (H .c).p (H .c).c (EA H s.gone s.nc)
 cn:(H .c).n=s.nc
 wa:Ow Sl.v aE w (H .wa).p (H .wa).c (kg H (2* (s.vars+1)))
 wn:(H .wa).n=2* (s.vars+1)
 row:∀x,x.row=true->Ow x.f x.T w (H x).p (H x).c (s.R x)
 len:∀x,x.row=true->(H x).n=(s.R x).length
 inj:∀x y k,own b H x=some k->own b H y=some k->x=y
theorem cA {H:Pt->Sl} {x:Pt} (h:x≠ .st):own b H x=aG (H x).p:=by cases x<;>first|rfl|exact absurd rfl h
theorem dM {x:Pt} (h:x.row=true):x≠ .st/\x≠ .c/\x≠ .wa:=by cases x<;>simp [Pt.row] at h ⊢
theorem sN {x:Pt} (h:x.field=true):x.row=true:=by cases x<;>simp [Pt.field] at h<;>rfl
variable {H:Pt->Sl} {s:aI}
theorem PM.lt (h:PM w b H s):∀x k,own b H x=some k->k<w.heap.size:=by
 intro x k I;cases x
 case st=>simp [own] at I;subst I;exact h.st.lt
 case c=>exact h.c.lt k I
 case wa=>exact h.wa.lt k I
 all_goals exact (h.row _ rfl).lt k I
theorem PM.keep {S:Nat->Prop} (h:PM w b H s) (m:aD S w w') (J:∀x k,own b H x=some k->¬S k):PM w' b H s:=by
 refine ⟨h.st.keep m (J .st b rfl),h.c.keep m λk I=>J .c k I,h.cn,h.wa.keep m λk I=>J .wa k I,h.wn,λx O=> (h.row x O).keep m λk I=>J x k ?_,h.len,h.inj⟩;rw [cA (dM O).1];exact I
theorem PM.grow (h:PM w b H s) (m:ak w w'):PM w' b H s:=h.keep m λ_ _ _=>id
theorem PM.drew (h:PM w b H s):PM w.drew b H s:=h.grow (aD.refl w).drew
theorem PM.kc (h:PM w b H s) {x y:Pt} (O:x≠ .st) (I:y≠x) {k:Nat} (J:own b H y=some k):aG (H x).p≠some k:=by
 intro e;exact I (h.inj y x k J (by rw [cA O];exact e))
theorem PM.setRow (h:PM w b H s) {x:Pt} (V:x.row=true) {l':List Int} (hl:l'.length=(s.R x).length) (o:Ow x.f x.T w' (H x).p (H x).c l') (m:aD (λk=>aG (H x).p=some k) w w'):
 PM w' b H (s.set x l'):=by
 obtain ⟨h1,Q,U⟩:=dM V;have I:∀y k,y≠x->own b H y=some k->¬aG (H x).p=some k:=λy k J O=>h.kc h1 J O;refine ⟨h.st.keep m (I .st b (Vc h1) rfl),h.c.keep m λk O=>I .c k (Vc Q) O,h.cn,h.wa.keep m λk O=>I .wa k (Vc U) O,h.wn,λy J=>?_,λy J=>?_,h.inj⟩
 . by_cases e:y=x
   . subst e;simpa [aI.set,bq] using o
   . simp only [aI.set,aU e];exact (h.row y J).keep m λk O=>I y k e (by rw [cA (dM J).1];exact O)
 . by_cases e:y=x
   . subst e;simp only [aI.set,bq,hl];exact h.len y J
   . simp only [aI.set,aU e];exact h.len y J
structure Ui (w:World) (b:Nat) (H:Pt->Sl) (s:aI) (x:Pt):Prop where
 st:bT w b (Cz s H)
 c:Row 3 Sg lg w (H .c).p (H .c).c (EA H s.gone s.nc)
 wa:Ow Sl.v aE w (H .wa).p (H .wa).c (kg H (2* (s.vars+1)))
 row:∀y,y.row=true->y≠x->Ow y.f y.T w (H y).p (H y).c (s.R y)
theorem PM.Jb (h:PM w b H s) {x:Pt} (V:x.row=true) (m:aD (λk=>aG (H x).p=some k) w w'):Ui w' b H s x:=by
 obtain ⟨h1,Q,U⟩:=dM V;have I:∀y k,y≠x->own b H y=some k->¬aG (H x).p=some k:=λy k O J=>h.kc h1 O J;exact ⟨h.st.keep m (I .st b (Vc h1) rfl),h.c.keep m λk J=>I .c k (Vc Q) J,h.wa.keep m λk J=>I .wa k (Vc U) J,
  λy O e=> (h.row y O).keep m λk J=>I y k e (by rw [cA (dM O).1];exact J)⟩
theorem H_ (h:PM w b H s) {x:Pt} (U:x≠ .st) {q:Sl} (hp:∀k,aG q.p=some k->aG (H x).p=some k\/∀y,own b H y≠some k):
 ∀y z k,own b (bH H x q) y=some k->own b (bH H x q) z=some k->y=z:=by
 have key:∀y,y≠x->own b (bH H x q) y=own b H y:=λy e=>by
  cases y<;>first|rfl| (simp only [own];rw [aU e])
 have same:own b (bH H x q) x=aG q.p:=by rw [cA U,bq]
 intro y z k J I;by_cases Q:y=x<;>by_cases O:z=x
 . rw [Q,O]
 . subst Q;rw [same] at J;rw [key z O] at I;rcases hp k J with e|e
   . exact h.inj y z k (by rw [cA U];exact e) I
   . exact absurd I (e z)
 . subst O;rw [same] at I;rw [key y Q] at J;rcases hp k I with e|e
   . exact h.inj y z k J (by rw [cA U];exact e)
   . exact absurd J (e y)
 . rw [key y Q] at J;rw [key z O] at I;exact h.inj y z k J I
theorem Dz {x:Pt} {q:Sl} {g:Nat->Bool} {n:Nat} (hl:∀i,x≠ .l i) (ha:∀i,x≠ .a i):EA (bH H x q) g n=EA H g n:=by
 unfold EA Gn;refine Vl λi _=>?_;rw [aU (λe=>hl i e.symm),aU (λe=>ha i e.symm)]
theorem mh {x:Pt} {q:Sl} {n:Nat} (I:∀i,x≠ .w i):kg (bH H x q) n=kg H n:=by
 unfold kg;refine Vl λi _=>?_;rw [aU (λe=>I i e.symm)]
theorem PM.head (h:PM w b H s) {x:Pt} (Q:x.field=true) {O:sn} {c':Nat} {l':List Int} (o:Ow x.f x.T w2 O c' l') (X:Ui w2 b H s x)
 (hp:∀k,aG O=some k->aG (H x).p=some k\/∀y,own b H y≠some k) {n':Nat} (hn:n'=l'.length) {K:World->Prop}
 (I:∀w3,PM w3 b (bH H x ⟨O,n',c'⟩) (s.set x l')->aD (·=b) w2 w3->K w3):
 ∃w3,bB ((qw b).add x.off) 0 [.slice O n' c'] w2 w3/\K w3:=by
 subst hn;have hr:=sN Q;obtain ⟨h1,h2,h3⟩:=dM hr;have hb:∀y k,y≠ .st->own b H y=some k->k≠b:=λy k J I e=>by subst e;exact J (h.inj y .st k I rfl)
 have U:∀k,aG O=some k->¬k=b:=λk Y e=>by
  rcases hp k Y with Z|Z
  . exact h1 (h.inj x .st k (by rw [cA h1];exact Z) (by rw [e];rfl))
  . exact Z .st (by rw [e];rfl)
 refine cz (k:=x.off) (i:=0) X.st (by cases x<;>simp [Pt.field] at Q<;>rfl) rfl λw3 V m3=>I w3 ?_ m3;have hl:∀i,x≠ .l i:=λi e=>by subst e;simp [Pt.field] at Q
 have ha:∀i,x≠ .a i:=λi e=>by subst e;simp [Pt.field] at Q
 have hw:∀i,x≠ .w i:=λi e=>by subst e;simp [Pt.field] at Q
 refine ⟨?_,?_,?_,?_,?_,λy J=>?_,λy J=>?_,H_ h h1 hp⟩
 . have e:wr (Cz s H) (0+x.off+0) [.slice O l'.length c']=Cz (s.set x l') (bH H x ⟨O,l'.length,c'⟩):=by
    cases x<;>simp [Pt.field] at Q<;>simp [wr,Cz,Pt.off,bH,aI.set,Sl.v]
   rw [<- e];exact V
 . rw [Dz hl ha,aU (Vc h2)];exact X.c.keep m3 λk I=>hb .c k (by simp) I
 . rw [aU (Vc h2)];exact h.cn
 . show Ow Sl.v aE w3 _ _ (kg (bH H x _) (2* (s.vars+1)));rw [mh hw,aU (Vc h3)];exact X.wa.keep m3 λk I=>hb .wa k (by simp) I
 . rw [aU (Vc h3)];exact h.wn
 . by_cases e:y=x
   . subst e;simp only [aI.set,bq];exact o.keep m3 λk I=>U k I
   . simp only [aI.set,aU e];exact (X.row y J e).keep m3 λk I=>hb y k (dM J).1 (by rw [cA (dM J).1];exact I)
 . by_cases e:y=x
   . subst e;simp only [aI.set,bq]
   . simp only [aI.set,aU e];exact h.len y J
theorem PM.HJ (h:PM w b H s) {d:Int} {n:Nat} (Q:d=n) {K:World->Prop} (I:∀w3,PM w3 b H {s with done:=n}->aD (·=b) w w3->K w3):
 ∃w3,bB ((qw b).add 9) 0 [.i d] w w3/\K w3:=by
 subst Q;have hb:∀y k,y≠ .st->own b H y=some k->k≠b:=λy k J I e=>by subst e;exact J (h.inj y .st k I rfl)
 refine cz (k:=9) (i:=0) h.st rfl rfl λw3 O m3=>I w3 ?_ m3;refine ⟨O,h.c.keep m3 λk I=>hb .c k (by simp) I,h.cn,h.wa.keep m3 λk I=>hb .wa k (by simp) I,h.wn,λy J=> (h.row y J).keep m3 λk I=>hb y k (dM J).1 (by rw [cA (dM J).1];exact I),h.len,h.inj⟩
theorem GI {n i:Nat} (hi:i<n):(kg H n).getD i Sl.nil=H (.w i):=by
 simp [kg,List.getD,hi]
theorem Bg {n:Nat}:(kg H n).length=n:=by simp [kg]
theorem KZ {g:Nat->Bool} {n i:Nat} (hi:i<n) (d:Ce):(EA H g n).getD i d=Gn H g i:=by
 simp [EA,List.getD,hi]
theorem vj {g:Nat->Bool} {n:Nat}:(EA H g n).length=n:=by simp [EA]
theorem PM.HP (h:PM w b H s) {i:Nat} (hi:i<2* (s.vars+1)) {O:sn} {c':Nat} {l':List Int} (o:dz aq w2 O c' l') (X:Ui w2 b H s (.w i))
 (hp:∀k,aG O=some k->aG (H (.w i)).p=some k\/∀y,own b H y≠some k) {n' n:Nat} (hn:n'=l'.length) (V:n=2* (s.vars+1)) {I:Int} (hI:I=i) {K:World->Prop}
 (J:∀w3,PM w3 b (bH H (.w i) ⟨O,n',c'⟩) (s.set (.w i) l')->aD (λk=>aG (H .wa).p=some k) w2 w3->K w3):
 aW (H .wa).p n I 1 λa=>∃w3,bB a 0 [.slice O n' c'] w2 w3/\K w3:=by
 subst hn hI;have hb:∀y k,y≠ .wa->own b H y=some k->¬aG (H .wa).p=some k:=λy k Q J=>h.kc (x:=.wa) (by simp) Q J;have U:∀k,aG O=some k->¬aG (H .wa).p=some k:=λk J e=>by
  rcases hp k J with Y|Y
  . have:=h.inj (.w i) .wa k Y e;cases this
  . exact Y .wa e
 refine X.wa.st (x:=⟨O,l'.length,c'⟩) rfl rfl (by omega) (by rw [Bg];exact V) (by omega) λw3 o3 m3=>J w3 ?_ m3;rw [tn] at o3;refine ⟨?_,?_,?_,?_,?_,λy Q=>?_,λy Q=>?_,H_ h (by simp) hp⟩
 . have e:Cz (s.set (.w i) l') (bH H (.w i) ⟨O,l'.length,c'⟩)=Cz s H:=by simp [Cz,bH,aI.set]
   rw [e];exact X.st.keep m3 (hb .st b (by simp) rfl)
 . rw [Dz (by simp) (by simp),aU (by simp)];exact X.c.keep m3 λk J=>hb .c k (by simp) J
 . rw [aU (by simp)];exact h.cn
 . rw [aU (by simp)];have e:kg (bH H (.w i) ⟨O,l'.length,c'⟩) (2* ((s.set (.w i) l').vars+1))=(kg H (2* (s.vars+1))).set i ⟨O,l'.length,c'⟩:=by
    apply VO;intro j;simp only [kg,aI.set,Vx,VC,UL,VP];by_cases e:i=j
    . subst e;simp [hi,bH]
    . rw [if_neg e];by_cases Z:j<2* (s.vars+1)
      . simp [Z,bH,Vc e]
      . simp [Z]
   rw [e];exact o3
 . rw [aU (by simp)];exact h.wn
 . by_cases e:y=.w i
   . subst e;simp only [aI.set,bq];exact o.keep m3 λk J=>U k J
   . simp only [aI.set,aU e];exact (X.row y Q e).keep m3 λk J=>hb y k (dM Q).2.2 (by rw [cA (dM Q).1];exact J)
 . by_cases e:y=.w i
   . subst e;simp only [aI.set,bq]
   . simp only [aI.set,aU e];exact h.len y Q
theorem PM.cW (h:PM w b H s) {k:Nat} (I:w.heap.size<=k):∀y,own b H y≠some k:=λy e=>by have:=h.lt y k e;omega
theorem fF {a:Addr} {v:Value} (h:w.cell? a=some v):xR (·=w) a v:=λu e=>by rw [e];exact h
theorem PM.TG (h:PM w b H s) {i:Nat} (hi:i<2* (s.vars+1)) {n:Nat} (hn:n=(H .wa).n) {I:Int} (O:I=i) {K:Addr->Prop}
 (Q:∀a,aG (H .wa).p=some a.block->w.cell? a=some (H (.w i)).v->K a):aW (H .wa).p n I 1 K:=by
 subst O;refine h.wa.vw.Uq Sl.nil (by omega) (by rw [hn,h.wn,Bg]) (by rw [hn,h.wn];omega) λa ha J=>Q a ha ?_;rw [tn,GI hi] at J;exact J
theorem PM.Qg (h:PM w b H s) {i:Nat} (hi:i<s.nc) {n:Nat} (hn:n=(H .c).n) {I:Int} (O:I=i) {K:Addr->Prop}
 (Q:∀a,aK w a 0 [(H (.a i)).v,(H (.l i)).v,.bool (s.gone i)]->K a):aW (H .c).p n I 3 K:=by
 subst O;refine (h.c.vr KW).ix (Sl.nil,Sl.nil,false) (by omega) (by rw [hn,h.cn,vj]) (by rw [hn,h.cn];omega) λa J=>Q a ?_;rw [tn,KZ hi] at J;exact J
theorem PM.zi (h:PM w b H s) {x:Pt} (J:x.row=true) {I:Int} (Q:0<=I) {n:Nat} (hn:n=(H x).n) (h1:I< (s.R x).length) {K:Addr->Prop}
 (O:∀a,aG (H x).p=some a.block->w.cell? a=some (x.f ((s.R x).getD I.toNat 0))->K a):aW (H x).p n I 1 K:=
 (h.row x J).vw.Uq 0 Q (by rw [hn,h.len x J]) (by rw [hn,h.len x J];omega) O
theorem PM.Pm (h:PM w b H s) {x:Pt} (Y:x.row=true) {I:Int} (O:0<=I) {n:Nat} (h1:I< (s.R x).length) (J:I<n) {K:Addr->Prop}
 (X:∀a,aG (H x).p=some a.block->w.cell? a=some (x.f ((s.R x).getD I.toNat 0))->K a):aW (H x).p n I 1 K:=by
 obtain ⟨a,V,Q,h5,U⟩:=h.zi Y O rfl h1 X;exact ⟨a,V,Q,J,U⟩
theorem PM.J4 (h:PM w b H s) {x:Pt} (J:x.row=true) {I:Int} (O:0<=I) {n:Nat} (hn:n=(H x).n) (h1:I< (s.R x).length) {y:Int} {v:Value} (hv:v=x.f y) (Q:km v=true) {K:World->Prop}
 (U:∀w',PM w' b H (s.set x ((s.R x).set I.toNat y))->aD (λk=>aG (H x).p=some k) w w'->K w'):aW (H x).p n I 1 λa=>∃w',bB a 0 [v] w w'/\K w':=
 (h.row x J).st y hv Q O (by rw [hn,h.len x J]) (by rw [hn,h.len x J];omega) λw' o m=>U w' (h.setRow J (by simp) o m) m
end
end Go.Proofs.YtbdghpjnifjlmaaGreat.W
