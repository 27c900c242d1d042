/- Quotas, plain. -/
import Derived.Test.YtenmibfmhccmiaaGreatLearnA
import Derived.Test.YtenmibfmhccmiaaGreatLitA
import Derived.Test.YtenmibfmhccmiaaGreatSortA
namespace Go.QuP
def quo (first:Nat):Nat->Nat
 |0=>first
 |t+1=>quo first t+quo first t / 10+1
theorem B_ {a b:Nat} (h:a<=b): ∀t,quo a t<=quo b t
 |0=>h
 |t+1=>by
  have:=B_ h t;unfold quo;omega
theorem vk (a:Nat): ∀s t,s<=t->quo a s<=quo a t:=by
 intro s t h
 induction t with
 |zero=>rw [show s=0 by omega];exact Nat.le_refl _
 |succ t ih=>
  by_cases e:s=t+1
  . rw [e];exact Nat.le_refl _
  . have:=ih (by omega);have:quo a t<=quo a (t+1):=by simp only [quo];omega
    omega
theorem JI:quo 1048576 101<1000000000000:=by decide+kernel
theorem Ik {a t:Nat} (h:a<=1048576) (ht:t<=101):quo a t<1000000000000:=
 Nat.lt_of_le_of_lt (Nat.le_trans (B_ h t) (vk _ t 101 ht)) JI
end Go.QuP
namespace Go.Proofs.YtenmibfmhccmiaaGreat.W.Re
open Go Go.Fw Go.RowKit Go.SoP Go.RedP Go.QuP
variable {w:World} {p:Option Addr} {n c:Nat} {l:List Lr}
def xn (first times:Int):Bool:=decide (1<=first/\first<=1048576/\0<=times/\times<=100)
def kC (first times:Int):Int:=if xn first times then (quo first.toNat times.toNat:Int) else 0
theorem Gs (first times:Int) (w:World):Calls Tryz.prog jp.id #[.int .i64 first,.int .i64 times] w fun e w'=>e= .returned (.int .i64 (kC first times))/\ao w w':=by
 refine jp.ak ?_;have nM:xn first times=false->(Ending.returned (.int .i64 0)= .returned (.int .i64 (kC first times))/\ao w w):=fun h=>by unfold kC;rw [h];exact ⟨rfl,aF.refl w⟩
 refine aj (fun q=>nM (by simp at q;unfold xn;exact decide_eq_false (by omega))) (fun Q=>aj (fun q=>nM (by simp at q;unfold xn;exact decide_eq_false (by omega))) (fun X=>aj (fun q=>nM (by simp at q;unfold xn;exact decide_eq_false (by omega))) (fun I=>aj (fun q=>nM (by simp at q;unfold xn;exact decide_eq_false (by omega))) (fun U=> ?_))));simp only [decide_eq_false_iff_not] at Q X I U;have hm:xn first times=true:=decide_eq_true (by omega)
 refine ⟨fun N V w' k=> ∃t:Nat,V=t/\N=(quo first.toNat t:Nat)/\(t:Int)<=times/\k=times.toNat - t/\ao w w',⟨_,0,rfl,by simp only [quo];omega,by omega,rfl,aF.refl w⟩,?_⟩;rintro N V w1 k _ ⟨t,rfl,rfl,ht,rfl,G⟩;have b0:=Ik (a:=first.toNat) (t:=t) (by omega) (by omega);have b1:=Ik (a:=first.toNat) (t:=t+1) (by omega) (by omega);refine aj (fun q=> ?_) (fun q=> ⟨?_,G⟩)
 . have q:(t:Int)<times:=by simpa using q
   refine ⟨by decide,_,?_,t+1,wN (by omega) (by omega),?_,by omega,rfl,G⟩
   . omega
   . have J:IntKind.i64.wrap (((quo first.toNat t:Nat):Int).tdiv 10)=((quo first.toNat t / 10:Nat):Int):=wN (by rw [Int.tdiv_eq_ediv_of_nonneg (by omega)];omega) (by omega);have O:IntKind.i64.wrap (((quo first.toNat t / 10:Nat):Int)+1)=((quo first.toNat t / 10+1:Nat):Int):=wN (by omega) (by omega);rw [J,O];exact wN (by simp only [quo];omega) (by omega)
 . have q:(t:Int)=times:=by simp at q;omega
   unfold kC;rw [hm,if_pos rfl,<- q,Int.toNat_natCast]
theorem KT (I first times:Int) (w:World):Calls Tryz.prog lL.id #[.int .i64 I,.int .i64 first,.int .i64 times] w fun e w'=>e= .returned (.bool (decide (kC first times>0) && decide (I>=kC first times)))/\ao w w':=by
 refine lL.ak ?_;refine (Gs first times w).mono ?_;rintro e w1 ⟨rfl,J⟩;refine ⟨_,rfl,aj (fun q=> ⟨?_,J⟩) (fun q=> ⟨?_,J⟩)⟩
 . rw [q];rfl
 . rw [q];rfl
end Go.Proofs.YtenmibfmhccmiaaGreat.W.Re
namespace Go.Proofs.YtenmibfmhccmiaaGreat.W
open Go Go.Fw Go.RowKit Go.SoP Go.LiP
open Go.Proofs.Tryz (prog)
section
variable {w:World} {p q:Option Addr} {n c:Nat} {l:List Int}
theorem wQ {hs:List Sl} {cs:List (List Int)} (J:V2 (Value.int .i64) w q hs cs) {m t:Nat} (hm:m=cs.length) (ht:t<cs.length) {K:Addr->Prop}
 (I: ∀a (s:Sl),w.cell? a=some (.slice s.p s.n s.c)->s.n=(cs.getD t []).length->s.n<=maxLen->Vw (Value.int .i64) w s.p (cs.getD t [])->s=hs.getD t Sl.nil->K a):aP q m (t:Int) 1 K:=
 Ko J hm ht fun a s e hs h1 Q O=>I a s e h1 Q O hs
theorem HB {k:Int} {hs:List Sl} {cs:List (List Int)} {m d:Nat} (V:V2 (Value.int .i64) w q hs cs) (hm:m=cs.length):Calls prog eI.id #[.agg #[.int .i64 k,.slice q m d]] w fun e w'=> ∃b:Bool,e= .returned (.bool b)/\ao w w':=by
 refine eI.ak ?_;intro n1 w1 h1;have X:=h1.mod;refine ⟨fun _ I w' k=> ∃t:Nat,I=t/\t<=301/\k=301 - t/\ao w1 w',⟨_,0,rfl,Nat.zero_le _,rfl,aF.refl w1⟩,?_⟩;rintro N I w2 k2 _ ⟨t,rfl,ht,rfl,Q⟩;have O:=h1.has.grow Q;have J:=X.trans Q;refine ⟨_,_,_,ae O rfl,aj (fun s=>aj (fun U=> ?_) (fun _=> ?_)) (fun _=> ?_)⟩
 . have s:t<cs.length:=by simp at s;omega
   have U:t<=300:=by simp at U;omega
   refine ⟨_,_,_,ae O rfl,wQ (V.grow J) hm s fun a x e Z Y v _=> ⟨_,_,_,e,aj (fun _=> ⟨false,rfl,J⟩) (fun _=> ?_)⟩⟩;refine ⟨_,_,_,ae O rfl,wQ (V.grow J) hm s fun a x e Z Y v _=> ⟨_,_,_,e,_,?_,t+1,wN (by omega) (by omega),by omega,rfl,Q⟩⟩;omega
 . exact ⟨_,_,_,ae O rfl,aj (fun _=> ⟨_,rfl,J⟩) (fun _=> ⟨_,rfl,J⟩)⟩
 . exact ⟨_,_,_,ae O rfl,aj (fun _=> ⟨_,rfl,J⟩) (fun _=> ⟨_,rfl,J⟩)⟩
theorem zy {α:Type} {a b:List α} {t:Nat} {d:α} (ha:t<a.length) (hb:t<b.length) (h:a.take t=b.take t) (e:a.getD t d=b.getD t d):a.take (t+1)=b.take (t+1):=by
 have I:a[t]? =some (a.getD t d):=by simp [List.getD,ha]
 have J:b[t]? =some (b.getD t d):=by simp [List.getD,hb]
 rw [List.take_add_one,List.take_add_one,h,I,J,e]
theorem Hu {v:List Int} {m d:Nat} (h:Vw (Value.int .i64) w p l) (hn:n=l.length) (hm:n<=maxLen) (V:Vw (Value.int .i64) w q v) (O:m=v.length):Calls prog c9.id #[.slice p n c,.slice q m d] w fun e w'=>e= .returned (.bool (decide (l=v)))/\ao w w':=by
 refine c9.ak ?_;unfold maxLen at hm;refine aj (fun s=> ⟨?_,aF.refl w⟩) (fun s=> ?_)
 . have s:(n:Int)≠m:=by simpa using s
   rw [decide_eq_false];rintro rfl;omega
 . have s:(n:Int)=m:=by simpa using s
   refine ⟨fun I w' k=> ∃t:Nat,I=t/\t<=n/\k=n - t/\l.take t=v.take t/\ao w w',⟨_,0,rfl,Nat.zero_le _,rfl,rfl,aF.refl w⟩,?_⟩;rintro I w2 X _ ⟨t,rfl,ht,rfl,ha,G⟩;refine aj (fun r=> ?_) (fun r=> ⟨?_,G⟩)
   . have r:t<n:=by simpa using r
     refine (h.grow G).drew.ix 0 (by omega) hn (by omega) fun a e=> ⟨_,e,(V.grow G).drew.ix 0 (by omega) O (by omega) fun a e=> ⟨_,e,?_⟩⟩
     rw [Int.toNat_natCast];refine aj (fun J=> ⟨?_,G.drew⟩) (fun J=> ⟨_,?_,t+1,wN (by omega) (by omega),by omega,rfl,zy (d:=0) (by omega) (by omega) ha (by simpa using J),G.drew⟩)
     . have J:l.getD t 0≠v.getD t 0:=by simpa using J
       rw [decide_eq_false];rintro rfl;exact J rfl
     . omega
   . have r:t=n:=by simp at r;omega
     subst r;have U:l.take t=l:=List.take_of_length_le (by omega);have Q:v.take t=v:=List.take_of_length_le (by omega);rw [U,Q] at ha;rw [decide_eq_true ha]
theorem E9 {k:Int} {hs:List Sl} {cs:List (List Int)} {m d:Nat} (hc:V2 (Value.int .i64) w q hs cs) (hm:m=cs.length):Calls prog fY.id #[.agg #[.int .i64 k,.slice q m d]] w fun e w'=>e= .returned (.bool (ff k cs))/\ao w w':=by
 refine fY.ak ?_;intro n1 w1 h1;have Y:=h1.mod;have nM: ∀w',ao w w'->ff k cs=false->(Ending.returned (.bool false)= .returned (.bool (ff k cs))/\ao w w'):=fun w' g hf=>by rw [hf];exact ⟨rfl,g⟩
 have no: ¬(0<=k/\k<=1048576/\cs.length<=262144)->ff k cs=false:=fun h=>by unfold ff;rw [decide_eq_false h,Bool.false_and]
 refine ⟨_,ae h1.has rfl,aj (fun s=>nM _ Y (no (by simp at s;omega))) (fun s1=> ⟨_,ae h1.has rfl,aj (fun s=>nM _ Y (no (by simp at s;omega))) (fun s2=> ⟨_,_,_,ae h1.has rfl,aj (fun s=>nM _ Y (no (by simp at s;omega))) (fun s3=> ?_)⟩)⟩)⟩;simp only [decide_eq_false_iff_not] at s1 s2 s3;have V:ff k cs=cs.all fun c=>iy c && c.all fun l=>decide (bf l<=k):=by unfold ff;rw [decide_eq_true (by omega),Bool.true_and]
 refine ⟨fun I w' k2=> ∃t:Nat,I=t/\t<=cs.length/\k2=cs.length - t/\((cs.take t).all fun c=>iy c && c.all fun l=>decide (bf l<=k))=true/\ao w1 w',⟨_,0,rfl,Nat.zero_le _,rfl,rfl,aF.refl w1⟩,?_⟩;rintro I w2 k2 _ ⟨t,rfl,ht,rfl,ha,g2⟩;have H2:=h1.has.grow g2;have G2:=Y.trans g2;refine ⟨_,_,_,ae H2 rfl,aj (fun s=> ?_) (fun s=> ⟨?_,G2⟩)⟩
 . have s:t<cs.length:=by simp at s;omega
   refine ⟨_,_,_,ae H2 rfl,wQ (hc.grow G2) hm s fun a x e e1 e2 v ex=> ⟨_,_,_,e,(xA v e1 e2).mono ?_⟩⟩;rintro e w3 ⟨rfl,g3⟩;have G3:=G2.trans g3;refine ⟨_,rfl,aj (fun r=>nM _ G3 (by rw [V];exact pJ (d:= []) s (by rw [show iy (cs.getD t [])=false by simpa using r];rfl))) (fun r=> ?_)⟩;have r:iy (cs.getD t [])=true:=by simpa using r
   have hlen:=(cX r).2;refine ⟨fun J w' k3=> ∃j:Nat,J=j/\j<=(cs.getD t []).length/\k3=(cs.getD t []).length - j/\(((cs.getD t []).take j).all fun l=>decide (bf l<=k))=true/\ao w3 w',⟨_,0,rfl,Nat.zero_le _,rfl,rfl,aF.refl w3⟩,?_⟩;rintro J w4 k3 _ ⟨j,rfl,hj,rfl,hb,g4⟩;have Z:=(H2.grow g3).grow g4;have G4:=G3.trans g4;refine ⟨_,_,_,ae Z rfl,wQ (hc.grow G4) hm s fun a x e e1 e2 v ex=> ⟨_,_,_,e,aj (fun O=> ?_) (fun O=> ?_)⟩⟩
   . have O:j< (cs.getD t []).length:=by simp at O;omega
     refine ⟨_,_,_,ae Z.drew rfl,wQ (hc.grow G4).drew hm s fun a x e e1 e2 v ex=> ⟨_,_,_,e,v.ix 0 (by omega) e1 (by omega) fun a e=> ⟨_,e,?_⟩⟩⟩;rw [Int.toNat_natCast];have a_:=cx (D1 r _ (bo O));have dV: ∀Q,ao w4.drew Q->aG (decide (bf ((cs.getD t []).getD j 0)>k)) (Ending.returned (.bool false)= .returned (.bool (ff k cs))/\ao w Q)
      (∃X,X< (cs.getD t []).length - j/\∃j2:Nat,IntKind.i64.wrap ((j:Int)+1)=j2/\j2<=(cs.getD t []).length/\X=(cs.getD t []).length - j2/\(((cs.getD t []).take j2).all fun l=>decide (bf l<=k))=true/\ao w3 Q):=by
      intro Q U;refine aj (fun r3=>nM _ (G4.drew.trans U) ?_) (fun r3=> ⟨_,?_,j+1,wN (by omega) (by omega),by omega,rfl,vg (d:=0) O hb (by simp at r3 ⊢;omega),g4.drew.trans U⟩)
      . rw [V];refine pJ (d:= []) s ?_;rw [pJ (d:=0) O (by simp at r3 ⊢;omega),Bool.and_false]
      . omega
     refine ⟨(jO (by omega) _ (by omega)).mono ?_,⟨_,ae Z.drew rfl,(jO (by omega) _ (by omega)).mono ?_⟩⟩
     . rintro e Q ⟨rfl,U⟩;exact ⟨_,rfl,_,ae (Z.drew.grow U) rfl,dV Q U⟩
     . rintro e Q ⟨rfl,U⟩;exact ⟨_,rfl,dV Q U⟩
   . have O:j=(cs.getD t []).length:=by simp at O;omega
     subst O;rw [List.take_length] at hb;refine ⟨_,?_,t+1,wN (by omega) (by omega),by omega,rfl,vg (d:= []) s ha (by rw [r,hb];rfl),(g2.trans g3).trans g4⟩;omega
 . have s:t=cs.length:=by simp at s;omega
   subst s;rw [List.take_length] at ha;rw [V,ha]
end
section
variable {w:World} {p q:Option Addr} {n c:Nat} {l:List Int}
theorem kS:mB prog cq aI 24=true:=by kernel_rfl
theorem J9 (h:Vw (Value.int .i64) w p l) (hn:n=l.length) (hm:n<=maxLen) {I:FuncId} {J:Array Value} (he:fX prog I=true) (pr:Int->Bool)
 (hf: ∀x∈l,∀w',ao w w'->Calls prog I (#[]++ #[.int .i64 x]++J) w' fun e w2=>e= .returned (.bool (pr x))/\ao w' w2):
 Calls prog bF.id #[.slice p n c,.func (.func I) #[] J] w fun e w'=>ao w w'/\((e= .returned (.int .i64 (-1))/\∀t,t<l.length->pr (l.getD t 0)=false)\/
  ∃t:Nat,e= .returned (.int .i64 t)/\t<l.length/\pr (l.getD t 0)=true/\∀j,j<t->pr (l.getD j 0)=false):=by
 refine bF.ak ?_;unfold maxLen at hm;refine ⟨fun v w' k=> ∃t:Nat,v=t/\t<=l.length/\k=l.length - t/\(∀j,j<t->pr (l.getD j 0)=false)/\ao w w',⟨_,0,rfl,Nat.zero_le _,rfl,fun j Q=>by omega,aF.refl w⟩,?_⟩;rintro v V k _ ⟨t,rfl,ht,rfl,ha,G⟩;refine aj (fun q=> ?_) (fun q=> ⟨G,.inl ⟨rfl,fun j Q=>ha j (by simp at q;omega)⟩⟩);have O:t<l.length:=by simp at q;omega
 refine (h.grow G).ix 0 (by omega) hn (by omega) fun a e=> ⟨_,e,?_⟩
 rw [he];show Calls _ _ _ _ _;rw [Int.toNat_natCast];refine (hf _ (bo O) V G).mono ?_;rintro e X ⟨rfl,U⟩;refine ⟨_,rfl,aj (fun s=> ⟨G.trans U,.inr ⟨t,rfl,O,s,ha⟩⟩) (fun s=> ⟨_,?_,t+1,wN (by omega) (by omega),by omega,rfl,fun j Q=> ?_,G.trans U⟩)⟩
 . omega
 . by_cases e:j=t
   . subst e;exact s
   . exact ha j (by omega)
theorem mg {f:Int->Bool} {t:Nat} (h:t<l.length):(l.take (t+1)).filter f=(l.take t).filter f++ (if f (l.getD t 0) then [l.getD t 0] else []):=by
 rw [List.take_add_one,List.filter_append];have:l[t]? =some (l.getD t 0):=by simp [List.getD,h]
 rw [this];simp only [Option.toList_some,List.filter_cons,List.filter_nil]
theorem si (o:da aC w p c l) (hn:n=l.length) (hm:n<=1000000) {Q:FuncId} {fv:Array Value} (he:fX prog Q=true) (pr:Int->Bool)
 (hf: ∀x∈l,∀w',aF (Bk p) w w'->Calls prog Q (#[]++ #[.int .i64 x]++fv) w' fun e w2=>e= .returned (.bool (pr x))/\ao w' w2):
 Calls prog cr.id #[.slice p n c,.func (.func Q) #[] fv] w fun e w'=>e= .returned (.slice p (l.filter fun x=> !pr x).length c)/\da aC w' p c (l.filter fun x=> !pr x)/\aF (Bk p) w w':=by
 refine cr.ak ?_;refine (J9 o.vw hn (by unfold maxLen;omega) he pr fun x O w' g=>hf x O w' (g.mono fun _ _=>False.elim)).mono ?_;rintro e w1 ⟨X,⟨rfl,an⟩| ⟨t,rfl,ht,ag,ac⟩⟩
 . have:(l.filter fun x=> !pr x)=l:=by
    rw [List.filter_eq_self];intro x O;obtain ⟨j,U,e⟩:=List.mem_iff_getElem.1 O;have:=an j U;simp only [List.getD,List.getElem?_eq_getElem U,Option.getD_some,e] at this;rw [this];rfl
   rw [this];exact ⟨_,rfl,cu rfl ⟨by rw [hn],o.grow X,X.mono fun _ _=>False.elim⟩⟩
 . have M1:aF (Bk p) w w1:=X.mono fun _ _=>False.elim;have a8:l.length<=c:=by
    rcases o.un with ⟨_,_,rfl⟩| ⟨_,_,_,_,h,_⟩
    . simp at ht
    . exact h
   have f0:(l.take t).filter (fun x=> !pr x)=l.take t:=by
    rw [List.filter_eq_self];intro x O;obtain ⟨j,U,e⟩:=List.mem_iff_getElem.1 O;rw [List.length_take] at U;have h2:=ac j (by omega);rw [List.getElem_take] at e;simp only [List.getD,List.getElem?_eq_getElem (show j<l.length by omega),Option.getD_some,e] at h2;rw [h2];rfl
   have f1:(l.take (t+1)).filter (fun x=> !pr x)=l.take t:=by
    rw [mg ht,f0,ag];simp
   refine ⟨_,rfl,bm (by simp) ?_⟩;have et:IntKind.i64.wrap ((t:Int)+1)=((t+1:Nat):Int):=wN (by omega) (by omega);rw [et];refine ⟨fun I J w' k=> ∃ (i j:Nat) (cur:List Int),I=i/\J=j/\i<j/\j<=n/\k=n - j/\cur.length=n/\(∀x,j<=x->x<n->cur.getD x 0=l.getD x 0)/\cur.take i=(l.take j).filter (fun x=> !pr x)/\da aC w' p c cur/\aF (Bk p) w w',⟨_,t,t+1,l,rfl,rfl,by omega,by omega,rfl,hn.symm,fun _ _ _=>rfl,f1.symm,o.grow X,M1⟩,?_⟩;rintro I J w2 k _ ⟨i,j,cur,rfl,rfl,ay,U,rfl,hc,O,V,o2,m2⟩;refine aj (fun s=> ?_) (fun s=> ?_)
   . have s:j<n:=by simpa using s
     have sl:j<l.length:=by omega
     refine o2.ix 0 (by omega) hc.symm (by omega) fun a e=> ⟨_,e,?_⟩
     rw [Int.toNat_natCast,O j (Nat.le_refl _) s,he];show Calls _ _ _ _ _;refine (hf _ (bo sl) w2 m2).mono ?_;rintro e w3 ⟨rfl,Y⟩;have Z:=mg (f:=fun x=> !pr x) sl;refine ⟨_,rfl,aj (fun r=> ?_) (fun r=> ?_)⟩
     . rw [if_pos r] at Z;refine (o2.grow Y).st (l.getD j 0) rfl rfl (by omega) hc.symm (by omega) fun w4 o4 m4=> ?_;rw [Int.toNat_natCast] at o4;refine ⟨_,?_,i+1,j+1,_,wN (by omega) (by omega),wN (by omega) (by omega),by omega,by omega,rfl,by simpa using hc,fun x x1 x2=> ?_,?_,o4,(m2.grow Y).trans m4⟩
       . omega
       . rw [yh (by omega),if_neg (by omega)];exact O x (by omega) x2
       . rw [mA (by omega),V,Z]
     . rw [if_neg (by rw [r];exact Bool.false_ne_true),List.append_nil] at Z;refine ⟨_,?_,i,j+1,cur,rfl,wN (by omega) (by omega),by omega,by omega,rfl,hc,fun x x1 x2=>O x (by omega) x2,by rw [V,Z],o2.grow Y,m2.grow Y⟩;omega
   . have s:j=n:=by simp at s;omega
     have e0:l.take j=l:=List.take_of_length_le (by omega);rw [e0] at V;have ap:(l.filter fun x=> !pr x).length=i:=by rw [<- V];simp;omega
     refine fe i n c rfl rfl rfl (by omega) (by omega) (by omega) ?_;rw [if_neg (by omega)];refine o2.clear c4 ik (x:=(0:Int)) rfl rfl (by omega) (by omega) fun w3 o3 m3=> ?_;refine fe 0 i c rfl rfl rfl (by omega) (by omega) (by omega) ?_;rw [if_neg (by omega),Nat.sub_zero,Nat.sub_zero,IU,ap];rw [V] at o3;exact ⟨rfl,o3,m2.trans m3⟩
end
section
variable {w w' w2:World} {b:Nat}
inductive Pt where
 |st|c|wa|va|le|re|tr|be|ds|lo
 |w (i:Nat)|l (i:Nat)|a (i:Nat)
deriving DecidableEq
def Pt.row:Pt->Bool
 | .st| .c| .wa=>false
 |_=>true
def Pt.f:Pt->Int->Value
 | .va=>Value.int .i8
 |_=>Value.int .i64
def Pt.T:Pt->TypeId
 | .va=>ug
 |_=>aC
def Pt.off:Pt->Nat
 | .c=>1| .wa=>2| .va=>3| .le=>4| .re=>5| .tr=>6| .be=>7| .ds=>8| .lo=>10
 |_=>0
def Pt.field:Pt->Bool
 | .tr| .be| .ds| .lo=>true
 |_=>false
structure aH where
 vars:Nat
 nc:Nat
 gone:Nat->Bool
 done:Nat
 R:Pt->List Int
def bh {α:Type} (R:Pt->α) (x:Pt) (v:α):Pt->α:=fun y=>if y=x then v else R y
theorem aX {α:Type} {R:Pt->α} {x:Pt} {v:α}:bh R x v x=v:=by simp [bh]
theorem aM {α:Type} {R:Pt->α} {x y:Pt} {v:α} (h:y≠x):bh R x v y=R y:=by simp [bh,h]
def aH.set (s:aH) (x:Pt) (l:List Int):aH:= {s with R:=bh s.R x l}
abbrev Ce:=Sl × Sl × Bool
def Mg (x:Ce):List Value:= [x.1.v,x.2.1.v,.bool x.2.2]
theorem Ho:HJ 3 Mg:=⟨fun _=>rfl,by omega,fun x v hv=>by
 simp only [Mg,List.mem_cons,List.not_mem_nil,or_false] at hv;rcases hv with rfl|rfl|rfl<;>rfl⟩
def Cs (H:Pt->Sl) (g:Nat->Bool) (i:Nat):Ce:=(H (.a i),H (.l i),g i)
def iR (H:Pt->Sl) (n:Nat):List Sl:=(List.range n).map fun i=>H (.w i)
def AD (H:Pt->Sl) (g:Nat->Bool) (n:Nat):List Ce:=(List.range n).map (Cs H g)
def own (b:Nat) (H:Pt->Sl):Pt->Option Nat
 | .st=>some b
 |x=>aJ (H x).p
def y8 (s:aH) (H:Pt->Sl):Array Value:=
 #[.int .i64 s.vars,(H .c).v,(H .wa).v,(H .va).v,(H .le).v,(H .re).v,(H .tr).v,(H .be).v,(H .ds).v,.int .i64 s.done,(H .lo).v]
structure PM (w:World) (b:Nat) (H:Pt->Sl) (s:aH):Prop where
 st:bA w b (y8 s H)
 c:Row 3 Mg ji w (H .c).p (H .c).c (AD H s.gone s.nc)
 cn:(H .c).n=s.nc
 wa:Ow Sl.v aI w (H .wa).p (H .wa).c (iR H (2* (s.vars+1)))
 wn:(H .wa).n=2* (s.vars+1)
 row: ∀x,x.row=true->Ow x.f x.T w (H x).p (H x).c (s.R x)
 len: ∀x,x.row=true->(H x).n=(s.R x).length
 inj: ∀x y k,own b H x=some k->own b H y=some k->x=y
theorem bM {H:Pt->Sl} {x:Pt} (h:x≠ .st):own b H x=aJ (H x).p:=by cases x<;>first|rfl|exact absurd rfl h
theorem cY {x:Pt} (h:x.row=true):x≠ .st/\x≠ .c/\x≠ .wa:=by cases x<;>simp [Pt.row] at h ⊢
theorem qe {x:Pt} (h:x.field=true):x.row=true:=by cases x<;>simp [Pt.field] at h<;>rfl
variable {H:Pt->Sl} {s:aH}
theorem PM.lt (h:PM w b H s): ∀x k,own b H x=some k->k<w.heap.size:=by
 intro x k I;cases x
 case st=>simp [own] at I;subst I;exact h.st.lt
 case c=>exact h.c.lt k I
 case wa=>exact h.wa.lt k I
 all_goals exact (h.row _ rfl).lt k I
theorem PM.keep {S:Nat->Prop} (h:PM w b H s) (m:aF S w w') (J: ∀x k,own b H x=some k->¬S k):PM w' b H s:=by
 refine ⟨h.st.keep m (J .st b rfl),h.c.keep m fun k I=>J .c k I,h.cn,h.wa.keep m fun k I=>J .wa k I,h.wn,fun x O=> (h.row x O).keep m fun k I=>J x k ?_,h.len,h.inj⟩;rw [bM (cY O).1];exact I
theorem PM.grow (h:PM w b H s) (m:ao w w'):PM w' b H s:=h.keep m fun _ _ _=>id
theorem PM.drew (h:PM w b H s):PM w.drew b H s:=h.grow (aF.refl w).drew
theorem PM.iL (h:PM w b H s) {x y:Pt} (O:x≠ .st) (I:y≠x) {k:Nat} (J:own b H y=some k):aJ (H x).p≠some k:=by
 intro e;exact I (h.inj y x k J (by rw [bM O];exact e))
theorem PM.setRow (h:PM w b H s) {x:Pt} (U:x.row=true) {l':List Int} (hl:l'.length=(s.R x).length) (o:Ow x.f x.T w' (H x).p (H x).c l') (m:aF (fun k=>aJ (H x).p=some k) w w'):
 PM w' b H (s.set x l'):=by
 obtain ⟨h1,V,Q⟩:=cY U;have I: ∀y k,y≠x->own b H y=some k->¬aJ (H x).p=some k:=fun y k O J=>h.iL h1 O J;refine ⟨h.st.keep m (I .st b (Ne.symm h1) rfl),h.c.keep m fun k J=>I .c k (Ne.symm V) J,h.cn,h.wa.keep m fun k J=>I .wa k (Ne.symm Q) J,h.wn,fun y O=> ?_,fun y O=> ?_,h.inj⟩
 . by_cases e:y=x
   . subst e;simpa [aH.set,aX] using o
   . simp only [aH.set,aM e];exact (h.row y O).keep m fun k J=>I y k e (by rw [bM (cY O).1];exact J)
 . by_cases e:y=x
   . subst e;simp only [aH.set,aX,hl];exact h.len y O
   . simp only [aH.set,aM e];exact h.len y O
structure Oh (w:World) (b:Nat) (H:Pt->Sl) (s:aH) (x:Pt):Prop where
 st:bA w b (y8 s H)
 c:Row 3 Mg ji w (H .c).p (H .c).c (AD H s.gone s.nc)
 wa:Ow Sl.v aI w (H .wa).p (H .wa).c (iR H (2* (s.vars+1)))
 row: ∀y,y.row=true->y≠x->Ow y.f y.T w (H y).p (H y).c (s.R y)
theorem PM.Fh (h:PM w b H s) {x:Pt} (U:x.row=true) (m:aF (fun k=>aJ (H x).p=some k) w w'):Oh w' b H s x:=by
 obtain ⟨h1,V,Q⟩:=cY U;have I: ∀y k,y≠x->own b H y=some k->¬aJ (H x).p=some k:=fun y k O J=>h.iL h1 O J;exact ⟨h.st.keep m (I .st b (Ne.symm h1) rfl),h.c.keep m fun k J=>I .c k (Ne.symm V) J,h.wa.keep m fun k J=>I .wa k (Ne.symm Q) J,
  fun y O e=> (h.row y O).keep m fun k J=>I y k e (by rw [bM (cY O).1];exact J)⟩
theorem DM (h:PM w b H s) {x:Pt} (U:x≠ .st) {q:Sl} (hp: ∀k,aJ q.p=some k->aJ (H x).p=some k\/∀y,own b H y≠some k):
 ∀y z k,own b (bh H x q) y=some k->own b (bh H x q) z=some k->y=z:=by
 have key: ∀y,y≠x->own b (bh H x q) y=own b H y:=fun y e=>by
  cases y<;>first|rfl| (simp only [own];rw [aM e])
 have same:own b (bh H x q) x=aJ q.p:=by rw [bM U,aX]
 intro y z k I J;by_cases Q:y=x<;>by_cases O:z=x
 . rw [Q,O]
 . subst Q;rw [same] at I;rw [key z O] at J;rcases hp k I with e|e
   . exact h.inj y z k (by rw [bM U];exact e) J
   . exact absurd J (e z)
 . subst O;rw [same] at J;rw [key y Q] at I;rcases hp k J with e|e
   . exact h.inj y z k I (by rw [bM U];exact e)
   . exact absurd I (e y)
 . rw [key y Q] at I;rw [key z O] at J;exact h.inj y z k I J
theorem zS {x:Pt} {q:Sl} {g:Nat->Bool} {n:Nat} (hl: ∀i,x≠ .l i) (ha: ∀i,x≠ .a i):AD (bh H x q) g n=AD H g n:=by
 unfold AD Cs;refine List.map_congr_left fun i _=> ?_;rw [aM (fun e=>hl i e.symm),aM (fun e=>ha i e.symm)]
theorem jH {x:Pt} {q:Sl} {n:Nat} (I: ∀i,x≠ .w i):iR (bh H x q) n=iR H n:=by
 unfold iR;refine List.map_congr_left fun i _=> ?_;rw [aM (fun e=>I i e.symm)]
theorem PM.head (h:PM w b H s) {x:Pt} (Q:x.field=true) {O:Option Addr} {c':Nat} {l':List Int} (o:Ow x.f x.T w2 O c' l') (X:Oh w2 b H s x)
 (hp: ∀k,aJ O=some k->aJ (H x).p=some k\/∀y,own b H y≠some k) {n':Nat} (hn:n'=l'.length) {K:World->Prop}
 (I: ∀w3,PM w3 b (bh H x ⟨O,n',c'⟩) (s.set x l')->aF (·=b) w2 w3->K w3):
 ∃w3,ah ((Addr.mk b 0 none).add x.off) 0 [.slice O n' c'] w2 w3/\K w3:=by
 subst hn;have hr:=qe Q;obtain ⟨h1,h2,h3⟩:=cY hr;have hb: ∀y k,y≠ .st->own b H y=some k->k≠b:=fun y k J I e=>by subst e;exact J (h.inj y .st k I rfl)
 have V: ∀k,aJ O=some k->¬k=b:=fun k Z e=>by
  rcases hp k Z with Y|Y
  . exact h1 (h.inj x .st k (by rw [bM h1];exact Y) (by rw [e];rfl))
  . exact Y .st (by rw [e];rfl)
 refine bO (k:=x.off) (i:=0) X.st (by cases x<;>simp [Pt.field] at Q<;>rfl) rfl fun w3 U m3=>I w3 ?_ m3;have hl: ∀i,x≠ .l i:=fun i e=>by subst e;simp [Pt.field] at Q
 have ha: ∀i,x≠ .a i:=fun i e=>by subst e;simp [Pt.field] at Q
 have hw: ∀i,x≠ .w i:=fun i e=>by subst e;simp [Pt.field] at Q
 refine ⟨?_,?_,?_,?_,?_,fun y J=> ?_,fun y J=> ?_,DM h h1 hp⟩
 . have e:wr (y8 s H) (0+x.off+0) [.slice O l'.length c']=y8 (s.set x l') (bh H x ⟨O,l'.length,c'⟩):=by
    cases x<;>simp [Pt.field] at Q<;>simp [wr,y8,Pt.off,bh,aH.set,Sl.v]
   rw [<- e];exact U
 . rw [zS hl ha,aM (Ne.symm h2)];exact X.c.keep m3 fun k I=>hb .c k (by simp) I
 . rw [aM (Ne.symm h2)];exact h.cn
 . show Ow Sl.v aI w3 _ _ (iR (bh H x _) (2* (s.vars+1)));rw [jH hw,aM (Ne.symm h3)];exact X.wa.keep m3 fun k I=>hb .wa k (by simp) I
 . rw [aM (Ne.symm h3)];exact h.wn
 . by_cases e:y=x
   . subst e;simp only [aH.set,aX];exact o.keep m3 fun k I=>V k I
   . simp only [aH.set,aM e];exact (X.row y J e).keep m3 fun k I=>hb y k (cY J).1 (by rw [bM (cY J).1];exact I)
 . by_cases e:y=x
   . subst e;simp only [aH.set,aX]
   . simp only [aH.set,aM e];exact h.len y J
theorem PM.D5 (h:PM w b H s) {d:Int} {n:Nat} (Q:d=n) {K:World->Prop} (I: ∀w3,PM w3 b H {s with done:=n}->aF (·=b) w w3->K w3):
 ∃w3,ah ((Addr.mk b 0 none).add 9) 0 [.int .i64 d] w w3/\K w3:=by
 subst Q;have hb: ∀y k,y≠ .st->own b H y=some k->k≠b:=fun y k J I e=>by subst e;exact J (h.inj y .st k I rfl)
 refine bO (k:=9) (i:=0) h.st rfl rfl fun w3 O m3=>I w3 ?_ m3;refine ⟨O,h.c.keep m3 fun k I=>hb .c k (by simp) I,h.cn,h.wa.keep m3 fun k I=>hb .wa k (by simp) I,h.wn,fun y J=> (h.row y J).keep m3 fun k I=>hb y k (cY J).1 (by rw [bM (cY J).1];exact I),h.len,h.inj⟩
theorem CU {n i:Nat} (hi:i<n):(iR H n).getD i Sl.nil=H (.w i):=by
 simp [iR,List.getD,hi]
theorem yi {n:Nat}:(iR H n).length=n:=by simp [iR]
theorem GV {g:Nat->Bool} {n i:Nat} (hi:i<n) (d:Ce):(AD H g n).getD i d=Cs H g i:=by
 simp [AD,List.getD,hi]
theorem ri {g:Nat->Bool} {n:Nat}:(AD H g n).length=n:=by simp [AD]
theorem PM.DW (h:PM w b H s) {i:Nat} (hi:i<2* (s.vars+1)) {O:Option Addr} {c':Nat} {l':List Int} (o:da aC w2 O c' l') (X:Oh w2 b H s (.w i))
 (hp: ∀k,aJ O=some k->aJ (H (.w i)).p=some k\/∀y,own b H y≠some k) {n' n:Nat} (hn:n'=l'.length) (Y:n=2* (s.vars+1)) {I:Int} (hI:I=i) {K:World->Prop}
 (J: ∀w3,PM w3 b (bh H (.w i) ⟨O,n',c'⟩) (s.set (.w i) l')->aF (fun k=>aJ (H .wa).p=some k) w2 w3->K w3):
 aP (H .wa).p n I 1 fun a=> ∃w3,ah a 0 [.slice O n' c'] w2 w3/\K w3:=by
 subst hn hI;have hb: ∀y k,y≠ .wa->own b H y=some k->¬aJ (H .wa).p=some k:=fun y k Q J=>h.iL (x:= .wa) (by simp) Q J;have U: ∀k,aJ O=some k->¬aJ (H .wa).p=some k:=fun k J e=>by
  rcases hp k J with V|V
  . have:=h.inj (.w i) .wa k V e;cases this
  . exact V .wa e
 refine X.wa.st (x:=⟨O,l'.length,c'⟩) rfl rfl (by omega) (by rw [yi];exact Y) (by omega) fun w3 o3 m3=>J w3 ?_ m3;rw [Int.toNat_natCast] at o3;refine ⟨?_,?_,?_,?_,?_,fun y Q=> ?_,fun y Q=> ?_,DM h (by simp) hp⟩
 . have e:y8 (s.set (.w i) l') (bh H (.w i) ⟨O,l'.length,c'⟩)=y8 s H:=by simp [y8,bh,aH.set]
   rw [e];exact X.st.keep m3 (hb .st b (by simp) rfl)
 . rw [zS (by simp) (by simp),aM (by simp)];exact X.c.keep m3 fun k J=>hb .c k (by simp) J
 . rw [aM (by simp)];exact h.cn
 . rw [aM (by simp)];have e:iR (bh H (.w i) ⟨O,l'.length,c'⟩) (2* ((s.set (.w i) l').vars+1))=(iR H (2* (s.vars+1))).set i ⟨O,l'.length,c'⟩:=by
    apply List.ext_getElem?;intro j;simp only [iR,aH.set,List.getElem?_map,List.getElem?_set,List.length_map,List.length_range];by_cases e:i=j
    . subst e;simp [hi,bh]
    . rw [if_neg e];by_cases Z:j<2* (s.vars+1)
      . simp [Z,bh,Ne.symm e]
      . simp [Z]
   rw [e];exact o3
 . rw [aM (by simp)];exact h.wn
 . by_cases e:y= .w i
   . subst e;simp only [aH.set,aX];exact o.keep m3 fun k J=>U k J
   . simp only [aH.set,aM e];exact (X.row y Q e).keep m3 fun k J=>hb y k (cY Q).2.2 (by rw [bM (cY Q).1];exact J)
 . by_cases e:y= .w i
   . subst e;simp only [aH.set,aX]
   . simp only [aH.set,aM e];exact h.len y Q
theorem PM.bV (h:PM w b H s) {k:Nat} (I:w.heap.size<=k): ∀y,own b H y≠some k:=fun y e=>by have:=h.lt y k e;omega
theorem dW {a:Addr} {v:Value} (h:w.cell? a=some v):iH (·=w) a v:=fun u e=>by rw [e];exact h
theorem PM.NK (h:PM w b H s) {i:Nat} (hi:i<2* (s.vars+1)) {n:Nat} (hn:n=(H .wa).n) {I:Int} (Q:I=i) {K:Addr->Prop}
 (O: ∀a,aJ (H .wa).p=some a.block->w.cell? a=some (H (.w i)).v->K a):aP (H .wa).p n I 1 K:=by
 subst Q;refine h.wa.vw.OB Sl.nil (by omega) (by rw [hn,h.wn,yi]) (by rw [hn,h.wn];omega) fun a ha J=>O a ha ?_;rw [Int.toNat_natCast,CU hi] at J;exact J
theorem PM.Kh (h:PM w b H s) {i:Nat} (hi:i<s.nc) {n:Nat} (hn:n=(H .c).n) {I:Int} (Q:I=i) {K:Addr->Prop}
 (O: ∀a,aB w a 0 [(H (.a i)).v,(H (.l i)).v,.bool (s.gone i)]->K a):aP (H .c).p n I 3 K:=by
 subst Q;refine (h.c.vr Ho).ix (Sl.nil,Sl.nil,false) (by omega) (by rw [hn,h.cn,ri]) (by rw [hn,h.cn];omega) fun a J=>O a ?_;rw [Int.toNat_natCast,GV hi] at J;exact J
theorem PM.vJ (h:PM w b H s) {x:Pt} (J:x.row=true) {I:Int} (Q:0<=I) {n:Nat} (hn:n=(H x).n) (h1:I< (s.R x).length) {K:Addr->Prop}
 (O: ∀a,aJ (H x).p=some a.block->w.cell? a=some (x.f ((s.R x).getD I.toNat 0))->K a):aP (H x).p n I 1 K:=
 (h.row x J).vw.OB 0 Q (by rw [hn,h.len x J]) (by rw [hn,h.len x J];omega) O
theorem PM.Jy (h:PM w b H s) {x:Pt} (V:x.row=true) {I:Int} (Y:0<=I) {n:Nat} (h1:I< (s.R x).length) (X:I<n) {K:Addr->Prop}
 (J: ∀a,aJ (H x).p=some a.block->w.cell? a=some (x.f ((s.R x).getD I.toNat 0))->K a):aP (H x).p n I 1 K:=by
 obtain ⟨a,O,U,h5,Q⟩:=h.vJ V Y rfl h1 J;exact ⟨a,O,U,X,Q⟩
theorem PM.FB (h:PM w b H s) {x:Pt} (J:x.row=true) {I:Int} (U:0<=I) {n:Nat} (hn:n=(H x).n) (h1:I< (s.R x).length) {y:Int} {v:Value} (hv:v=x.f y) (Q:iU v=true) {K:World->Prop}
 (O: ∀w',PM w' b H (s.set x ((s.R x).set I.toNat y))->aF (fun k=>aJ (H x).p=some k) w w'->K w'):aP (H x).p n I 1 fun a=> ∃w',ah a 0 [v] w w'/\K w':=
 (h.row x J).st y hv Q U (by rw [hn,h.len x J]) (by rw [hn,h.len x J];omega) fun w' o m=>O w' (h.setRow J (by simp) o m) m
end
end Go.Proofs.YtenmibfmhccmiaaGreat.W
