/- Quotas, plain. -/
import Derived.Test.YtenmibfmhccmiaaGreatLearnA
import Derived.Test.YtenmibfmhccmiaaGreatLitA
import Derived.Test.YtenmibfmhccmiaaGreatSortA
namespace Go.QuP
def quo (first:Nat):Nat->Nat
 |0=>first
 |t+1=>quo first t+quo first t / 10+1
theorem Bw {a b:Nat} (h:a<=b): ∀t,quo a t<=quo b t
 |0=>h
 |t+1=>by
  have:=Bw h t;unfold quo;omega
theorem ua (a:Nat): ∀s t,s<=t->quo a s<=quo a t:=by
 intro s t h
 induction t with
 |zero=>rw [show s=0 by omega];exact Nat.le_refl _
 |succ t ih=>
  by_cases e:s=t+1
  . rw [e];exact Nat.le_refl _
  . have:=ih (by omega);have:quo a t<=quo a (t+1):=by simp only [quo];omega
    omega
theorem HT:quo 1048576 101<1000000000000:=by decide+kernel
theorem FV {a t:Nat} (h:a<=1048576) (ht:t<=101):quo a t<1000000000000:=
 Nat.lt_of_le_of_lt (Nat.le_trans (Bw h t) (ua _ t 101 ht)) HT
end Go.QuP
namespace Go.Proofs.YtenmibfmhccmiaaGreat.W.Re
open Go Go.Fw Go.RowKit Go.SoP Go.RedP Go.QuP
variable {w:World} {p:Option Addr} {n c:Nat} {l:List Lr}
def vg (first times:Int):Bool:=decide (1<=first/\first<=1048576/\0<=times/\times<=100)
def jK (first times:Int):Int:=if vg first times then (quo first.toNat times.toNat:Int) else 0
theorem Ez (first times:Int) (w:World):Calls Tryz.prog gK.id #[.int .i64 first,.int .i64 times] w fun e w'=>e= .returned (.int .i64 (jK first times))/\aq w w':=by
 refine gK.ah ?_;have I:vg first times=false->(Ending.returned (.int .i64 0)= .returned (.int .i64 (jK first times))/\aq w w):=fun h=>by unfold jK;rw [h];exact ⟨rfl,aE.refl w⟩
 refine ao (fun q=>I (by simp at q;unfold vg;exact decide_eq_false (by omega))) (fun X=>ao (fun q=>I (by simp at q;unfold vg;exact decide_eq_false (by omega))) (fun Q=>ao (fun q=>I (by simp at q;unfold vg;exact decide_eq_false (by omega))) (fun Y=>ao (fun q=>I (by simp at q;unfold vg;exact decide_eq_false (by omega))) (fun O=> ?_))));simp only [decide_eq_false_iff_not] at X Q Y O;have hm:vg first times=true:=decide_eq_true (by omega)
 refine ⟨fun N V w' k=> ∃t:Nat,V=t/\N=(quo first.toNat t:Nat)/\(t:Int)<=times/\k=times.toNat - t/\aq w w',⟨_,0,rfl,by simp only [quo];omega,by omega,rfl,aE.refl w⟩,?_⟩;rintro N V w1 k _ ⟨t,rfl,rfl,ht,rfl,G⟩;have b0:=FV (a:=first.toNat) (t:=t) (by omega) (by omega);have b1:=FV (a:=first.toNat) (t:=t+1) (by omega) (by omega);refine ao (fun q=> ?_) (fun q=> ⟨?_,G⟩)
 . have q:(t:Int)<times:=by simpa using q
   refine ⟨by decide,_,?_,t+1,wN (by omega) (by omega),?_,by omega,rfl,G⟩
   . omega
   . have U:IntKind.i64.wrap (((quo first.toNat t:Nat):Int).tdiv 10)=((quo first.toNat t / 10:Nat):Int):=wN (by rw [Int.tdiv_eq_ediv_of_nonneg (by omega)];omega) (by omega);have J:IntKind.i64.wrap (((quo first.toNat t / 10:Nat):Int)+1)=((quo first.toNat t / 10+1:Nat):Int):=wN (by omega) (by omega);rw [U,J];exact wN (by simp only [quo];omega) (by omega)
 . have q:(t:Int)=times:=by simp at q;omega
   unfold jK;rw [hm,if_pos rfl,<- q,Int.toNat_natCast]
theorem J9 (I first times:Int) (w:World):Calls Tryz.prog jw.id #[.int .i64 I,.int .i64 first,.int .i64 times] w fun e w'=>e= .returned (.bool (decide (jK first times>0) && decide (I>=jK first times)))/\aq w w':=by
 refine jw.ah ?_;refine (Ez first times w).mono ?_;rintro e w1 ⟨rfl,J⟩;refine ⟨_,rfl,ao (fun q=> ⟨?_,J⟩) (fun q=> ⟨?_,J⟩)⟩
 . rw [q];rfl
 . rw [q];rfl
end Go.Proofs.YtenmibfmhccmiaaGreat.W.Re
namespace Go.Proofs.YtenmibfmhccmiaaGreat.W
open Go Go.Fw Go.RowKit Go.SoP Go.LiP
open Go.Proofs.Tryz (prog)
section
variable {w:World} {p q:Option Addr} {n c:Nat} {l:List Int}
theorem uz {hs:List Sl} {cs:List (List Int)} (J:V2 (Value.int .i64) w q hs cs) {m t:Nat} (hm:m=cs.length) (ht:t<cs.length) {K:Addr->Prop}
 (O: ∀a (s:Sl),w.cell? a=some (.slice s.p s.n s.c)->s.n=(cs.getD t []).length->s.n<=maxLen->Vw (Value.int .i64) w s.p (cs.getD t [])->s=hs.getD t Sl.nil->K a):aV q m (t:Int) 1 K:=
 F_ J hm ht fun a s e hs h1 I Q=>O a s e h1 I Q hs
theorem Ew {k:Int} {hs:List Sl} {cs:List (List Int)} {m d:Nat} (V:V2 (Value.int .i64) w q hs cs) (hm:m=cs.length):Calls prog dv.id #[.agg #[.int .i64 k,.slice q m d]] w fun e w'=> ∃b:Bool,e= .returned (.bool b)/\aq w w':=by
 refine dv.ah ?_;intro n1 w1 h1;have X:=h1.mod;refine ⟨fun _ I w' k=> ∃t:Nat,I=t/\t<=301/\k=301 - t/\aq w1 w',⟨_,0,rfl,Nat.zero_le _,rfl,aE.refl w1⟩,?_⟩;rintro N I w2 k2 _ ⟨t,rfl,ht,rfl,Q⟩;have O:=h1.has.grow Q;have J:=X.trans Q;refine ⟨_,_,_,ad O rfl,ao (fun s=>ao (fun U=> ?_) (fun _=> ?_)) (fun _=> ?_)⟩
 . have s:t<cs.length:=by simp at s;omega
   have U:t<=300:=by simp at U;omega
   refine ⟨_,_,_,ad O rfl,uz (V.grow J) hm s fun a x e Z Y v _=> ⟨_,_,_,e,ao (fun _=> ⟨false,rfl,J⟩) (fun _=> ?_)⟩⟩;refine ⟨_,_,_,ad O rfl,uz (V.grow J) hm s fun a x e Z Y v _=> ⟨_,_,_,e,_,?_,t+1,wN (by omega) (by omega),by omega,rfl,Q⟩⟩;omega
 . exact ⟨_,_,_,ad O rfl,ao (fun _=> ⟨_,rfl,J⟩) (fun _=> ⟨_,rfl,J⟩)⟩
 . exact ⟨_,_,_,ad O rfl,ao (fun _=> ⟨_,rfl,J⟩) (fun _=> ⟨_,rfl,J⟩)⟩
theorem yn {α:Type} {a b:List α} {t:Nat} {d:α} (ha:t<a.length) (hb:t<b.length) (h:a.take t=b.take t) (e:a.getD t d=b.getD t d):a.take (t+1)=b.take (t+1):=by
 have I:a[t]? =some (a.getD t d):=by simp [List.getD,ha]
 have J:b[t]? =some (b.getD t d):=by simp [List.getD,hb]
 rw [List.take_add_one,List.take_add_one,h,I,J,e]
theorem Gd {v:List Int} {m d:Nat} (h:Vw (Value.int .i64) w p l) (hn:n=l.length) (hm:n<=maxLen) (U:Vw (Value.int .i64) w q v) (O:m=v.length):Calls prog cC.id #[.slice p n c,.slice q m d] w fun e w'=>e= .returned (.bool (decide (l=v)))/\aq w w':=by
 refine cC.ah ?_;unfold maxLen at hm;refine ao (fun s=> ⟨?_,aE.refl w⟩) (fun s=> ?_)
 . have s:(n:Int)≠m:=by simpa using s
   rw [decide_eq_false];rintro rfl;omega
 . have s:(n:Int)=m:=by simpa using s
   refine ⟨fun I w' k=> ∃t:Nat,I=t/\t<=n/\k=n - t/\l.take t=v.take t/\aq w w',⟨_,0,rfl,Nat.zero_le _,rfl,rfl,aE.refl w⟩,?_⟩;rintro I w2 X _ ⟨t,rfl,ht,rfl,ha,G⟩;refine ao (fun r=> ?_) (fun r=> ⟨?_,G⟩)
   . have r:t<n:=by simpa using r
     refine (h.grow G).drew.ix 0 (by omega) hn (by omega) fun a e=> ⟨_,e,(U.grow G).drew.ix 0 (by omega) O (by omega) fun a e=> ⟨_,e,?_⟩⟩
     rw [Int.toNat_natCast];refine ao (fun J=> ⟨?_,G.drew⟩) (fun J=> ⟨_,?_,t+1,wN (by omega) (by omega),by omega,rfl,yn (d:=0) (by omega) (by omega) ha (by simpa using J),G.drew⟩)
     . have J:l.getD t 0≠v.getD t 0:=by simpa using J
       rw [decide_eq_false];rintro rfl;exact J rfl
     . omega
   . have r:t=n:=by simp at r;omega
     subst r;have V:l.take t=l:=List.take_of_length_le (by omega);have Q:v.take t=v:=List.take_of_length_le (by omega);rw [V,Q] at ha;rw [decide_eq_true ha]
theorem Dp {k:Int} {hs:List Sl} {cs:List (List Int)} {m d:Nat} (hc:V2 (Value.int .i64) w q hs cs) (hm:m=cs.length):Calls prog eP.id #[.agg #[.int .i64 k,.slice q m d]] w fun e w'=>e= .returned (.bool (dH k cs))/\aq w w':=by
 refine eP.ah ?_;intro n1 w1 h1;have Z:=h1.mod;have O: ∀w',aq w w'->dH k cs=false->(Ending.returned (.bool false)= .returned (.bool (dH k cs))/\aq w w'):=fun w' g hf=>by rw [hf];exact ⟨rfl,g⟩
 have no: ¬(0<=k/\k<=1048576/\cs.length<=262144)->dH k cs=false:=fun h=>by unfold dH;rw [decide_eq_false h,Bool.false_and]
 refine ⟨_,ad h1.has rfl,ao (fun s=>O _ Z (no (by simp at s;omega))) (fun s1=> ⟨_,ad h1.has rfl,ao (fun s=>O _ Z (no (by simp at s;omega))) (fun s2=> ⟨_,_,_,ad h1.has rfl,ao (fun s=>O _ Z (no (by simp at s;omega))) (fun s3=> ?_)⟩)⟩)⟩;simp only [decide_eq_false_iff_not] at s1 s2 s3;have X:dH k cs=cs.all fun c=>iu c && c.all fun l=>decide (aX l<=k):=by unfold dH;rw [decide_eq_true (by omega),Bool.true_and]
 refine ⟨fun I w' k2=> ∃t:Nat,I=t/\t<=cs.length/\k2=cs.length - t/\((cs.take t).all fun c=>iu c && c.all fun l=>decide (aX l<=k))=true/\aq w1 w',⟨_,0,rfl,Nat.zero_le _,rfl,rfl,aE.refl w1⟩,?_⟩;rintro I w2 k2 _ ⟨t,rfl,ht,rfl,ha,g2⟩;have H2:=h1.has.grow g2;have G2:=Z.trans g2;refine ⟨_,_,_,ad H2 rfl,ao (fun s=> ?_) (fun s=> ⟨?_,G2⟩)⟩
 . have s:t<cs.length:=by simp at s;omega
   refine ⟨_,_,_,ad H2 rfl,uz (hc.grow G2) hm s fun a x e e1 e2 v ex=> ⟨_,_,_,e,(DO v e1 e2).mono ?_⟩⟩;rintro e w3 ⟨rfl,g3⟩;have G3:=G2.trans g3;refine ⟨_,rfl,ao (fun r=>O _ G3 (by rw [X];exact lY (d:= []) s (by rw [show iu (cs.getD t [])=false by simpa using r];rfl))) (fun r=> ?_)⟩;have r:iu (cs.getD t [])=true:=by simpa using r
   have hlen:=(fh r).2;refine ⟨fun J w' k3=> ∃j:Nat,J=j/\j<=(cs.getD t []).length/\k3=(cs.getD t []).length - j/\(((cs.getD t []).take j).all fun l=>decide (aX l<=k))=true/\aq w3 w',⟨_,0,rfl,Nat.zero_le _,rfl,rfl,aE.refl w3⟩,?_⟩;rintro J w4 k3 _ ⟨j,rfl,hj,rfl,hb,g4⟩;have H4:=(H2.grow g3).grow g4;have G4:=G3.trans g4;refine ⟨_,_,_,ad H4 rfl,uz (hc.grow G4) hm s fun a x e e1 e2 v ex=> ⟨_,_,_,e,ao (fun Q=> ?_) (fun Q=> ?_)⟩⟩
   . have Q:j< (cs.getD t []).length:=by simp at Q;omega
     refine ⟨_,_,_,ad H4.drew rfl,uz (hc.grow G4).drew hm s fun a x e e1 e2 v ex=> ⟨_,_,_,e,v.ix 0 (by omega) e1 (by omega) fun a e=> ⟨_,e,?_⟩⟩⟩;rw [Int.toNat_natCast];have a':=cH (Cs r _ (bM Q));have fI: ∀U,aq w4.drew U->aH (decide (aX ((cs.getD t []).getD j 0)>k)) (Ending.returned (.bool false)= .returned (.bool (dH k cs))/\aq w U)
      (∃Y,Y< (cs.getD t []).length - j/\∃j2:Nat,IntKind.i64.wrap ((j:Int)+1)=j2/\j2<=(cs.getD t []).length/\Y=(cs.getD t []).length - j2/\(((cs.getD t []).take j2).all fun l=>decide (aX l<=k))=true/\aq w3 U):=by
      intro U V;refine ao (fun r3=>O _ (G4.drew.trans V) ?_) (fun r3=> ⟨_,?_,j+1,wN (by omega) (by omega),by omega,rfl,qq (d:=0) Q hb (by simp at r3 ⊢;omega),g4.drew.trans V⟩)
      . rw [X];refine lY (d:= []) s ?_;rw [lY (d:=0) Q (by simp at r3 ⊢;omega),Bool.and_false]
      . omega
     refine ⟨(mA (by omega) _ (by omega)).mono ?_,⟨_,ad H4.drew rfl,(mA (by omega) _ (by omega)).mono ?_⟩⟩
     . rintro e U ⟨rfl,V⟩;exact ⟨_,rfl,_,ad (H4.drew.grow V) rfl,fI U V⟩
     . rintro e U ⟨rfl,V⟩;exact ⟨_,rfl,fI U V⟩
   . have Q:j=(cs.getD t []).length:=by simp at Q;omega
     subst Q;rw [List.take_length] at hb;refine ⟨_,?_,t+1,wN (by omega) (by omega),by omega,rfl,qq (d:= []) s ha (by rw [r,hb];rfl),(g2.trans g3).trans g4⟩;omega
 . have s:t=cs.length:=by simp at s;omega
   subst s;rw [List.take_length] at ha;rw [X,ha]
end
section
variable {w:World} {p q:Option Addr} {n c:Nat} {l:List Int}
theorem De {v:Value} (h:Es w (.cons (.int .i64) (.cons (.sl (.sl (.int .i64))) .nil)) v): ∃k q j d hs cs,v= .agg #[.int .i64 k,.slice q j d]/\j=cs.length/\j<=maxLen/\V2 (Value.int .i64) w q hs cs/\(-9223372036854775808<=k/\k<9223372036854775808):=by
 obtain ⟨cs,rfl,x,y,rfl,⟨k,rfl,V⟩,z,u,rfl,Z,rfl⟩:=h;have hv: ∃s,z= [s]/\Es w (.sl (.sl (.int .i64))) s:=by
  rcases Z with rfl| ⟨Y,J,I,rfl,g⟩
  . exact ⟨_,rfl,.inl rfl⟩
  . exact ⟨_,rfl,.inr ⟨Y,J,I,rfl,g⟩⟩
 obtain ⟨s,rfl,O⟩:=hv;obtain ⟨q,m,d,X,rows,rfl,hm,Q,U,hc⟩:=Av (fun v=>z_) O;exact ⟨k,q,m,d,X,rows,rfl,hm,Nat.le_trans Q U,hc,BL V⟩
end
section
variable {w:World} {p q:Option Addr} {n c:Nat} {l:List Int}
theorem xf:lN prog jX aJ 24=true:=by kernel_rfl
theorem Hs (h:Vw (Value.int .i64) w p l) (hn:n=l.length) (hm:n<=maxLen) {I:FuncId} {U:Array Value} (he:fM prog I=true) (pr:Int->Bool)
 (hf: ∀x∈l,∀w',aq w w'->Calls prog I (#[]++ #[.int .i64 x]++U) w' fun e w2=>e= .returned (.bool (pr x))/\aq w' w2):
 Calls prog bn.id #[.slice p n c,.func (.func I) #[] U] w fun e w'=>aq w w'/\((e= .returned (.int .i64 (-1))/\∀t,t<l.length->pr (l.getD t 0)=false)\/
  ∃t:Nat,e= .returned (.int .i64 t)/\t<l.length/\pr (l.getD t 0)=true/\∀j,j<t->pr (l.getD j 0)=false):=by
 refine bn.ah ?_;unfold maxLen at hm;refine ⟨fun v w' k=> ∃t:Nat,v=t/\t<=l.length/\k=l.length - t/\(∀j,j<t->pr (l.getD j 0)=false)/\aq w w',⟨_,0,rfl,Nat.zero_le _,rfl,fun j O=>by omega,aE.refl w⟩,?_⟩;rintro v V k _ ⟨t,rfl,ht,rfl,ha,G⟩;refine ao (fun q=> ?_) (fun q=> ⟨G,.inl ⟨rfl,fun j O=>ha j (by simp at q;omega)⟩⟩);have J:t<l.length:=by simp at q;omega
 refine (h.grow G).ix 0 (by omega) hn (by omega) fun a e=> ⟨_,e,?_⟩
 rw [he];show Calls _ _ _ _ _;rw [Int.toNat_natCast];refine (hf _ (bM J) V G).mono ?_;rintro e X ⟨rfl,Q⟩;refine ⟨_,rfl,ao (fun s=> ⟨G.trans Q,.inr ⟨t,rfl,J,s,ha⟩⟩) (fun s=> ⟨_,?_,t+1,wN (by omega) (by omega),by omega,rfl,fun j O=> ?_,G.trans Q⟩)⟩
 . omega
 . by_cases e:j=t
   . subst e;exact s
   . exact ha j (by omega)
theorem lE {f:Int->Bool} {t:Nat} (h:t<l.length):(l.take (t+1)).filter f=(l.take t).filter f++ (if f (l.getD t 0) then [l.getD t 0] else []):=by
 rw [List.take_add_one,List.filter_append];have:l[t]? =some (l.getD t 0):=by simp [List.getD,h]
 rw [this];simp only [Option.toList_some,List.filter_cons,List.filter_nil]
theorem rh (o:eC aC w p c l) (hn:n=l.length) (hm:n<=1000000) {Q:FuncId} {fv:Array Value} (he:fM prog Q=true) (pr:Int->Bool)
 (hf: ∀x∈l,∀w',aE (Bk p) w w'->Calls prog Q (#[]++ #[.int .i64 x]++fv) w' fun e w2=>e= .returned (.bool (pr x))/\aq w' w2):
 Calls prog bJ.id #[.slice p n c,.func (.func Q) #[] fv] w fun e w'=>e= .returned (.slice p (l.filter fun x=> !pr x).length c)/\eC aC w' p c (l.filter fun x=> !pr x)/\aE (Bk p) w w':=by
 refine bJ.ah ?_;refine (Hs o.vw hn (by unfold maxLen;omega) he pr fun x O w' g=>hf x O w' (g.mono fun _ _=>False.elim)).mono ?_;rintro e w1 ⟨X,⟨rfl,an⟩| ⟨t,rfl,ht,ag,ap⟩⟩
 . have:(l.filter fun x=> !pr x)=l:=by
    rw [List.filter_eq_self];intro x O;obtain ⟨j,V,e⟩:=List.mem_iff_getElem.1 O;have:=an j V;simp only [List.getD,List.getElem?_eq_getElem V,Option.getD_some,e] at this;rw [this];rfl
   rw [this];exact ⟨_,rfl,cj rfl ⟨by rw [hn],o.grow X,X.mono fun _ _=>False.elim⟩⟩
 . have M1:aE (Bk p) w w1:=X.mono fun _ _=>False.elim;have aT:l.length<=c:=by
    rcases o.un with ⟨_,_,rfl⟩| ⟨_,_,_,_,h,_⟩
    . simp at ht
    . exact h
   have f0:(l.take t).filter (fun x=> !pr x)=l.take t:=by
    rw [List.filter_eq_self];intro x O;obtain ⟨j,V,e⟩:=List.mem_iff_getElem.1 O;rw [List.length_take] at V;have h2:=ap j (by omega);rw [List.getElem_take] at e;simp only [List.getD,List.getElem?_eq_getElem (show j<l.length by omega),Option.getD_some,e] at h2;rw [h2];rfl
   have f1:(l.take (t+1)).filter (fun x=> !pr x)=l.take t:=by
    rw [lE ht,f0,ag];simp
   refine ⟨_,rfl,bm (by simp) ?_⟩;have et:IntKind.i64.wrap ((t:Int)+1)=((t+1:Nat):Int):=wN (by omega) (by omega);rw [et];refine ⟨fun I J w' k=> ∃ (i j:Nat) (cur:List Int),I=i/\J=j/\i<j/\j<=n/\k=n - j/\cur.length=n/\(∀x,j<=x->x<n->cur.getD x 0=l.getD x 0)/\cur.take i=(l.take j).filter (fun x=> !pr x)/\eC aC w' p c cur/\aE (Bk p) w w',⟨_,t,t+1,l,rfl,rfl,by omega,by omega,rfl,hn.symm,fun _ _ _=>rfl,f1.symm,o.grow X,M1⟩,?_⟩;rintro I J w2 k _ ⟨i,j,cur,rfl,rfl,a8,V,rfl,hc,O,U,o2,m2⟩;refine ao (fun s=> ?_) (fun s=> ?_)
   . have s:j<n:=by simpa using s
     have sl:j<l.length:=by omega
     refine o2.ix 0 (by omega) hc.symm (by omega) fun a e=> ⟨_,e,?_⟩
     rw [Int.toNat_natCast,O j (Nat.le_refl _) s,he];show Calls _ _ _ _ _;refine (hf _ (bM sl) w2 m2).mono ?_;rintro e w3 ⟨rfl,Z⟩;have Y:=lE (f:=fun x=> !pr x) sl;refine ⟨_,rfl,ao (fun r=> ?_) (fun r=> ?_)⟩
     . rw [if_pos r] at Y;refine (o2.grow Z).st (l.getD j 0) rfl rfl (by omega) hc.symm (by omega) fun w4 o4 m4=> ?_;rw [Int.toNat_natCast] at o4;refine ⟨_,?_,i+1,j+1,_,wN (by omega) (by omega),wN (by omega) (by omega),by omega,by omega,rfl,by simpa using hc,fun x x1 x2=> ?_,?_,o4,(m2.grow Z).trans m4⟩
       . omega
       . rw [wW (by omega),if_neg (by omega)];exact O x (by omega) x2
       . rw [lF (by omega),U,Y]
     . rw [if_neg (by rw [r];exact Bool.false_ne_true),List.append_nil] at Y;refine ⟨_,?_,i,j+1,cur,rfl,wN (by omega) (by omega),by omega,by omega,rfl,hc,fun x x1 x2=>O x (by omega) x2,by rw [U,Y],o2.grow Z,m2.grow Z⟩;omega
   . have s:j=n:=by simp at s;omega
     have e0:l.take j=l:=List.take_of_length_le (by omega);rw [e0] at U;have ac:(l.filter fun x=> !pr x).length=i:=by rw [<- U];simp;omega
     refine gD i n c rfl rfl rfl (by omega) (by omega) (by omega) ?_;rw [if_neg (by omega)];refine o2.clear dN ip (x:=(0:Int)) rfl rfl (by omega) (by omega) fun w3 o3 m3=> ?_;refine gD 0 i c rfl rfl rfl (by omega) (by omega) (by omega) ?_;rw [if_neg (by omega),Nat.sub_zero,Nat.sub_zero,L9,ac];rw [U] at o3;exact ⟨rfl,o3,m2.trans m3⟩
end
section
variable {w w' w2:World} {b:Nat}
inductive Pt where
 |st|c|wa|va|le|re|tr|be|ds|lo
 |w (i:Nat)|l (i:Nat)|a (i:Nat)
deriving DecidableEq
def Pt.row:Pt->Bool
 | .st| .c| .wa=>false
 |_=>true
def Pt.f:Pt->Int->Value
 | .va=>Value.int .i8
 |_=>Value.int .i64
def Pt.T:Pt->TypeId
 | .va=>sI
 |_=>aC
def Pt.off:Pt->Nat
 | .c=>1| .wa=>2| .va=>3| .le=>4| .re=>5| .tr=>6| .be=>7| .ds=>8| .lo=>10
 |_=>0
def Pt.field:Pt->Bool
 | .tr| .be| .ds| .lo=>true
 |_=>false
structure aG where
 vars:Nat
 nc:Nat
 gone:Nat->Bool
 done:Nat
 R:Pt->List Int
def bi {α:Type} (R:Pt->α) (x:Pt) (v:α):Pt->α:=fun y=>if y=x then v else R y
theorem aW {α:Type} {R:Pt->α} {x:Pt} {v:α}:bi R x v x=v:=by simp [bi]
theorem aP {α:Type} {R:Pt->α} {x y:Pt} {v:α} (h:y≠x):bi R x v y=R y:=by simp [bi,h]
def aG.set (s:aG) (x:Pt) (l:List Int):aG:= {s with R:=bi s.R x l}
abbrev Ce:=Sl × Sl × Bool
def KT (x:Ce):List Value:= [x.1.v,x.2.1.v,.bool x.2.2]
theorem Fy:Do 3 KT:=⟨fun _=>rfl,by omega,fun x v hv=>by
 simp only [KT,List.mem_cons,List.not_mem_nil,or_false] at hv;rcases hv with rfl|rfl|rfl<;>rfl⟩
def AA (H:Pt->Sl) (g:Nat->Bool) (i:Nat):Ce:=(H (.a i),H (.l i),g i)
def iy (H:Pt->Sl) (n:Nat):List Sl:=(List.range n).map fun i=>H (.w i)
def Ai (H:Pt->Sl) (g:Nat->Bool) (n:Nat):List Ce:=(List.range n).map (AA H g)
def own (b:Nat) (H:Pt->Sl):Pt->Option Nat
 | .st=>some b
 |x=>aI (H x).p
def xN (s:aG) (H:Pt->Sl):Array Value:=
 #[.int .i64 s.vars,(H .c).v,(H .wa).v,(H .va).v,(H .le).v,(H .re).v,(H .tr).v,(H .be).v,(H .ds).v,.int .i64 s.done,(H .lo).v]
structure PM (w:World) (b:Nat) (H:Pt->Sl) (s:aG):Prop where
 st:bF w b (xN s H)
 c:Row 3 KT i' w (H .c).p (H .c).c (Ai H s.gone s.nc)
 cn:(H .c).n=s.nc
 wa:Ow Sl.v aJ w (H .wa).p (H .wa).c (iy H (2* (s.vars+1)))
 wn:(H .wa).n=2* (s.vars+1)
 row: ∀x,x.row=true->Ow x.f x.T w (H x).p (H x).c (s.R x)
 len: ∀x,x.row=true->(H x).n=(s.R x).length
 inj: ∀x y k,own b H x=some k->own b H y=some k->x=y
theorem bK {H:Pt->Sl} {x:Pt} (h:x≠ .st):own b H x=aI (H x).p:=by cases x<;>first|rfl|exact absurd rfl h
theorem dh {x:Pt} (h:x.row=true):x≠ .st/\x≠ .c/\x≠ .wa:=by cases x<;>simp [Pt.row] at h ⊢
theorem oB {x:Pt} (h:x.field=true):x.row=true:=by cases x<;>simp [Pt.field] at h<;>rfl
variable {H:Pt->Sl} {s:aG}
theorem PM.lt (h:PM w b H s): ∀x k,own b H x=some k->k<w.heap.size:=by
 intro x k I;cases x
 case st=>simp [own] at I;subst I;exact h.st.lt
 case c=>exact h.c.lt k I
 case wa=>exact h.wa.lt k I
 all_goals exact (h.row _ rfl).lt k I
theorem PM.keep {S:Nat->Prop} (h:PM w b H s) (m:aE S w w') (J: ∀x k,own b H x=some k->¬S k):PM w' b H s:=by
 refine ⟨h.st.keep m (J .st b rfl),h.c.keep m fun k I=>J .c k I,h.cn,h.wa.keep m fun k I=>J .wa k I,h.wn,fun x O=> (h.row x O).keep m fun k I=>J x k ?_,h.len,h.inj⟩;rw [bK (dh O).1];exact I
theorem PM.grow (h:PM w b H s) (m:aq w w'):PM w' b H s:=h.keep m fun _ _ _=>id
theorem PM.drew (h:PM w b H s):PM w.drew b H s:=h.grow (aE.refl w).drew
theorem PM.ir (h:PM w b H s) {x y:Pt} (J:x≠ .st) (I:y≠x) {k:Nat} (O:own b H y=some k):aI (H x).p≠some k:=by
 intro e;exact I (h.inj y x k O (by rw [bK J];exact e))
theorem PM.setRow (h:PM w b H s) {x:Pt} (U:x.row=true) {l':List Int} (hl:l'.length=(s.R x).length) (o:Ow x.f x.T w' (H x).p (H x).c l') (m:aE (fun k=>aI (H x).p=some k) w w'):
 PM w' b H (s.set x l'):=by
 obtain ⟨h1,Q,V⟩:=dh U;have I: ∀y k,y≠x->own b H y=some k->¬aI (H x).p=some k:=fun y k J O=>h.ir h1 J O;refine ⟨h.st.keep m (I .st b (Ne.symm h1) rfl),h.c.keep m fun k O=>I .c k (Ne.symm Q) O,h.cn,h.wa.keep m fun k O=>I .wa k (Ne.symm V) O,h.wn,fun y J=> ?_,fun y J=> ?_,h.inj⟩
 . by_cases e:y=x
   . subst e;simpa [aG.set,aW] using o
   . simp only [aG.set,aP e];exact (h.row y J).keep m fun k O=>I y k e (by rw [bK (dh J).1];exact O)
 . by_cases e:y=x
   . subst e;simp only [aG.set,aW,hl];exact h.len y J
   . simp only [aG.set,aP e];exact h.len y J
structure Mx (w:World) (b:Nat) (H:Pt->Sl) (s:aG) (x:Pt):Prop where
 st:bF w b (xN s H)
 c:Row 3 KT i' w (H .c).p (H .c).c (Ai H s.gone s.nc)
 wa:Ow Sl.v aJ w (H .wa).p (H .wa).c (iy H (2* (s.vars+1)))
 row: ∀y,y.row=true->y≠x->Ow y.f y.T w (H y).p (H y).c (s.R y)
theorem PM.DT (h:PM w b H s) {x:Pt} (U:x.row=true) (m:aE (fun k=>aI (H x).p=some k) w w'):Mx w' b H s x:=by
 obtain ⟨h1,Q,V⟩:=dh U;have I: ∀y k,y≠x->own b H y=some k->¬aI (H x).p=some k:=fun y k O J=>h.ir h1 O J;exact ⟨h.st.keep m (I .st b (Ne.symm h1) rfl),h.c.keep m fun k J=>I .c k (Ne.symm Q) J,h.wa.keep m fun k J=>I .wa k (Ne.symm V) J,
  fun y O e=> (h.row y O).keep m fun k J=>I y k e (by rw [bK (dh O).1];exact J)⟩
theorem CA (h:PM w b H s) {x:Pt} (U:x≠ .st) {q:Sl} (hp: ∀k,aI q.p=some k->aI (H x).p=some k\/∀y,own b H y≠some k):
 ∀y z k,own b (bi H x q) y=some k->own b (bi H x q) z=some k->y=z:=by
 have key: ∀y,y≠x->own b (bi H x q) y=own b H y:=fun y e=>by
  cases y<;>first|rfl| (simp only [own];rw [aP e])
 have same:own b (bi H x q) x=aI q.p:=by rw [bK U,aW]
 intro y z k I J;by_cases O:y=x<;>by_cases Q:z=x
 . rw [O,Q]
 . subst O;rw [same] at I;rw [key z Q] at J;rcases hp k I with e|e
   . exact h.inj y z k (by rw [bK U];exact e) J
   . exact absurd J (e z)
 . subst Q;rw [same] at J;rw [key y O] at I;rcases hp k J with e|e
   . exact h.inj y z k I (by rw [bK U];exact e)
   . exact absurd I (e y)
 . rw [key y O] at I;rw [key z Q] at J;exact h.inj y z k I J
theorem xQ {x:Pt} {q:Sl} {g:Nat->Bool} {n:Nat} (hl: ∀i,x≠ .l i) (ha: ∀i,x≠ .a i):Ai (bi H x q) g n=Ai H g n:=by
 unfold Ai AA;refine List.map_congr_left fun i _=> ?_;rw [aP (fun e=>hl i e.symm),aP (fun e=>ha i e.symm)]
theorem jm {x:Pt} {q:Sl} {n:Nat} (I: ∀i,x≠ .w i):iy (bi H x q) n=iy H n:=by
 unfold iy;refine List.map_congr_left fun i _=> ?_;rw [aP (fun e=>I i e.symm)]
theorem PM.head (h:PM w b H s) {x:Pt} (Q:x.field=true) {J:Option Addr} {c':Nat} {l':List Int} (o:Ow x.f x.T w2 J c' l') (X:Mx w2 b H s x)
 (hp: ∀k,aI J=some k->aI (H x).p=some k\/∀y,own b H y≠some k) {n':Nat} (hn:n'=l'.length) {K:World->Prop}
 (I: ∀w3,PM w3 b (bi H x ⟨J,n',c'⟩) (s.set x l')->aE (·=b) w2 w3->K w3):
 ∃w3,af ((Addr.mk b 0 none).add x.off) 0 [.slice J n' c'] w2 w3/\K w3:=by
 subst hn;have hr:=oB Q;obtain ⟨h1,h2,h3⟩:=dh hr;have hb: ∀y k,y≠ .st->own b H y=some k->k≠b:=fun y k O I e=>by subst e;exact O (h.inj y .st k I rfl)
 have V: ∀k,aI J=some k->¬k=b:=fun k Y e=>by
  rcases hp k Y with U|U
  . exact h1 (h.inj x .st k (by rw [bK h1];exact U) (by rw [e];rfl))
  . exact U .st (by rw [e];rfl)
 refine bZ (k:=x.off) (i:=0) X.st (by cases x<;>simp [Pt.field] at Q<;>rfl) rfl fun w3 Z m3=>I w3 ?_ m3;have hl: ∀i,x≠ .l i:=fun i e=>by subst e;simp [Pt.field] at Q
 have ha: ∀i,x≠ .a i:=fun i e=>by subst e;simp [Pt.field] at Q
 have hw: ∀i,x≠ .w i:=fun i e=>by subst e;simp [Pt.field] at Q
 refine ⟨?_,?_,?_,?_,?_,fun y O=> ?_,fun y O=> ?_,CA h h1 hp⟩
 . have e:wr (xN s H) (0+x.off+0) [.slice J l'.length c']=xN (s.set x l') (bi H x ⟨J,l'.length,c'⟩):=by
    cases x<;>simp [Pt.field] at Q<;>simp [wr,xN,Pt.off,bi,aG.set,Sl.v]
   rw [<- e];exact Z
 . rw [xQ hl ha,aP (Ne.symm h2)];exact X.c.keep m3 fun k I=>hb .c k (by simp) I
 . rw [aP (Ne.symm h2)];exact h.cn
 . show Ow Sl.v aJ w3 _ _ (iy (bi H x _) (2* (s.vars+1)));rw [jm hw,aP (Ne.symm h3)];exact X.wa.keep m3 fun k I=>hb .wa k (by simp) I
 . rw [aP (Ne.symm h3)];exact h.wn
 . by_cases e:y=x
   . subst e;simp only [aG.set,aW];exact o.keep m3 fun k I=>V k I
   . simp only [aG.set,aP e];exact (X.row y O e).keep m3 fun k I=>hb y k (dh O).1 (by rw [bK (dh O).1];exact I)
 . by_cases e:y=x
   . subst e;simp only [aG.set,aW]
   . simp only [aG.set,aP e];exact h.len y O
theorem PM.Cn (h:PM w b H s) {d:Int} {n:Nat} (Q:d=n) {K:World->Prop} (I: ∀w3,PM w3 b H {s with done:=n}->aE (·=b) w w3->K w3):
 ∃w3,af ((Addr.mk b 0 none).add 9) 0 [.int .i64 d] w w3/\K w3:=by
 subst Q;have hb: ∀y k,y≠ .st->own b H y=some k->k≠b:=fun y k J I e=>by subst e;exact J (h.inj y .st k I rfl)
 refine bZ (k:=9) (i:=0) h.st rfl rfl fun w3 O m3=>I w3 ?_ m3;refine ⟨O,h.c.keep m3 fun k I=>hb .c k (by simp) I,h.cn,h.wa.keep m3 fun k I=>hb .wa k (by simp) I,h.wn,fun y J=> (h.row y J).keep m3 fun k I=>hb y k (dh J).1 (by rw [bK (dh J).1];exact I),h.len,h.inj⟩
theorem Bp {n i:Nat} (hi:i<n):(iy H n).getD i Sl.nil=H (.w i):=by
 simp [iy,List.getD,hi]
theorem wq {n:Nat}:(iy H n).length=n:=by simp [iy]
theorem Et {g:Nat->Bool} {n i:Nat} (hi:i<n) (d:Ce):(Ai H g n).getD i d=AA H g i:=by
 simp [Ai,List.getD,hi]
theorem p9 {g:Nat->Bool} {n:Nat}:(Ai H g n).length=n:=by simp [Ai]
theorem PM.Cm (h:PM w b H s) {i:Nat} (hi:i<2* (s.vars+1)) {O:Option Addr} {c':Nat} {l':List Int} (o:eC aC w2 O c' l') (X:Mx w2 b H s (.w i))
 (hp: ∀k,aI O=some k->aI (H (.w i)).p=some k\/∀y,own b H y≠some k) {n' n:Nat} (hn:n'=l'.length) (Y:n=2* (s.vars+1)) {I:Int} (hI:I=i) {K:World->Prop}
 (J: ∀w3,PM w3 b (bi H (.w i) ⟨O,n',c'⟩) (s.set (.w i) l')->aE (fun k=>aI (H .wa).p=some k) w2 w3->K w3):
 aV (H .wa).p n I 1 fun a=> ∃w3,af a 0 [.slice O n' c'] w2 w3/\K w3:=by
 subst hn hI;have hb: ∀y k,y≠ .wa->own b H y=some k->¬aI (H .wa).p=some k:=fun y k Q J=>h.ir (x:= .wa) (by simp) Q J;have V: ∀k,aI O=some k->¬aI (H .wa).p=some k:=fun k J e=>by
  rcases hp k J with U|U
  . have:=h.inj (.w i) .wa k U e;cases this
  . exact U .wa e
 refine X.wa.st (x:=⟨O,l'.length,c'⟩) rfl rfl (by omega) (by rw [wq];exact Y) (by omega) fun w3 o3 m3=>J w3 ?_ m3;rw [Int.toNat_natCast] at o3;refine ⟨?_,?_,?_,?_,?_,fun y Q=> ?_,fun y Q=> ?_,CA h (by simp) hp⟩
 . have e:xN (s.set (.w i) l') (bi H (.w i) ⟨O,l'.length,c'⟩)=xN s H:=by simp [xN,bi,aG.set]
   rw [e];exact X.st.keep m3 (hb .st b (by simp) rfl)
 . rw [xQ (by simp) (by simp),aP (by simp)];exact X.c.keep m3 fun k J=>hb .c k (by simp) J
 . rw [aP (by simp)];exact h.cn
 . rw [aP (by simp)];have e:iy (bi H (.w i) ⟨O,l'.length,c'⟩) (2* ((s.set (.w i) l').vars+1))=(iy H (2* (s.vars+1))).set i ⟨O,l'.length,c'⟩:=by
    apply List.ext_getElem?;intro j;simp only [iy,aG.set,List.getElem?_map,List.getElem?_set,List.length_map,List.length_range];by_cases e:i=j
    . subst e;simp [hi,bi]
    . rw [if_neg e];by_cases Z:j<2* (s.vars+1)
      . simp [Z,bi,Ne.symm e]
      . simp [Z]
   rw [e];exact o3
 . rw [aP (by simp)];exact h.wn
 . by_cases e:y= .w i
   . subst e;simp only [aG.set,aW];exact o.keep m3 fun k J=>V k J
   . simp only [aG.set,aP e];exact (X.row y Q e).keep m3 fun k J=>hb y k (dh Q).2.2 (by rw [bK (dh Q).1];exact J)
 . by_cases e:y= .w i
   . subst e;simp only [aG.set,aW]
   . simp only [aG.set,aP e];exact h.len y Q
theorem PM.bW (h:PM w b H s) {k:Nat} (I:w.heap.size<=k): ∀y,own b H y≠some k:=fun y e=>by have:=h.lt y k e;omega
theorem eF {a:Addr} {v:Value} (h:w.cell? a=some v):e_ (·=w) a v:=fun u e=>by rw [e];exact h
theorem PM.Mf (h:PM w b H s) {i:Nat} (hi:i<2* (s.vars+1)) {n:Nat} (hn:n=(H .wa).n) {I:Int} (O:I=i) {K:Addr->Prop}
 (Q: ∀a,aI (H .wa).p=some a.block->w.cell? a=some (H (.w i)).v->K a):aV (H .wa).p n I 1 K:=by
 subst O;refine h.wa.vw.Na Sl.nil (by omega) (by rw [hn,h.wn,wq]) (by rw [hn,h.wn];omega) fun a ha J=>Q a ha ?_;rw [Int.toNat_natCast,Bp hi] at J;exact J
theorem PM.Jn (h:PM w b H s) {i:Nat} (hi:i<s.nc) {n:Nat} (hn:n=(H .c).n) {I:Int} (O:I=i) {K:Addr->Prop}
 (Q: ∀a,aD w a 0 [(H (.a i)).v,(H (.l i)).v,.bool (s.gone i)]->K a):aV (H .c).p n I 3 K:=by
 subst O;refine (h.c.vr Fy).ix (Sl.nil,Sl.nil,false) (by omega) (by rw [hn,h.cn,p9]) (by rw [hn,h.cn];omega) fun a J=>Q a ?_;rw [Int.toNat_natCast,Et hi] at J;exact J
theorem PM.tG (h:PM w b H s) {x:Pt} (J:x.row=true) {I:Int} (O:0<=I) {n:Nat} (hn:n=(H x).n) (h1:I< (s.R x).length) {K:Addr->Prop}
 (Q: ∀a,aI (H x).p=some a.block->w.cell? a=some (x.f ((s.R x).getD I.toNat 0))->K a):aV (H x).p n I 1 K:=
 (h.row x J).vw.Na 0 O (by rw [hn,h.len x J]) (by rw [hn,h.len x J];omega) Q
theorem PM.Hl (h:PM w b H s) {x:Pt} (Q:x.row=true) {I:Int} (V:0<=I) {n:Nat} (h1:I< (s.R x).length) (J:I<n) {K:Addr->Prop}
 (O: ∀a,aI (H x).p=some a.block->w.cell? a=some (x.f ((s.R x).getD I.toNat 0))->K a):aV (H x).p n I 1 K:=by
 obtain ⟨a,Y,X,h5,U⟩:=h.tG Q V rfl h1 O;exact ⟨a,Y,X,J,U⟩
theorem PM.Er (h:PM w b H s) {x:Pt} (J:x.row=true) {I:Int} (U:0<=I) {n:Nat} (hn:n=(H x).n) (h1:I< (s.R x).length) {y:Int} {v:Value} (hv:v=x.f y) (O:iz v=true) {K:World->Prop}
 (Q: ∀w',PM w' b H (s.set x ((s.R x).set I.toNat y))->aE (fun k=>aI (H x).p=some k) w w'->K w'):aV (H x).p n I 1 fun a=> ∃w',af a 0 [v] w w'/\K w':=
 (h.row x J).st y hv O U (by rw [hn,h.len x J]) (by rw [hn,h.len x J];omega) fun w' o m=>Q w' (h.setRow J (by simp) o m) m
end
end Go.Proofs.YtenmibfmhccmiaaGreat.W
