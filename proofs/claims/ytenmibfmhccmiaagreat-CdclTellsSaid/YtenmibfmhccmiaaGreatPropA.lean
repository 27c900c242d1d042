/- Layer 6: what a propagator's small functions answer. -/
import Derived.Test.YtenmibfmhccmiaaGreatQuotaA
import Derived.Test.YtenmibfmhccmiaaGreatSortA
import Derived.Laws.CopyRow
import Derived.Laws.IdiomCopy
namespace Go.Proofs.YtenmibfmhccmiaaGreat.W
open Go Go.Fw Go.RowKit Go.SoP Go.LiP
open Go.Proofs.Tryz (prog)
open Go.IntKind (i64)
section
variable {w w' w2:World} {b:Nat} {H:Pt->Sl} {s:aG} {l:Int}
abbrev bR (b:Nat):Value:= .pointer (some ⟨b,0,none⟩)
theorem If:lN prog uU sI 1=true:=by kernel_rfl
def dR (n:Nat) (l:Int):Prop:=l≠0/\ -(n:Int)<=l/\l<=n
def aA (l:Int):Nat:=if l<0 then (-2*l+1).toNat else (2*l).toNat
def aG.val (s:aG) (l:Int):Int:=if l<0 then -((s.R .va).getD (-l).toNat 0) else (s.R .va).getD l.toNat 0
def aG.bj (s:aG) (l:Int):Int:=(s.R .le).getD (aX l).toNat 0
def aG.j8 (s:aG) (l:Int):Int:=(s.R .re).getD (aX l).toNat 0
def aG.rk (s:aG) (l:Int):Int:=if s.val l>=0 then 1048577 else s.bj l
structure Wf (s:aG):Prop where
 d7:s.vars<=1048576
 va:(s.R .va).length=s.vars+1
 vb: ∀i,(s.R .va).getD i 0=0\/(s.R .va).getD i 0=1\/(s.R .va).getD i 0= -1
 le:(s.R .le).length=s.vars+1
 re:(s.R .re).length=s.vars+1
 be:(s.R .be).length<=2000000
 tr:(s.R .tr).length<=2000000
 nc:s.nc<=262144
theorem dR.aX {n:Nat} (h:dR n l):1<=Go.Proofs.YtenmibfmhccmiaaGreat.W.aX l/\Go.Proofs.YtenmibfmhccmiaaGreat.W.aX l<=n:=by
 obtain ⟨h1,I,J⟩:=h;unfold Go.Proofs.YtenmibfmhccmiaaGreat.W.aX;split<;>omega
theorem dR.bd {n:Nat} (h:dR n l) (hn:n<=1048576): -1048576<=l/\l<=1048576:=by
 obtain ⟨h1,I,J⟩:=h;omega
theorem dR.neg {n:Nat} (h:dR n l):dR n (-l):=by
 obtain ⟨h1,I,J⟩:=h;exact ⟨by omega,by omega,by omega⟩
theorem pV {n:Nat} (h:dR n l):aA l<2* (n+1):=by
 obtain ⟨h1,I,J⟩:=h;unfold aA;split<;>omega
theorem fU (hl: -1048576<=l/\l<=1048576) (w:World):Calls prog fR.id #[.int .i64 l] w fun e w'=>e= .returned (.int .i64 (aX l))/\w'=w:=by
 refine fR.ah ?_;have e:imax l (i64.wrap (0 - l))=aX l:=by
  rw [aB (by omega) (by omega)];unfold imax aX;split<;>split<;>omega
 exact ⟨by rw [e],rfl⟩
theorem fT (hl: -1048576<=l/\l<=1048576) (w:World):Calls prog kA.id #[.int .i64 l] w fun e w'=>e= .returned (.int .i64 (aA l))/\w'=w:=by
 refine kA.ah ?_;refine ao (fun s=> ?_) (fun s=> ?_)
 . have s:l<0:=by simpa using s
   have e:i64.wrap (i64.wrap ((-2)*l)+1)=((aA l:Nat):Int):=by
    rw [aB (x:=(-2)*l) (by omega) (by omega),aB (by omega) (by omega)];unfold aA;rw [if_pos s];omega
   exact ⟨by rw [e],rfl⟩
 . have s: ¬l<0:=by simpa using s
   have e:i64.wrap (2*l)=((aA l:Nat):Int):=by
    rw [aB (by omega) (by omega)];unfold aA;rw [if_neg s];omega
   exact ⟨by rw [e],rfl⟩
theorem Gh {x:Int} (h1: -128<=x) (I:x<128):IntKind.i8.wrap x=x:=by
 simp only [IntKind.wrap,IntKind.bits,IntKind.signed];simp only [Int.reducePow,Nat.reduceSub,Bool.true_and,decide_eq_true_eq,ge_iff_le];split<;>omega
theorem aG.pz (k:Wf s) (l:Int):s.val l=0\/s.val l=1\/s.val l= -1:=by
 unfold aG.val;split
 . rcases k.vb (-l).toNat with h|h|h<;>rw [h]<;>simp
 . exact k.vb l.toNat
theorem lK (h:PM w b H s) (k:Wf s) (hl:dR s.vars l):Calls prog fG.id #[bR b,.int .i64 l] w fun e w'=>e= .returned (.int .i8 (s.val l))/\w'=w:=by
 have hb:=hl.bd k.d7;obtain ⟨h1,J,O⟩:=hl;refine fG.ah ?_;refine ao (fun r=> ?_) (fun r=> ?_)
 . have r:l<0:=by simpa using r
   have e:i64.wrap (0 - l)= -l:=by rw [aB (by omega) (by omega)];omega
   rw [show i64.wrap (0 - l)= -l from e];refine ⟨_,rfl,_,_,_,ad h.st rfl,h.tG (x:= .va) rfl (by omega) rfl (by rw [k.va];omega) fun a ha I=> ⟨_,I,?_,rfl⟩⟩;have:=k.vb (-l).toNat;rw [Gh (by omega) (by omega)];unfold aG.val;rw [if_pos r];simp
 . have r: ¬l<0:=by simpa using r
   refine ⟨_,rfl,_,_,_,ad h.st rfl,h.tG (x:= .va) rfl (by omega) rfl (by rw [k.va];omega) fun a ha I=> ⟨_,I,?_,rfl⟩⟩;unfold aG.val;rw [if_neg r]
theorem Iy (h:PM w b H s) (k:Wf s) (hl:dR s.vars l):Calls prog dZ.id #[bR b,.int .i64 l] w fun e w'=>e= .returned (.int .i64 (s.rk l))/\jM w w':=by
 have hb:=hl.bd k.d7;have ha:=hl.aX;refine dZ.ah ?_;refine (lK h k hl).mono ?_;rintro e w1 ⟨rfl,rfl⟩;refine ⟨_,rfl,ao (fun r=> ⟨?_,jM.refl _⟩) (fun r=> ?_)⟩
 . unfold aG.rk;rw [if_pos (by simpa using r)]
 . refine ⟨(·=w1.drew),rfl,_,rfl,_,_,_,eF (ad h.st rfl),(fU hb _).mono ?_⟩;rintro e w2 ⟨rfl,rfl⟩;refine ⟨_,rfl,rfl,h.drew.tG (x:= .le) rfl (by omega) rfl (by rw [k.le];omega) fun a ha I=> ⟨_,eF I,?_,(jM.refl _).drew⟩⟩;unfold aG.rk;rw [if_neg (by simpa using r)];rfl
end
section
variable {w w' w2 w3:World} {b:Nat} {H H' H2:Pt->Sl} {s t u:aG} {l:Int}
structure Pw (w w':World) (b:Nat) (H H':Pt->Sl) (s':aG):Prop where
 pm:PM w' b H' s'
 mod:aE (fun k=> ∃x,own b H x=some k) w w'
 ft: ∀x k,own b H' x=some k->(∃y,own b H y=some k)\/w.heap.size<=k
theorem Pw.refl (h:PM w' b H s) (g:aq w w'):Pw w w' b H H s:=⟨h,g.mono fun _ _ e=>e.elim,fun x _ I=> .inl ⟨x,I⟩⟩
theorem Pw.trans (h:Pw w w2 b H H2 t) (k:Pw w2 w3 b H2 H' u):Pw w w3 b H H' u:=by
 refine ⟨k.pm,h.mod.then k.mod fun j I ⟨x,e⟩=> ?_,fun x j I=> ?_⟩
 . rcases h.ft x j e with e|e
   . exact e
   . omega
 . rcases k.ft x j I with ⟨y,e⟩|e
   . exact h.ft y j e
   . exact .inr (Nat.le_trans h.mod.size e)
theorem Pw.grow (h:Pw w w2 b H H' t) (g:aq w2 w3):Pw w w3 b H H' t:=h.trans (.refl (h.pm.grow g) g)
theorem Pw.drew (h:Pw w w2 b H H' t):Pw w w2.drew b H H' t:=h.grow (aE.refl _).drew
theorem Pw.cP {w0:World} (g:aq w0 w) (h:Pw w w2 b H H' t):Pw w0 w2 b H H' t:=
 ⟨h.pm,(g.mono fun _ _ e=>e.elim).trans h.mod,fun x k I=> (h.ft x k I).imp id fun e=>Nat.le_trans g.size e⟩
theorem Pw.row (h:PM w' b H t) {x:Pt} (J:x.row=true) (m:aE (fun k=>aI (H x).p=some k) w w'):Pw w w' b H H t:=
 ⟨h,m.mono fun k _ e=> ⟨x,by rw [bK (dh J).1];exact e⟩,fun x _ I=> .inl ⟨x,I⟩⟩
theorem Pw.head {x z:Pt} {q:Sl} (J:x≠ .st) (h:PM w3 b (bi H x q) t) (m:aE (fun k=>aI (H x).p=some k) w w2) (m2:aE (fun k=>own b H z=some k) w2 w3)
 (hp: ∀k,aI q.p=some k->aI (H x).p=some k\/w.heap.size<=k):Pw w w3 b H (bi H x q) t:=by
 refine ⟨h,(m.mono fun k _ e=> ⟨x,by rw [bK J];exact e⟩).trans (m2.mono fun k _ e=> ⟨z,e⟩),fun y k I=> ?_⟩;by_cases e:y=x
 . subst e;rw [bK J,aW] at I;rcases hp k I with e|e
   . exact .inl ⟨y,by rw [bK J];exact e⟩
   . exact .inr e
 . refine .inl ⟨y,?_⟩;cases y<;>first|exact I| (simp only [own] at I ⊢;rwa [aP e] at I)
theorem y9 (h:PM w b H s) {J:Option Addr} {x:Pt} {w1:World} (g:w.heap.size<=w1.heap.size) (hp:J=(H x).p\/J=some ⟨w1.heap.size,0,none⟩):
 (∀k,aI J=some k->aI (H x).p=some k\/∀y,own b H y≠some k)/\(∀k,aI J=some k->aI (H x).p=some k\/w.heap.size<=k):=by
 rcases hp with rfl|rfl
 . exact ⟨fun k I=> .inl I,fun k I=> .inl I⟩
 . exact ⟨fun k I=> .inr (h.bW (by have:=bg I;omega)),fun k I=> .inr (by have:=bg I;omega)⟩
theorem PM.kZ (h:PM w b H s) {x:Pt} (I:x.field=true) (y:Int) (hlen:(s.R x).length<=4000000) {n:Nat} (hn:n=(H x).n) {K:World->Prop}
 (O: ∀w3 q,PM w3 b (bi H x q) (s.set x (s.R x++ [y]))->Pw w w3 b H (bi H x q) (s.set x (s.R x++ [y]))->K w3):
 ∀U w1,bc (.cells #[.int .i64 y] aC) w U w1->∃w2,∃ (J:Option Addr) (n' c':Nat),(Builtin.append_ #[aJ,aJ] aJ #[.slice (H x).p n (H x).c,.slice (some (Addr.mk U 0 none)) 1 1]).run prog w1= .ok (.slice J n' c') w2/\
  ∃a:Addr,(some ⟨b,0,none⟩:Option Addr)=some a/\∃w3,af (a.add x.off) 0 [.slice J n' c'] w2 w3/\K w3:=by
 intro U w1 h1;have hr:=oB I;have Y:x.f=Value.int .i64:=by cases x<;>simp [Pt.field] at I<;>rfl
 have Z:x.T=aC:=by cases x<;>simp [Pt.field] at I<;>rfl
 have V:=h.grow h1.mod;have o:eC aC w1 (H x).p (H x).c (s.R x):=by have:=V.row x hr;rw [Y,Z] at this;exact this
 refine o.kZ dN y h1.has rfl (by rw [hn,h.len x hr]) fH (by omega) fun w2 J c' o2 m2 Q ac=> ⟨_,rfl,?_⟩
 have g1:=h1.mod.size;obtain ⟨f1,f2⟩:=y9 h (x:=x) g1 Q;refine V.head I (c':=c') (l':=s.R x++ [y]) (by rw [Y,Z];exact o2) (V.DT hr m2) (fun k O=> (f1 k O)) (by simp) fun w3 X m3=>O w3 _ X (Pw.head (z:= .st) (dh hr).1 X ((h1.mod.mono fun _ _ e=>e.elim).trans m2) (m3.mono fun k _ e=>by rw [e];rfl) f2)
def aG.put (s:aG) (l r:Int):aG:=
 (((s.set .va ((s.R .va).set (aX l).toNat (if l<0 then -1 else 1))).set .le ((s.R .le).set (aX l).toNat (s.R .be).length)).set .re ((s.R .re).set (aX l).toNat r)).set .tr (s.R .tr++ [l])
theorem Bv (h:PM w b H s) (k:Wf s) (hl:dR s.vars l) (r:Int):Calls prog fE.id #[bR b,.int .i64 l,.int .i64 r] w fun e w'=>e= .returned (.tuple #[])/\∃q,Pw w w' b H (bi H .tr q) (s.put l r):=by
 have hb:=hl.bd k.d7;have ha:=hl.aX;have b':=hl;obtain ⟨l1,l2,l3⟩:=b';have sz: ∀x,x≠Pt.va->∀V,(s.set .va V).R x=s.R x:=fun x hx V=>aP hx;have tail: ∀w7:World,PM w7 b H (s.set .va ((s.R .va).set (aX l).toNat (if l<0 then -1 else 1)))->Pw w.drew w7 b H H (s.set .va ((s.R .va).set (aX l).toNat (if l<0 then -1 else 1)))->
  (∃I:World->Prop,I w7.drew/\
  ∃b5,(some ⟨b,0,none⟩:Option Addr)=some b5/\∃an ag bY,e_ I (b5.add 4) (.slice an ag bY)/\
  Calls prog fR.id #[.int .i64 l] w7.drew fun e bk=> ∃ax,e= .returned (.int .i64 ax)/\
  I bk/\∃a',(some ⟨b,0,none⟩:Option Addr)=some a'/\∃ar O aT,e_ I (a'.add 5) (.slice ar O aT)/\
  Calls prog fR.id #[.int .i64 l] bk fun e bx=> ∃a6,e= .returned (.int .i64 a6)/\
  I bx/\∃a7,(some ⟨b,0,none⟩:Option Addr)=some a7/\∃b7 aa a_,e_ I (a7.add 7) (.slice b7 aa a_)/\
  aV an ag ax 1 fun a46=>
  ∃bb,af a46 0 [.int .i64 (aa:Int)] bx bb/\
  aV ar O a6 1 fun cb=>
  ∃aw,af cb 0 [.int .i64 r] bb aw/\
  ∃a50,(some ⟨b,0,none⟩:Option Addr)=some a50/\∃Q U Z,aw.cell? (a50.add 6)=some (.slice Q U Z)/\
  ∀az b3,bc (.cells #[.int .i64 l] aC) aw az b3->
  ∃b4 ac Y X,(Builtin.append_ #[aJ,aJ] aJ #[.slice Q U Z,.slice (some (Addr.mk az 0 none)) 1 1]).run prog b3= .ok (.slice ac Y X) b4/\
  ∃ay,(some ⟨b,0,none⟩:Option Addr)=some ay/\∃b6,af (ay.add 6) 0 [.slice ac Y X] b4 b6/\
  ((Ending.returned (.tuple #[])= .returned (.tuple #[]))/\∃q,Pw w b6 b H (bi H .tr q) (s.put l r))):=by
  intro w7 J p7;generalize hV:(s.R .va).set (aX l).toNat (if l<0 then -1 else 1)=V at J p7;refine ⟨(·=w7.drew),rfl,_,rfl,_,_,_,eF (ad J.drew.st rfl),(fU hb _).mono ?_⟩;rintro e w8 ⟨rfl,rfl⟩;refine ⟨_,rfl,rfl,_,rfl,_,_,_,eF (ad J.drew.st rfl),(fU hb _).mono ?_⟩;rintro e w9 ⟨rfl,rfl⟩;refine ⟨_,rfl,rfl,_,rfl,_,_,_,eF (ad J.drew.st rfl),J.drew.Er (x:= .le) rfl (by omega) rfl (by rw [sz _ (by simp),k.le];omega) (y:=(s.R .be).length) (by rw [h.len .be rfl];rfl) rfl fun c3 a8 ce=> ?_⟩;refine a8.Er (x:= .re) rfl (by omega) rfl (by simp [aG.set,bi,k.re];omega) (y:=r) rfl rfl fun c7 av cc=> ?_;have cg:=(p7.drew.trans (Pw.row a8 (x:= .le) rfl ce)).trans (Pw.row av (x:= .re) rfl cc);refine ⟨_,rfl,_,_,_,ad av.st rfl,?_⟩;refine av.kZ (x:= .tr) rfl l (by have:=k.tr;simp [aG.set,bi];omega) rfl fun cp q dc b9=> ?_;refine ⟨rfl,q,?_⟩;have b_:s.put l r=((((s.set .va V).set .le (((s.set .va V).R .le).set (aX l).toNat ((s.R .be).length))).set .re ((((s.set .va V).set .le (((s.set .va V).R .le).set (aX l).toNat ((s.R .be).length))).R .re).set (aX l).toNat r)).set .tr
   ((((s.set .va V).set .le (((s.set .va V).R .le).set (aX l).toNat ((s.R .be).length))).set .re ((((s.set .va V).set .le (((s.set .va V).R .le).set (aX l).toNat ((s.R .be).length))).R .re).set (aX l).toNat r)).R .tr++ [l])):=by
   simp [aG.put,<- hV,aG.set,bi]
  rw [b_];exact (cg.trans b9).cP (aE.refl w).drew
 refine fE.ah ?_;refine ⟨(·=w.drew),rfl,_,rfl,_,_,_,eF (ad h.drew.st rfl),(fU hb _).mono ?_⟩;rintro e w1 ⟨rfl,rfl⟩;refine ⟨_,rfl,rfl,h.drew.Er (x:= .va) rfl (by omega) rfl (by rw [k.va];omega) (y:=1) rfl rfl fun w3 h3 m3=>ao (fun r=> ?_) (fun r=> ?_)⟩
 . have r:l<0:=by simpa using r
   have e:i64.wrap (0 - l)=aX l:=by rw [aB (by omega) (by omega)];unfold aX;rw [if_pos r];omega
   rw [e];refine ⟨_,rfl,_,_,_,ad h3.st rfl,h3.Er (x:= .va) rfl (by omega) rfl (by simp [aG.set,aW,k.va];omega) (y:= -1) rfl rfl fun w7 J m7=> ?_⟩;have e7:(s.set .va ((s.R .va).set (aX l).toNat 1)).set .va (((s.set .va ((s.R .va).set (aX l).toNat 1)).R .va).set (aX l).toNat (-1))=s.set .va ((s.R .va).set (aX l).toNat (if l<0 then -1 else 1)):=by
    rw [if_pos r];simp only [aG.set,aW,List.set_set];congr 1;funext y;simp only [bi];split<;>rfl
   rw [e7] at J;have p7:=(Pw.row h3 (x:= .va) rfl m3).trans (Pw.row J (x:= .va) rfl m7);exact tail w7 J p7
 . have r: ¬l<0:=by simpa using r
   have p3:=Pw.row h3 (x:= .va) rfl m3;refine tail w3 ?_ ?_
   . rw [if_neg r];exact h3
   . rw [if_neg r];exact p3
end
section
variable {w w' w2 w3:World} {b:Nat} {H H' H2:Pt->Sl} {s t u:aG} {l:Int}
def vU (n:Nat) (l:Int):Bool:=cq l && decide (aX l<=n)
theorem ia {n:Nat} (hn:n<=1048576):vU n l=true↔dR n l:=by
 unfold vU cq dR aX;simp only [Bool.and_eq_true,decide_eq_true_eq];split<;>omega
theorem xq (h:PM w b H s) (k:Wf s): ∃a,(H .va).p=some a:=by
 rcases (h.row .va rfl).un with ⟨_,_,e⟩| ⟨g,_,e,_⟩
 . have:=k.va;rw [e] at this;simp at this
 . exact ⟨_,e⟩
theorem rG (h:PM w b H s) (k:Wf s) (l:Int):Calls prog hG.id #[bR b,.int .i64 l] w fun e w'=>e= .returned (.bool (vU s.vars l))/\aq w w':=by
 refine hG.ah ?_;obtain ⟨Y,O⟩:=xq h k;refine ⟨fun u=>aq w u,(aE.refl w).drew,cj rfl ⟨_,rfl,_,_,_,fun u g=>ad (h.grow g).st rfl,?_⟩⟩;rw [O];refine cj rfl ?_;intro X w1 h1;have Q:aq w w1:=(aE.refl w).drew.trans h1.mod;have v1:Vw (Value.int .i64) w1 (some ⟨X,0,none⟩) [l]:=by
  intro j J;have J:j=0:=by simpa using J
  subst J;exact ⟨_,rfl,ad h1.has rfl⟩
 refine ⟨Q,(fg v1 rfl (by simp [maxLen])).mono ?_⟩;rintro e w2 ⟨rfl,U⟩;have I:=Q.trans U;have V:iu [l]=cq l:=by simp [iu]
 refine ⟨_,rfl,I,?_⟩;rw [V];cases hl:cq l with
 |false=>exact bm rfl ⟨by simp [vU,hl],I⟩
 |true=>
  refine cj rfl ((fU (cH hl).2 _).mono ?_);rintro e w3 ⟨rfl,rfl⟩;exact ⟨_,rfl,I,_,rfl,_,fun u g=>ad (h.grow g).st rfl,by simp [vU,hl],I⟩
def aG.value (s:aG) (l:Int):Int:=if vU s.vars l then s.val l else 0
def aG.kF (s:aG) (l:Int):Int:=if vU s.vars l && s.val l !=0 then s.bj l else -1
def aG.eE (s:aG) (l:Int):Int:=if vU s.vars l && s.val l !=0 then s.j8 l else -1
theorem yO (h:PM w b H s) (k:Wf s) (l:Int):Calls prog dK.id #[bR b,.int .i64 l] w fun e w'=>e= .returned (.int .i64 (s.value l))/\aq w w':=by
 refine dK.ah ((rG h k l).mono ?_);rintro e w1 ⟨rfl,I⟩;refine ⟨_,rfl,?_⟩;cases hi:vU s.vars l with
 |false=>exact cj rfl ⟨by simp [aG.value,hi],I⟩
 |true=>
  refine bm rfl ((lK (h.grow I) k ((ia k.d7).1 hi)).mono ?_);rintro e w2 ⟨rfl,rfl⟩;refine ⟨_,rfl,?_,I⟩;have:=aG.pz k l;rw [aB (by omega) (by omega)];simp [aG.value,hi]
theorem Ea (h:PM w b H s) (k:Wf s) (l:Int):Calls prog dF.id #[bR b,.int .i64 l] w fun e w'=>e= .returned (.int .i64 (s.kF l))/\aq w w':=by
 refine dF.ah ((rG h k l).mono ?_);rintro e w1 ⟨rfl,I⟩;refine ⟨_,rfl,?_⟩;cases hi:vU s.vars l with
 |false=>exact cj rfl ⟨by simp [aG.kF,hi],I⟩
 |true=>
  have hv:=(ia k.d7).1 hi;have ha:=hv.aX;have h1:=h.grow I;refine bm rfl ((lK h1 k hv).mono ?_);rintro e w2 ⟨rfl,rfl⟩;refine ⟨_,rfl,ao (fun r=> ⟨by simp at r;simp [aG.kF,r],I⟩) (fun r=> ?_)⟩;refine ⟨(·=w2.drew),rfl,_,rfl,_,_,_,eF (ad h1.drew.st rfl),(fU (hv.bd k.d7) _).mono ?_⟩;rintro e w3 ⟨rfl,rfl⟩;refine ⟨_,rfl,rfl,h1.drew.tG (x:= .le) rfl (by omega) rfl (by rw [k.le];omega) fun a _ J=> ⟨_,eF J,?_,I.drew⟩⟩;simp at r;simp [aG.kF,hi,r,aG.bj]
theorem Dq (h:PM w b H s) (k:Wf s) (l:Int):Calls prog da.id #[bR b,.int .i64 l] w fun e w'=>e= .returned (.int .i64 (s.eE l))/\aq w w':=by
 refine da.ah ((rG h k l).mono ?_);rintro e w1 ⟨rfl,I⟩;refine ⟨_,rfl,?_⟩;cases hi:vU s.vars l with
 |false=>exact cj rfl ⟨by simp [aG.eE,hi],I⟩
 |true=>
  have hv:=(ia k.d7).1 hi;have ha:=hv.aX;have h1:=h.grow I;refine bm rfl ((lK h1 k hv).mono ?_);rintro e w2 ⟨rfl,rfl⟩;refine ⟨_,rfl,ao (fun r=> ⟨by simp at r;simp [aG.eE,r],I⟩) (fun r=> ?_)⟩;refine ⟨(·=w2.drew),rfl,_,rfl,_,_,_,eF (ad h1.drew.st rfl),(fU (hv.bd k.d7) _).mono ?_⟩;rintro e w3 ⟨rfl,rfl⟩;refine ⟨_,rfl,rfl,h1.drew.tG (x:= .re) rfl (by omega) rfl (by rw [k.re];omega) fun a _ J=> ⟨_,eF J,?_,I.drew⟩⟩;simp at r;simp [aG.eE,hi,r,aG.j8]
theorem D6 (h:PM w b H s):Calls prog dY.id #[bR b] w fun e w'=>e= .returned (.int .i64 (s.R .be).length)/\w'=w:=by
 refine dY.ah (bm rfl ⟨_,rfl,_,_,_,ad h.st rfl,?_,rfl⟩);rw [h.len .be rfl]
theorem tT (h:PM w b H s) (ht:(s.R .tr).length<=1000000):Calls prog dI.id #[bR b] w fun e w'=> ∃ (q:Option Addr) (d:Nat),e= .returned (.slice q (s.R .tr).length d)/\eC aC w' q d (s.R .tr)/\aq w w'/\(∀b,aI q=some b->w.heap.size<=b):=by
 refine dI.ah (bm rfl ⟨_,rfl,_,_,_,ad h.st rfl,?_⟩);refine (je (h.row .tr rfl).vw (h.len .tr rfl) (by rw [h.len .tr rfl];exact ht)).mono ?_;rintro e w1 ⟨q,d,rfl,o,g,f⟩;exact ⟨_,_,_,rfl,q,d,rfl,o,g,f⟩
def aG.is (s:aG) (i:Int):Bool:=decide (0<=i/\i<s.nc) && !s.gone i.toNat
theorem zZ (h:PM w b H s) (i:Int):Calls prog fe.id #[bR b,.int .i64 i] w fun e w'=>e= .returned (.bool (s.is i))/\w'=w:=by
 refine fe.ah (cj rfl (ao (fun r=> ?_) fun r=> ?_))
 . have r:0<=i:=by simpa using r
   refine ⟨_,rfl,_,_,_,ad h.st rfl,ao (fun I=> ?_) fun I=> ?_⟩
   . have I:i<s.nc:=by rw [h.cn] at I;simpa using I
     refine ⟨_,rfl,_,_,_,ad h.st rfl,h.Jn (i:=i.toNat) (by omega) rfl (by omega) fun a J=> ⟨_,J.get 2 _ rfl,?_,rfl⟩⟩;simp [aG.is,r,I]
   . have I: ¬i<s.nc:=by rw [h.cn] at I;simpa using I
     exact ⟨by simp [aG.is,I],rfl⟩
 . have r: ¬0<=i:=by simpa using r
   exact ⟨by simp [aG.is,r],rfl⟩
theorem DZ (h:PM w b H s) (i:Int) (ha: ∀i,(s.R (.a i)).length<=1000000):Calls prog c_.id #[bR b,.int .i64 i] w fun e w'=>
 ∃ (q:Option Addr) (d:Nat),e= .returned (.tuple #[.slice q (if s.is i then s.R (.a i.toNat) else []).length d,.bool (s.is i)])/\eC aC w' q d (if s.is i then s.R (.a i.toNat) else [])/\aq w w'/\(∀b,aI q=some b->w.heap.size<=b):=by
 refine c_.ah ((zZ h i).mono ?_);rintro e w1 ⟨rfl,rfl⟩;refine ⟨_,rfl,?_⟩;cases hi:s.is i with
 |false=>exact cj rfl ⟨none,0,rfl,Ow.nil _ _ _,aE.refl _,fun b e=>by simp [aI] at e⟩
 |true=>
  have I:0<=i/\i<s.nc:=by simp [aG.is] at hi;exact hi.1
  refine bm rfl ⟨_,rfl,_,_,_,ad h.st rfl,h.Jn (i:=i.toNat) (by omega) rfl (by omega) fun a J=> ⟨_,_,_,J.get 0 _ rfl,?_⟩⟩;refine (je (h.row (.a i.toNat) rfl).vw (h.len _ rfl) (by rw [h.len _ rfl];exact ha _)).mono ?_;rintro e w1 ⟨q,d,rfl,o,g,f⟩;exact ⟨_,_,_,rfl,q,d,rfl,o,g,f⟩
theorem K5 {i:Int} {I:Nat} (h:bF w I #[.int .i64 i]) (x:Int):Calls prog cu.id #[.int .i64 x,.pointer (some ⟨I,0,none⟩)] w fun e w'=>e= .returned (.bool (x==i))/\aq w w':=
 cu.ah ⟨_,aR h rfl,rfl,aE.refl _⟩
theorem K3 {i:Int} {I:Nat} (h:bF w I #[.int .i64 i]) (x:Int):Calls prog c8.id #[.int .i64 x,.pointer (some ⟨I,0,none⟩)] w fun e w'=>e= .returned (.bool (x==i))/\aq w w':=
 c8.ah ⟨_,aR h rfl,rfl,aE.refl _⟩
theorem Db:fM prog cu.id=true:=by kernel_rfl
theorem DN:fM prog c8.id=true:=by kernel_rfl
theorem KR (h:PM w b H s) (k:Wf s) {I:Nat} (h1:bF w I #[bR b]) {x:Int} (J:dR s.vars x):Calls prog cr.id #[.int .i64 x,.pointer (some ⟨I,0,none⟩)] w fun e w'=>e= .returned (.bool (decide (s.val x<0)))/\aq w w':=by
 refine cr.ah ⟨_,aR h1 rfl,(lK h k J).mono ?_⟩;rintro e w1 ⟨rfl,rfl⟩;exact ⟨_,rfl,rfl,aE.refl _⟩
theorem BH:fM prog cr.id=true:=by kernel_rfl
theorem ML (h:PM w b H s) (k:Wf s) {I:Nat} (h1:bF w I #[bR b]) (x:Int):Calls prog dE.id #[.int .i64 x,.pointer (some ⟨I,0,none⟩)] w fun e w'=>e= .returned (.bool (!vU s.vars x))/\aq w w':=by
 refine dE.ah ⟨_,aR h1 rfl,(rG h k x).mono ?_⟩;rintro e w1 ⟨rfl,g⟩;exact ⟨_,rfl,rfl,g⟩
theorem FH:fM prog dE.id=true:=by kernel_rfl
end
section
variable {w w' w0 w2 w3 wA:World} {b:Nat} {H H' H2:Pt->Sl} {s t u:aG} {l:Int}
theorem Wf.set {x:Pt} (k:Wf s) (h1:x≠ .va) (I:x≠ .le) (O:x≠ .re) (J:x≠ .be) (h5:x≠ .tr) (l:List Int):Wf (s.set x l):=
 ⟨k.d7,by simp only [aG.set,aP (Ne.symm h1)];exact k.va,by simp only [aG.set,aP (Ne.symm h1)];exact k.vb,by simp only [aG.set,aP (Ne.symm I)];exact k.le,by simp only [aG.set,aP (Ne.symm O)];exact k.re,
   by simp only [aG.set,aP (Ne.symm J)];exact k.be,by simp only [aG.set,aP (Ne.symm h5)];exact k.tr,k.nc⟩
theorem iI (e:t.R .va=s.R .va) (l:Int):t.val l=s.val l:=by unfold aG.val;rw [e]
theorem E6 (e:t.R .va=s.R .va) (I:t.R .le=s.R .le) (l:Int):t.rk l=s.rk l:=by unfold aG.rk aG.bj;rw [iI e,I]
theorem ak {x y:Pt} {l:List Int} (h:y≠x):(s.set x l).R y=s.R y:=aP h
theorem aK {x:Pt} {l:List Int}:(s.set x l).R x=l:=aW
theorem set_set {x:Pt} {l m:List Int}:(s.set x l).set x m=s.set x m:=by
 simp only [aG.set];congr 1;funext y;simp only [bi];split<;>rfl
theorem eJ {x:Pt}:s.set x (s.R x)=s:=by
 unfold aG.set;congr 1;funext y;simp only [bi];split
 . rename_i e;rw [e]
 . rfl
theorem PM.D1 (h:PM w0 b H t) {j:Nat} (Y:j<2* (t.vars+1)) (g:aq w0 wA) {n:Nat} {i:Int} (hb:bF wA n #[.int .i64 i]) (hlen:(t.R (.w j)).length<=4000000) {K:World->Prop}
 (U: ∀w3 q,Pw w0 w3 b H (bi H (.w j) q) (t.set (.w j) (t.R (.w j)++ [i]))->K w3) {I:Int} (Z:I=j):
 ∃w2,∃ (J:Option Addr) (n' c':Nat),(Builtin.append_ #[aJ,aJ] aJ #[.slice (H (.w j)).p (H (.w j)).n (H (.w j)).c,.slice (some (Addr.mk n 0 none)) 1 1]).run prog wA= .ok (.slice J n' c') w2/\
  aE (fun k=>aI (H (.w j)).p=some k) w0 w2/\aV (H .wa).p (H .wa).n I 1 fun a=> ∃w3,af a 0 [.slice J n' c'] w2 w3/\K w3:=by
 have Q:=h.grow g;have o:eC aC wA (H (.w j)).p (H (.w j)).c (t.R (.w j)):=Q.row (.w j) rfl;refine o.kZ dN i hb rfl (h.len (.w j) rfl) fH (by omega) fun w2 J c' o2 m2 O V=> ?_;have m:aE (fun k=>aI (H (.w j)).p=some k) w0 w2:=(g.mono fun _ _ e=>e.elim).trans m2;obtain ⟨f1,f2⟩:=y9 h (x:= .w j) g.size O;refine ⟨m,Q.Cm Y o2 (Q.DT rfl m2) f1 (by simp) h.wn Z fun w3 X m3=>U w3 _ (Pw.head (z:= .wa) (by simp) X m m3 f2)⟩
def wF (i:Int) (t:aG) (I:List Int):aG:=I.foldl (fun t x=>t.set (.w (aA x)) (t.R (.w (aA x))++ [i])) t
theorem DX (i:Int) (t:aG) (I:List Int) (x:Int):wF i t (I++ [x])=(wF i t I).set (.w (aA x)) ((wF i t I).R (.w (aA x))++ [i]):=by simp [wF]
theorem nZ (i:Int) {y:Pt} (J: ∀j,y≠ .w j): ∀ (I:List Int) (t:aG),(wF i t I).R y=t.R y
 | [],_=>rfl
 |_::I,_=> (nZ i J I _).trans (ak (J _))
theorem mZ (i:Int): ∀ (I:List Int) (t:aG),(wF i t I).vars=t.vars/\(wF i t I).nc=t.nc/\(wF i t I).gone=t.gone/\(wF i t I).done=t.done
 | [],_=> ⟨rfl,rfl,rfl,rfl⟩
 |x::I,t=>mZ i I (t.set (.w (aA x)) (t.R (.w (aA x))++ [i]))
theorem GR (i:Int) (j:Nat): ∀ (I:List Int) (t:aG),((wF i t I).R (.w j)).length<=(t.R (.w j)).length+I.length
 | [],_=>Nat.le_refl _
 |x::I,t=>by
  have:=GR i j I (t.set (.w (aA x)) (t.R (.w (aA x))++ [i]));refine Nat.le_trans this ?_;by_cases e:aA x=j
  . subst e;rw [aK];simp;omega
  . rw [ak (fun h=>e (by injection h with h;exact h.symm))];simp
def vD (rk:Int->Int) (n:Nat) (l:List Int):Prop:= ∀t,t<n->∀j,t<=j->j<l.length->rk (l.getD j 0)<=rk (l.getD t 0)
def jD (s:aG) (i:Nat) (l':List Int):aG:=
 let u:=wF i (s.set (.l i) l') (l'.take 2)
 if l'.length<2\/s.val (l'.getD 1 0)<0 then u.set .lo (s.R .lo++ [(i:Int)]) else u
def pi (H H':Pt->Sl):Prop:= ∀x,(∀j,x≠ .w j)->x≠ .lo->H' x=H x
theorem pi.refl:pi H H:=fun _ _ _=>rfl
theorem pi.wt (h:pi H H') {j:Nat} {q:Sl}:pi H (bi H' (.w j) q):=fun x h1 I=>by rw [aP (h1 j)];exact h x h1 I
set_option linter.unusedVariables false in
theorem wv (h:PM w b H s) (k:Wf s) {i:Nat} (hi:i<s.nc) (hl: ∀x∈s.R (.l i),dR s.vars x) (hn:(s.R (.l i)).length<=100000) (hw: ∀j,(s.R (.w j)).length+2<=4000000) (e9:(s.R .lo).length<=4000000):
 Calls prog c4.id #[bR b,.int .i64 i] w fun e w'=>e= .returned (.tuple #[])/\∃l' H',vD s.rk 2 l'/\l'.Perm (s.R (.l i))/\Pw w w' b H H' (jD s i l')/\pi H H'/\(2<=l'.length->0<=s.val (l'.getD 1 0)->H' .lo=H .lo):=by
 have nc:=k.nc;refine c4.ah ?_;refine ⟨_,rfl,_,_,_,ad h.st rfl,h.Jn hi rfl rfl fun a3 d8=> ⟨_,_,_,d8.get 1 _ rfl,?_⟩⟩;have ay:(H (.l i)).n=(s.R (.l i)).length:=h.len (.l i) rfl;generalize hN:(s.R (.l i)).length=N at*
 refine ⟨fun K u m=> ∃ (t:Nat) (l':List Int),K=t/\t<=2/\t<=N/\m=2 - t/\l'.Perm (s.R (.l i))/\vD s.rk t l'/\Pw w u b H H (s.set (.l i) l'),
  ⟨_,0,s.R (.l i),rfl,Nat.zero_le _,Nat.zero_le _,rfl,List.Perm.refl _,fun t ht=>by omega,by rw [eJ];exact Pw.refl h (aE.refl w)⟩,?_⟩
 rintro K w9 m _ ⟨t,l',rfl,ht,fu,rfl,pm,hb,P9⟩;have hlen:l'.length=N:=by rw [pm.length_eq,hN]
 have bb: ∀x∈l',dR s.vars x:=fun x hx=>hl x (pm.mem_iff.1 hx);have e2: ∀y,y≠Pt.l i->∀L,(s.set (.l i) L).R y=s.R y:=fun y hy L=>ak hy;have ea:jI 2 ((H (.l i)).n:Int)=((min 2 N:Nat):Int):=by rw [ay];unfold jI;split<;>omega
 rw [ea];refine ao (fun r=> ?_) (fun r=> ?_)
 . have r:t<min 2 N:=by simp at r;omega
   have h9:=P9.pm;have k9:Wf (s.set (.l i) l'):=k.set (by simp) (by simp) (by simp) (by simp) (by simp) l';refine ⟨fun B J u m=> ∃ (B' J':Nat),B=B'/\J=J'/\t<=B'/\B'<N/\B'<J'/\J'<=N/\m=N - J'/\(∀x,t<=x->x<J'->s.rk (l'.getD x 0)<=s.rk (l'.getD B' 0))/\aq w9 u,
    ⟨_,t,t+1,rfl,wN (by omega) (by omega),Nat.le_refl _,by omega,by omega,by omega,rfl,fun x x1 x2=> (by rw [show x=t by omega];exact Int.le_refl _),aE.refl _⟩,?_⟩
   rintro B J cc m _ ⟨B,J,rfl,rfl,tB,BN,BJ,JN,rfl,aa,ac⟩;refine ao (fun Q=> ?_) (fun Q=> ?_)
   . have Q:J<N:=by rw [ay] at Q;simpa using Q
     have an:=h9.grow ac;have hr: ∀ {u:World} {X:Nat},aq w9 u->X<N->Calls prog dZ.id #[bR b,.int .i64 (l'.getD X 0)] u fun e w'=>e= .returned (.int .i64 (s.rk (l'.getD X 0)))/\aq u w':=by
      intro u X g hX;refine (Iy (h9.grow g) k9 (bb _ (bM (by omega)))).mono ?_;rintro e w' ⟨rfl,sm⟩;rw [E6 (s:=s) (ak (by simp)) (ak (by simp))];exact ⟨rfl,sm.mod⟩
     refine ⟨fun u=>aq cc u,(aE.refl _).drew,an.tG (x:= .l i) rfl (by omega) rfl (by rw [aK];omega) fun fs _ cg=> ⟨_,fun u g=>gj g cg id,?_⟩⟩;rw [aK,Int.toNat_natCast];refine (hr ac.drew Q).mono ?_;rintro e eR ⟨rfl,eg⟩;have bv:=((aE.refl cc).drew).trans eg;refine ⟨_,rfl,bv,an.tG (x:= .l i) rfl (by omega) rfl (by rw [aK];omega) fun fP _ cb=> ⟨_,fun u g=>gj g cb id,?_⟩⟩;rw [aK,Int.toNat_natCast];refine (hr (ac.trans bv) BN).mono ?_;rintro e eA ⟨rfl,ef⟩;have b9:=ac.trans (bv.trans ef);refine ⟨_,rfl,ao (fun r3=> ?_) (fun r3=> ?_)⟩
     . have r3:s.rk (l'.getD B 0)<s.rk (l'.getD J 0):=by simpa using r3
       refine ⟨_,?_,J,J+1,rfl,wN (by omega) (by omega),by omega,Q,by omega,by omega,rfl,fun x x1 x2=> ?_,b9⟩
       . omega
       . by_cases e:x=J
         . rw [e];exact Int.le_refl _
         . have:=aa x x1 (by omega);omega
     . have r3:s.rk (l'.getD J 0)<=s.rk (l'.getD B 0):=by simpa using r3
       refine ⟨_,?_,B,J+1,rfl,wN (by omega) (by omega),tB,BN,by omega,by omega,rfl,fun x x1 x2=> ?_,b9⟩
       . omega
       . by_cases e:x=J
         . rw [e];exact r3
         . exact aa x x1 (by omega)
   . have Q:J=N:=by rw [ay] at Q;simp at Q;omega
     subst Q;have an:=(h9.grow ac).drew;refine an.tG (x:= .l i) rfl (by omega) rfl (by rw [aK];omega) fun a25 _ cT=> ⟨_,cT,an.tG (x:= .l i) rfl (by omega) rfl (by rw [aK];omega) fun eN _ b_=> ⟨_,b_,?_⟩⟩
     rw [aK,Int.toNat_natCast,Int.toNat_natCast];refine an.Er (x:= .l i) rfl (by omega) rfl (by rw [aK];omega) (y:=l'.getD B 0) rfl rfl fun fj d' ek=>d'.Er (x:= .l i) rfl (by omega) rfl (by simp [aK];omega) (y:=l'.getD t 0) rfl rfl fun dd a8 eb=> ?_;rw [aK,Int.toNat_natCast,Int.toNat_natCast,set_set,aK,set_set] at a8;have dT:(l'.set t (l'.getD B 0)).set B (l'.getD t 0)=qP l' t B:=rfl;rw [dT] at a8;have ej:Pw w dd b H H (s.set (.l i) (qP l' t B)):=(P9.grow ac.drew).trans ⟨a8,(ek.mono fun k _ e=> ⟨.l i,e⟩).trans (eb.mono fun k _ e=> ⟨.l i,e⟩),fun x _ hk=> .inl ⟨x,hk⟩⟩;refine ⟨_,?_,t+1,_,wN (by omega) (by omega),by omega,by omega,rfl,(tU (by omega) (by omega)).trans pm,?_,ej⟩
     . omega
     . intro y hy j aT hj;rw [qy] at hj;rw [jV (by omega) (by omega),jV (by omega) (by omega)];by_cases e:y=t
       . subst e;have du:s.rk (l'.getD y 0)<=s.rk (l'.getD B 0):=aa y (Nat.le_refl _) (by omega);have e5:(if y=B then l'.getD y 0 else if y=y then l'.getD B 0 else l'.getD y 0)=l'.getD B 0:=by
          split
          . rename_i e;rw [<- e]
          . rw [if_pos rfl]
         rw [e5];split
         . exact du
         . split
           . exact Int.le_refl _
           . exact aa j aT (by omega)
       . rw [if_neg (show y≠B by omega),if_neg e];have bk:y<t:=by omega
         split
         . exact hb y bk t (by omega) (by omega)
         . split
           . exact hb y bk B (by omega) (by omega)
           . exact hb y bk j aT (by omega)
 . have r:t=min 2 N:=by simp at r;omega
   have h9:=P9.pm;have c1:vD s.rk 2 l':=fun y hy j aT hj=>hb y (by omega) j aT hj;have eu:N<=(H (.l i)).c:=by
    rcases (h9.row (.l i) rfl).un with ⟨_,e1,e2⟩| ⟨_,_,_,_,e,_⟩
    . rw [aK] at e2;rw [e2] at hlen;simp at hlen;omega
    . rw [aK] at e;omega
   refine gD 0 (min 2 N) (H (.l i)).c rfl rfl rfl (Nat.le_refl _) (by omega) (Nat.zero_le _) ?_;have ep:(if (H (.l i)).c=0 then (H (.l i)).p else (H (.l i)).p.map (·.add (0*1)))=(H (.l i)).p:=by rw [L9];split<;>rfl
   rw [ep,Nat.sub_zero];refine ⟨fun V u m=> ∃ (v:Nat) (H':Pt->Sl),V=v/\v<=min 2 N/\m=min 2 N - v/\Pw w u b H H' (wF i (s.set (.l i) l') (l'.take v))/\pi H H'/\H' .lo=H .lo,
    ⟨_,0,H,rfl,Nat.zero_le _,rfl,P9,pi.refl,rfl⟩,?_⟩
   rintro V U m _ ⟨v,H',rfl,hv,rfl,ap,kh,a7⟩;have O:=ap.pm;have eL:H' (.l i)=H (.l i):=kh _ (by simp) (by simp);have I:(wF i (s.set (.l i) l') (l'.take v)).vars=s.vars:=(mZ i _ _).1;have ar:(wF i (s.set (.l i) l') (l'.take v)).R (.l i)=l':=by rw [nZ i (by simp),aK]
   refine ao (fun Q=> ?_) (fun Q=> ?_)
   . have Q:v<min 2 N:=by simpa using Q
     rw [<- eL];have hx:=bb _ (bM (l:=l') (t:=v) (by omega));have ax:=hx.bd k.d7;have d4:=pV hx;refine O.Hl (x:= .l i) rfl (n:=min 2 N) (by omega) (by rw [ar];omega) (by omega) fun a39 _ b7=> ⟨_,b7,?_⟩
     rw [ar,Int.toNat_natCast];have h0:=O.drew;generalize hT:wF i (s.set (.l i) l') (l'.take v)=T at*
     generalize hX:l'.getD v 0=X at*
     have Y:(T.R (.w (aA X))).length<=4000000:=by
      have:=GR i (aA X) (l'.take v) (s.set (.l i) l');rw [hT,ak (by simp)] at this;have h2:=hw (aA X);have h3:(l'.take v).length<=2:=by simp;omega
      omega
     have Z:aA X<2* (T.vars+1):=by rw [I];exact d4
     have fI: ∀w3 q,Pw U.drew w3 b H' (bi H' (.w (aA X)) q) (T.set (.w (aA X)) (T.R (.w (aA X))++ [(i:Int)]))->
      ∃cm,cm<min 2 N - v/\∃ (v':Nat) (H2:Pt->Sl),i64.wrap ((v:Int)+1)=v'/\v'<=min 2 N/\cm=min 2 N - v'/\Pw w w3 b H H2 (wF i (s.set (.l i) l') (l'.take v'))/\pi H H2/\H2 .lo=H .lo:=by
      intro w3 q P;refine ⟨_,?_,v+1,_,wN (by omega) (by omega),by omega,rfl,?_,kh.wt (q:=q) (j:=aA X),by rw [aP (by simp)];exact a7⟩
      . omega
      . have:l'.take (v+1)=l'.take v++ [X]:=by
         rw [List.take_add_one,<- hX];simp [List.getD,show v<l'.length by omega]
        rw [this,DX,hT];exact ap.drew.trans P
     have aw: ∀ {a:Addr} {u:Value},U.drew.cell? a=some u->a.block≠0\/True->¬aI (H' (.w (aA X))).p=some a.block->e_ (aE (fun k=>aI (H' (.w (aA X))).p=some k) U.drew) a u:=fun hc _ dq u' g=>gj g hc dq;have b8: ¬aI (H' (.w (aA X))).p=some b:=h0.ir (x:= .w (aA X)) (by simp) (y:= .st) (by simp) rfl;refine ⟨aE (fun k=>aI (H' (.w (aA X))).p=some k) U.drew,aE.refl _,_,rfl,_,_,_,aw (ad h0.st rfl) (.inr trivial) (by rw [cy];exact b8),_,rfl,_,_,_,aw (ad h0.st rfl) (.inr trivial) (by rw [cy];exact b8),?_⟩;have rd: ∀ {n:Nat} {w1 w2:World},bc (.cells #[.int .i64 (i:Int)] aC) w1 n w2->aq w1 w2/\bF w2 n #[.int .i64 (i:Int)]:=fun h=> ⟨h.mod,h.has⟩
     have gm: ∀ {w1:World},aq U.drew w1->aE (fun k=>aI (H' (.w (aA X))).p=some k) U.drew w1:=fun g=>g.mono fun _ _ e=>e.elim;have di: ∀ {K:Addr->Prop},(∀a,e_ (aE (fun k=>aI (H' (.w (aA X))).p=some k) U.drew) a (H' (.w (aA X))).v->K a)->aV (H' .wa).p (H' .wa).n (aA X:Int) 1 K:=fun hk=>
      h0.Mf Z rfl rfl fun a hb hc=>hk a (aw hc (.inr trivial) fun e=>h0.ir (x:= .w (aA X)) (by simp) (y:= .wa) (by simp) hb e)
     refine ⟨(fT ax _).mono ?_,?_⟩
     . rintro e fo ⟨rfl,rfl⟩;refine ⟨_,rfl,aE.refl _,(fT ax _).mono ?_,?_⟩
       . rintro e ez ⟨rfl,rfl⟩;exact ⟨_,rfl,aE.refl _,di fun a50 ha=> ⟨_,_,_,ha,fun fd e7 a_=> ⟨gm a_.mod,h0.D1 Z a_.mod a_.has Y fI rfl⟩⟩⟩
       . intro e8 fk az;refine ⟨gm az.mod,(fT ax _).mono ?_⟩;rintro e e6 ⟨rfl,rfl⟩;exact ⟨_,rfl,gm az.mod,di fun e3 ha=> ⟨_,_,_,ha,h0.D1 Z az.mod az.has Y fI rfl⟩⟩
     . intro fv fi av;refine ⟨gm av.mod,(fT ax _).mono ?_⟩;rintro e fl ⟨rfl,rfl⟩;refine ⟨_,rfl,gm av.mod,(fT ax _).mono ?_⟩;rintro e fL ⟨rfl,rfl⟩;exact ⟨_,rfl,gm av.mod,di fun fb ha=> ⟨_,_,_,ha,h0.D1 Z av.mod av.has Y fI rfl⟩⟩
   . have Q:v=min 2 N:=by simp at Q;omega
     subst Q;have dp:l'.take (min 2 N)=l'.take 2:=by
      rw [<- hlen];by_cases e:2<=l'.length
      . rw [Nat.min_eq_left e]
      . rw [Nat.min_eq_right (by omega),List.take_length,List.take_of_length_le (by omega)]
     rw [dp] at ap O I ar;have kT:Wf (wF i (s.set (.l i) l') (l'.take 2)):=by
      have hR: ∀y,(∀j,y≠Pt.w j)->y≠ .l i->(wF i (s.set (.l i) l') (l'.take 2)).R y=s.R y:=fun y h1 h2=>by rw [nZ i h1,ak h2]
      exact ⟨by rw [I];exact k.d7,by rw [hR _ (by simp) (by simp),I];exact k.va,by rw [hR _ (by simp) (by simp)];exact k.vb,by rw [hR _ (by simp) (by simp),I];exact k.le,by rw [hR _ (by simp) (by simp),I];exact k.re,
       by rw [hR _ (by simp) (by simp)];exact k.be,by rw [hR _ (by simp) (by simp)];exact k.tr,by rw [(mZ i _ _).2.1];exact k.nc⟩
     have ec:(wF i (s.set (.l i) l') (l'.take 2)).R .va=s.R .va:=by rw [nZ i (by simp),ak (by simp)]
     have a':(wF i (s.set (.l i) l') (l'.take 2)).R .lo=s.R .lo:=by rw [nZ i (by simp),ak (by simp)]
     have loose:(l'.length<2\/s.val (l'.getD 1 0)<0)->∀ {u:World},aq U u->∀w3 q,PM w3 b (bi H' .lo q) ((wF i (s.set (.l i) l') (l'.take 2)).set .lo ((wF i (s.set (.l i) l') (l'.take 2)).R .lo++ [(i:Int)]))->
      Pw u w3 b H' (bi H' .lo q) ((wF i (s.set (.l i) l') (l'.take 2)).set .lo ((wF i (s.set (.l i) l') (l'.take 2)).R .lo++ [(i:Int)]))->
      Ending.returned (.tuple #[])= .returned (.tuple #[])/\∃l' H',vD s.rk 2 l'/\l'.Perm (s.R (.l i))/\Pw w w3 b H H' (jD s i l')/\pi H H'/\(2<=l'.length->0<=s.val (l'.getD 1 0)->H' .lo=H .lo):=by
      intro hc u gu w3 q _ P;refine ⟨rfl,l',bi H' .lo q,c1,pm,?_,fun x h1 h2=>by rw [aP h2];exact kh x h1 h2,fun h1 h2=>by omega⟩;unfold jD;simp only [if_pos hc];rw [a'] at P;exact (ap.grow gu).trans P
     rw [ay];refine ao (fun r3=> ?_) (fun r3=> ?_)
     . have fq:(N:Int)<2:=by simpa using r3
       have r3:l'.length<2:=by rw [hlen];omega
       refine ⟨_,rfl,_,_,_,ad O.st rfl,?_⟩;exact O.kZ (x:= .lo) rfl (i:Int) (by rw [a'];omega) rfl fun w3 q p P=>loose (.inl r3) (aE.refl _) w3 q p P
     . have r3:2<=l'.length:=by rw [hlen];simp at r3;omega
       rw [<- eL];refine O.Hl (x:= .l i) rfl (by omega) (by rw [ar];omega) (by omega) fun eH _ ce=> ⟨_,ce,?_⟩
       rw [ar];have hx:=bb _ (bM (l:=l') (t:=1) (by omega));refine (lK O kT (by rw [I];exact hx)).mono ?_;rintro e eT ⟨rfl,rfl⟩;rw [iI ec];refine ⟨_,rfl,ao (fun r4=> ?_) (fun r4=> ?_)⟩
       . have r4:s.val (l'.getD 1 0)<0:=by simpa using r4
         refine ⟨_,rfl,_,_,_,ad O.st rfl,?_⟩;exact O.kZ (x:= .lo) rfl (i:Int) (by rw [a'];omega) rfl fun w3 q p P=>loose (.inr r4) (aE.refl _) w3 q p P
       . have r4: ¬s.val (l'.getD 1 0)<0:=by simpa using r4
         refine ⟨rfl,l',H',c1,pm,?_,kh,fun _ _=>a7⟩;unfold jD;simp only [if_neg (show ¬(l'.length<2\/s.val (l'.getD 1 0)<0) by omega)];exact ap
end
section
variable {w w' w0 w2 w3 wA:World} {b:Nat} {H H' H2:Pt->Sl} {s t u:aG} {l:Int}
def lg (i:Int) (t:aG) (I:List Int):aG:=I.foldl (fun t x=>t.set (.w (aA x)) ((t.R (.w (aA x))).filter fun k=> !(k==i))) t
theorem AF (i:Int) (t:aG) (I:List Int) (x:Int):lg i t (I++ [x])=(lg i t I).set (.w (aA x)) (((lg i t I).R (.w (aA x))).filter fun k=> !(k==i)):=by simp [lg]
theorem ij (i:Int) {y:Pt} (J: ∀j,y≠ .w j): ∀ (I:List Int) (t:aG),(lg i t I).R y=t.R y
 | [],_=>rfl
 |_::I,_=> (ij i J I _).trans (ak (J _))
theorem iw (i:Int): ∀ (I:List Int) (t:aG),(lg i t I).vars=t.vars/\(lg i t I).nc=t.nc/\(lg i t I).gone=t.gone/\(lg i t I).done=t.done
 | [],_=> ⟨rfl,rfl,rfl,rfl⟩
 |x::I,t=>iw i I (t.set (.w (aA x)) ((t.R (.w (aA x))).filter fun k=> !(k==i)))
theorem yq (i:Int) (j:Nat): ∀ (I:List Int) (t:aG),((lg i t I).R (.w j)).length<=(t.R (.w j)).length
 | [],_=>Nat.le_refl _
 |x::I,t=>by
  have:=yq i j I (t.set (.w (aA x)) ((t.R (.w (aA x))).filter fun k=> !(k==i)));refine Nat.le_trans this ?_;by_cases e:aA x=j
  . subst e;rw [aK];exact List.length_filter_le _ _
  . rw [ak (fun h=>e (by injection h with h;exact h.symm))];exact Nat.le_refl _
def kJ (H H':Pt->Sl):Prop:= ∀x,(∀j,x≠ .w j)->H' x=H x
theorem kJ.refl:kJ H H:=fun _ _=>rfl
theorem kJ.wt (h:kJ H H') {j:Nat} {q:Sl}:kJ H (bi H' (.w j) q):=fun x h1=>by rw [aP (h1 j)];exact h x h1
theorem kJ.trans (h:kJ H H2) (k:kJ H2 H'):kJ H H':=fun x I=> (k x I).trans (h x I)
theorem Ek (h:PM w b H s) {i:Nat} (hn:(s.R (.l i)).length<=100000):(s.R (.l i)).length<=(H (.l i)).c/\jI 2 ((H (.l i)).n:Int)=((min 2 (s.R (.l i)).length:Nat):Int):=by
 have I:=h.len (.l i) rfl;refine ⟨?_,by rw [I];unfold jI;split<;>omega⟩;rcases (h.row (.l i) rfl).un with ⟨_,_,J⟩| ⟨_,_,_,_,e,_⟩
 . rw [J];exact Nat.zero_le _
 . exact e
theorem uf (h:PM w b H s) (hv:s.vars<=1048576) {i:Nat} (hi:i<s.nc) (hl: ∀x∈s.R (.l i),dR s.vars x) (hn:(s.R (.l i)).length<=100000) (hw: ∀j,(s.R (.w j)).length<=1000000):
 Calls prog dw.id #[bR b,.int .i64 i] w fun e w'=>e= .returned (.tuple #[])/\∃H',Pw w w' b H H' (lg i s ((s.R (.l i)).take 2))/\kJ H H':=by
 refine dw.ah ?_;intro n1 w1 h1;have hA:=(h.grow h1.mod)
 obtain ⟨b6,ay⟩:=Ek h hn;refine ⟨_,rfl,_,_,_,ad hA.drew.st rfl,_,aR h1.has.drew rfl,hA.drew.Jn hi rfl rfl fun a6 b3=> ⟨_,_,_,b3.get 1 _ rfl,?_⟩⟩;rw [ay];generalize hN:(s.R (.l i)).length=N at*
 refine gD 0 (min 2 N) (H (.l i)).c rfl rfl rfl (Nat.le_refl _) (by omega) (Nat.zero_le _) ?_;have ep:(if (H (.l i)).c=0 then (H (.l i)).p else (H (.l i)).p.map (·.add (0*1)))=(H (.l i)).p:=by rw [L9];split<;>rfl
 rw [ep,Nat.sub_zero];have O: ∀x,¬own b H x=some n1:=fun x e=>by have:=h.lt x n1 e;have:=h1.num;omega
 refine ⟨fun V u m=> ∃ (v:Nat) (H':Pt->Sl),V=v/\v<=min 2 N/\m=min 2 N - v/\Pw w1 u b H H' (lg i s ((s.R (.l i)).take v))/\kJ H H',
  ⟨_,0,H,rfl,Nat.zero_le _,rfl,Pw.refl hA.drew (aE.refl w1).drew,kJ.refl⟩,?_⟩
 rintro V I m _ ⟨v,H',rfl,b_,rfl,J,kh⟩;have pE:=J.pm;have eL:H' (.l i)=H (.l i):=kh _ (by simp);have aa:(lg i s ((s.R (.l i)).take v)).vars=s.vars:=(iw i _ _).1;have ag:(lg i s ((s.R (.l i)).take v)).R (.l i)=s.R (.l i):=ij i (by simp) _ _;refine ao (fun r2=> ?_) (fun r2=> ?_)
 . have r2:v<min 2 N:=by simpa using r2
   rw [<- eL];have hx:=hl _ (bM (l:=s.R (.l i)) (t:=v) (by omega));have ax:=hx.bd hv;have bk:=pV hx;refine pE.Hl (x:= .l i) rfl (n:=min 2 N) (by omega) (by rw [ag];omega) (by omega) fun c0 _ ap=> ⟨_,ap,?_⟩
   rw [ag,Int.toNat_natCast];have av:bF I n1 #[.int .i64 (i:Int)]:=h1.has.keep J.mod fun ⟨x,e⟩=>O x e;generalize hT:lg i s ((s.R (.l i)).take v)=T at*
   generalize hX:(s.R (.l i)).getD v 0=X at*
   have Z:(T.R (.w (aA X))).length<=1000000:=by
    have:=yq i (aA X) ((s.R (.l i)).take v) s;rw [hT] at this;exact Nat.le_trans this (hw _)
   have U:aA X<2* (T.vars+1):=by rw [aa];exact bk
   refine ⟨(·=I.drew),rfl,_,rfl,_,_,_,eF (ad pE.drew.st rfl),(fT ax _).mono ?_⟩;rintro e cb ⟨rfl,rfl⟩;refine ⟨_,rfl,rfl,pE.drew.Mf U rfl rfl fun cm _ an=> ⟨_,_,_,eF an,?_⟩⟩;have Q:=pE.drew.drew;have aw: ∀ {a:Addr} {u:Value},I.drew.drew.cell? a=some u->¬aI (H' (.w (aA X))).p=some a.block->e_ (aE (fun k=>aI (H' (.w (aA X))).p=some k) I.drew.drew) a u:=fun hc a7 u' g=>gj g hc a7;have bv: ¬aI (H' (.w (aA X))).p=some b:=Q.ir (x:= .w (aA X)) (by simp) (y:= .st) (by simp) rfl;have a_: ¬aI (H' (.w (aA X))).p=some n1:=fun e=>by
    rcases J.ft (.w (aA X)) n1 e with ⟨y,e2⟩|e2
    . exact O y e2
    . have:=h1.has.lt;omega
   refine ⟨aE (fun k=>aI (H' (.w (aA X))).p=some k) I.drew.drew,aE.refl _,_,rfl,_,_,_,aw (ad Q.st rfl) (by rw [cy];exact bv),(fT ax _).mono ?_⟩;rintro e ce ⟨rfl,rfl⟩;have o:eC aC I.drew.drew (H' (.w (aA X))).p (H' (.w (aA X))).c (T.R (.w (aA X))):=Q.row (.w (aA X)) rfl;refine ⟨_,rfl,aE.refl _,(rh o (Q.len (.w (aA X)) rfl) (by rw [Q.len (.w (aA X)) rfl];exact Z) Db (fun x=>x==(i:Int)) fun x _ w' g=> ?_).mono ?_⟩
   . rw [uk];exact K5 (av.drew.drew.keep g a_) x
   rintro e b9 ⟨rfl,a8,Y⟩;refine ⟨_,_,_,rfl,Y,?_⟩;refine Q.Cm U a8 (Q.DT rfl Y) (fun k hk=> .inl hk) rfl Q.wn rfl fun cp bY bx=> ?_;refine ⟨_,?_,v+1,bi H' (.w (aA X)) ⟨(H' (.w (aA X))).p,((T.R (.w (aA X))).filter fun x=> !(x==(i:Int))).length,(H' (.w (aA X))).c⟩,wN (by omega) (by omega),by omega,rfl,?_,kh.wt⟩
   . omega
   . have:(s.R (.l i)).take (v+1)=(s.R (.l i)).take v++ [X]:=by
      rw [List.take_add_one,<- hX];simp [List.getD,show v< (s.R (.l i)).length by omega]
     rw [this,AF,hT];exact J.drew.drew.trans (Pw.head (z:= .wa) (by simp) bY Y bx fun k hk=> .inl hk)
 . have r2:v=min 2 N:=by simp at r2;omega
   subst r2;refine ⟨rfl,H',?_,kh⟩;have aT:(s.R (.l i)).take (min 2 N)=(s.R (.l i)).take 2:=by
    rw [<- hN];by_cases e:2<=(s.R (.l i)).length
    . rw [Nat.min_eq_left e]
    . rw [Nat.min_eq_right (by omega),List.take_length,List.take_of_length_le (by omega)]
   rw [aT] at J;exact J.cP h1.mod
theorem vD.aF {l':List Int} (hb:vD s.rk 2 l') (I: ∀x∈l',s.val x<0->s.bj x<1048577) {m:List Int} (pm:l'.Perm m) (h2:2<=(m.filter fun x=> !decide (s.val x<0)).length):
 2<=l'.length/\0<=s.val (l'.getD 1 0)/\0<=s.val (l'.getD 0 0):=by
 have hf:(l'.filter fun x=> !decide (s.val x<0)).length=(m.filter fun x=> !decide (s.val x<0)).length:=(pm.filter _).length_eq;have O:2<=l'.length:=by have:=List.length_filter_le (fun x=> !decide (s.val x<0)) l';omega
 match l',O with
 |x::y::r,_=>
  have key:0<=s.val y:=by
   rcases Int.lt_or_le (s.val y) 0 with U|U
   . exfalso;have Q:s.rk y<1048577:=by unfold aG.rk;rw [if_neg (by omega)];exact I y (by simp) U
     have: ∀z∈y::r,s.val z<0:=by
      intro z V;obtain ⟨j,X,e⟩:=List.mem_iff_getElem.1 V;have:=hb 1 (by omega) (j+1) (by omega) (by simpa using X);have Z:(x::y::r).getD (j+1) 0=z:=by
       show (y::r).getD j 0=z;rw [<- e,List.getD_eq_getElem?_getD,List.getElem?_eq_getElem X];rfl
      rw [Z] at this;have J:(x::y::r).getD 1 0=y:=rfl;rw [J] at this;rcases Int.lt_or_le (s.val z) 0 with h|h
      . exact h
      . unfold aG.rk at this Q;rw [if_pos (show s.val z>=0 from h)] at this;omega
     have e0:((y::r).filter fun x=> !decide (s.val x<0))= []:=by
      rw [List.filter_eq_nil_iff];intro z V;simp [this z V]
     rw [List.filter_cons,e0] at hf;split at hf<;>simp at hf<;>omega
   . exact U
  refine ⟨by simp,key,?_⟩;have:=hb 0 (by omega) 1 (by omega) (by simp);have J:(x::y::r).getD 1 0=y:=rfl;have Y:(x::y::r).getD 0 0=x:=rfl;rw [J,Y] at this;rw [Y];rcases Int.lt_or_le (s.val x) 0 with h|h
  . unfold aG.rk at this;rw [if_pos (show s.val y>=0 from key),if_neg (show ¬s.val x>=0 by omega)] at this;have:=I x (by simp) h;omega
  . exact h
theorem By {i:Nat} {l':List Int} (h1:2<=l'.length) (I:0<=s.val (l'.getD 1 0)):jD s i l'=wF i (s.set (.l i) l') (l'.take 2):=by
 unfold jD;simp only [if_neg (show ¬(l'.length<2\/s.val (l'.getD 1 0)<0) by omega)]
theorem EQ (h:PM w b H s) (k:Wf s) {i:Nat} (hi:i<s.nc) (hl: ∀x∈s.R (.l i),dR s.vars x) (hn:(s.R (.l i)).length<=100000) (hw: ∀j,(s.R (.w j)).length+2<=4000000) (X:(s.R .lo).length<=4000000)
 (Q: ∀x∈s.R (.l i),s.val x<0->s.bj x<1048577) (Z:2<=((s.R (.l i)).filter fun x=> !decide (s.val x<0)).length):
 Calls prog eM.id #[bR b,.int .i64 i] w fun e w'=>e= .returned (.tuple #[])/\∃l' H',vD s.rk 2 l'/\l'.Perm (s.R (.l i))/\2<=l'.length/\0<=s.val (l'.getD 1 0)/\0<=s.val (l'.getD 0 0)/\Pw w w' b H H' (wF i (s.set (.l i) l') (l'.take 2))/\kJ H H':=by
 refine eM.ah ?_;refine ⟨_,rfl,_,_,_,ad h.st rfl,(wv h k hi hl hn hw X).mono ?_⟩;rintro e w3 ⟨rfl,l',H',hb,pm,U,kh,O⟩;obtain ⟨b1,b2,b3⟩:=hb.aF (fun x Y=>Q x (pm.mem_iff.1 Y)) pm Z;rw [By b1 b2] at U;have J:=O b1 b2;have I:=U.pm;refine ⟨rfl,_,rfl,?_⟩;have o:=I.row .lo rfl;rw [J] at o;have:=I.head (x:= .lo) rfl o ⟨I.st,I.c,I.wa,fun y hy _=>I.row y hy⟩ (fun k V=> .inl (by rw [J];exact V)) (n':=(H .lo).n) (by rw [<- J];exact I.len .lo rfl) (K:=fun w'=>Ending.returned (.tuple #[])= .returned (.tuple #[])/\∃l' H',vD s.rk 2 l'/\l'.Perm (s.R (.l i))/\2<=l'.length/\0<=s.val (l'.getD 1 0)/\0<=s.val (l'.getD 0 0)/\Pw w w' b H H' (wF i (s.set (.l i) l') (l'.take 2))/\kJ H H') ?_
 . exact this
 . intro w5 h5 m5;have eH:bi H' .lo ⟨(H .lo).p,(H .lo).n,(H .lo).c⟩=H':=by
    funext y;simp only [bi];split
    . rename_i e;rw [e,J]
    . rfl
   rw [eH,eJ] at h5;refine ⟨rfl,l',H',hb,pm,b1,b2,b3,U.trans ⟨h5,m5.mono fun k _ e=> ⟨.st,by rw [e];rfl⟩,fun x k V=> .inl ⟨x,V⟩⟩,fun x Y=> ?_⟩;by_cases e:x= .lo
   . rw [e,J]
   . exact kh x Y e
end
section
variable {w w' w0 w2 w3 wA:World} {b:Nat} {H H' H2:Pt->Sl} {s t u:aG} {l:Int}
def iX (l:List Int) (f:Int):List Int:=if l.getD 0 0=f/\1<l.length then qP l 0 1 else l
theorem xg (l:List Int) (f:Int):(iX l f).length=l.length:=by unfold iX;split<;>simp [qy]
theorem m9 (l:List Int) (f:Int):(iX l f).Perm l:=by
 unfold iX;split
 . rename_i h;exact tU (by omega) h.2
 . exact List.Perm.refl _
inductive qV (s:aG) (i:Nat) (m:List Int):aG->Bool->Bool->Prop
 |K9:0<s.val (m.getD 0 0)->qV s i m (s.set (.l i) m) true false
 |yW (k:Nat): ¬0<s.val (m.getD 0 0)->2<=k->k<m.length->0<=s.val (m.getD k 0)->
   qV s i m ((s.set (.l i) (qP m 1 k)).set (.w (aA (m.getD k 0))) (s.R (.w (aA (m.getD k 0)))++ [(i:Int)])) false false
 |mW:s.val (m.getD 0 0)<0->(∀k,2<=k->k<m.length->s.val (m.getD k 0)<0)->qV s i m (s.set (.l i) m) true true
 |unit:s.val (m.getD 0 0)=0->(∀k,2<=k->k<m.length->s.val (m.getD k 0)<0)->qV s i m ((s.set (.l i) m).put (m.getD 0 0) i) true false
def EA (s:aG) (H H':Pt->Sl):Prop:= ∀x,x≠ .tr->(∀z,dR s.vars z->0<=s.val z->x≠ .w (aA z))->H' x=H x
theorem F3 (h:PM w b H s) (k:Wf s) {i:Nat} (hi:i<s.nc) (hl: ∀x∈s.R (.l i),dR s.vars x) (hn:(s.R (.l i)).length<=100000) (hw: ∀j,(s.R (.w j)).length<=1000000) (h2:2<=(s.R (.l i)).length) (f:Int):
 Calls prog eY.id #[bR b,.int .i64 i,.int .i64 f] w fun e w'=> ∃st br,e= .returned (.tuple #[.bool st,.bool br])/\∃s' H',qV s i (iX (s.R (.l i)) f) s' st br/\Pw w w' b H H' s'/\EA s H H':=by
 have b7:=h.len (.l i) rfl;refine eY.ah ?_;refine ⟨_,rfl,_,_,_,ad h.st rfl,h.Jn hi rfl rfl fun a3 dk=> ⟨_,_,_,dk.get 1 _ rfl,?_⟩⟩;generalize hm:iX (s.R (.l i)) f=m at*
 have ec:m.length=(s.R (.l i)).length:=by rw [<- hm,xg]
 have d8:m.Perm (s.R (.l i)):=by rw [<- hm];exact m9 _ _
 have bb: ∀x∈m,dR s.vars x:=fun x hx=>hl x (d8.mem_iff.1 hx);generalize hN:(s.R (.l i)).length=N at*
 have P0:=Pw.refl h (aE.refl w);refine ⟨fun u=>Pw w u b H H (s.set (.l i) m),?_,?_⟩
 . refine h.tG (x:= .l i) rfl (by omega) rfl (by omega) fun a6 _ d5=> ⟨_,d5,ao (fun r=>ao (fun Z=> ?_) fun Z=> ?_) fun r=> ?_⟩
   . have r:(s.R (.l i)).getD 0 0=f:=by simpa using r
     have em:m=qP (s.R (.l i)) 0 1:=by rw [<- hm];unfold iX;rw [if_pos ⟨r,by omega⟩]
     have O:=h.drew;refine O.tG (x:= .l i) rfl (by omega) rfl (by omega) fun a8 _ du=> ⟨_,du,O.tG (x:= .l i) rfl (by omega) rfl (by omega) fun eT _ b_=> ⟨_,b_,?_⟩⟩
     refine O.Er (x:= .l i) rfl (by omega) rfl (by omega) (y:=(s.R (.l i)).getD 1 0) rfl rfl fun ez pE dp=>pE.Er (x:= .l i) rfl (by omega) rfl (by simp [aK];omega) (y:=(s.R (.l i)).getD 0 0) rfl rfl fun eA cc dT=> ?_;rw [aK,set_set] at cc;rw [em];exact P0.drew.trans ⟨cc,(dp.mono fun k _ e=> ⟨.l i,e⟩).trans (dT.mono fun k _ e=> ⟨.l i,e⟩),fun x _ hk=> .inl ⟨x,hk⟩⟩
   . simp at Z;omega
   . have r: ¬(s.R (.l i)).getD 0 0=f:=by simpa using r
     have em:m=s.R (.l i):=by rw [<- hm];unfold iX;rw [if_neg (fun e=>r e.1)]
     rw [em,eJ];exact P0
 intro a_ _ ag;have ay:=ag.pm;have bY:Wf (s.set (.l i) m):=k.set (by simp) (by simp) (by simp) (by simp) (by simp) m;have ev: ∀x,(s.set (.l i) m).val x=s.val x:=fun x=>iI (ak (by simp)) x;have kv:EA s H H:=fun _ _ _=>rfl;have di: ∀ {I:Int} (j:Nat),I=j->j<N->∀ {K:Addr->Prop},(∀a,a_.cell? a=some (.int .i64 (m.getD j 0))->K a)->aV (H (.l i)).p (H (.l i)).n I 1 K:=fun {I} j hI hj {K} hk=>by
  subst hI;refine ay.tG (x:= .l i) rfl (by omega) rfl (by rw [aK];omega) fun a _ hc=>hk a ?_;rw [aK,Int.toNat_natCast] at hc;exact hc
 have bk: ∀j,j<N->Calls prog fG.id #[bR b,.int .i64 (m.getD j 0)] a_ fun e w'=>e= .returned (.int .i8 (s.val (m.getD j 0)))/\w'=a_:=fun j hj=>by
  have:=lK ay bY (l:=m.getD j 0) (bb _ (bM (by omega)));rw [ev] at this;exact this
 refine di 0 rfl (by omega) fun e7 b9=> ⟨_,b9,(bk 0 (by omega)).mono ?_⟩
 rintro e c2 ⟨rfl,rfl⟩;refine ⟨_,rfl,ao (fun r=> ⟨true,false,rfl,_,H,.K9 (by simpa using r),ag,kv⟩) fun r=> ?_⟩;have r: ¬0<s.val (m.getD 0 0):=by simpa using r
 refine ⟨fun K u z=> ∃j:Nat,K=j/\2<=j/\j<=N/\z=N - j/\u=c2/\∀y,2<=y->y<j->s.val (m.getD y 0)<0,⟨_,2,rfl,Nat.le_refl _,h2,rfl,rfl,fun y y1 y2=>by omega⟩,?_⟩;rintro K u z _ ⟨j,rfl,j2,jN,rfl,rfl,ac⟩;refine ao (fun Z=> ?_) (fun Z=> ?_)
 . have Z:j<N:=by rw [b7] at Z;simpa using Z
   refine di j rfl Z fun ep b6=> ⟨_,b6,(bk j Z).mono ?_⟩
   rintro e eb ⟨rfl,rfl⟩;refine ⟨_,rfl,ao (fun r3=> ?_) (fun r3=> ?_)⟩
   . have r3:0<=s.val (m.getD j 0):=by simpa using r3
     have O:=ay.drew;refine O.tG (x:= .l i) rfl (by omega) rfl (by rw [aK];omega) fun eg _ cb=> ⟨_,cb,O.tG (x:= .l i) rfl (by omega) rfl (by rw [aK];omega) fun er _ b3=> ⟨_,b3,?_⟩⟩
     rw [aK,Int.toNat_natCast];refine O.Er (x:= .l i) rfl (by omega) rfl (by rw [aK];omega) (y:=m.getD j 0) rfl rfl fun ea c0 cT=>c0.Er (x:= .l i) rfl (by omega) rfl (by simp [aK];omega) (y:=m.getD 1 0) rfl rfl fun J aT c3=> ?_;rw [aK,set_set,aK,Int.toNat_natCast,set_set] at aT;have c1:(m.set (Int.toNat 1) (m.getD j 0)).set j (m.getD 1 0)=qP m 1 j:=rfl;rw [c1] at aT;have dd:Pw w J b H H (s.set (.l i) (qP m 1 j)):=ag.drew.trans ⟨aT,(cT.mono fun k _ e=> ⟨.l i,e⟩).trans (c3.mono fun k _ e=> ⟨.l i,e⟩),fun x _ hk=> .inl ⟨x,hk⟩⟩;generalize hX:m.getD j 0=X at*
     have hx:dR s.vars X:=by rw [<- hX];exact bb _ (bM (by omega))
     have ar:=hx.bd k.d7;have c7:=pV hx;have O:=aT.drew;have e1:(qP m 1 j).getD 1 0=X:=by
      rw [jV (by omega) (by omega)];by_cases e:1=j
      . omega
      . rw [if_neg e,if_pos rfl,hX]
     have U:((s.set (.l i) (qP m 1 j)).R (.w (aA X))).length<=4000000:=by rw [ak (by simp)];have:=hw (aA X);omega
     have Y:aA X<2* ((s.set (.l i) (qP m 1 j)).vars+1):=c7;have fI: ∀w3 q,Pw J.drew w3 b H (bi H (.w (aA X)) q) ((s.set (.l i) (qP m 1 j)).set (.w (aA X)) ((s.set (.l i) (qP m 1 j)).R (.w (aA X))++ [(i:Int)]))->
      ∃st br,Ending.returned (.tuple #[.bool false,.bool false])= .returned (.tuple #[.bool st,.bool br])/\∃s' H',qV s i m s' st br/\Pw w w3 b H H' s'/\EA s H H':=by
      intro w3 q P;have V:=qV.yW (s:=s) (i:=i) (m:=m) j r j2 (by omega) (by rw [hX];exact r3);rw [hX] at V;rw [ak (by simp)] at P;refine ⟨_,_,rfl,_,_,V,dd.drew.trans P,fun x ew dq=> ?_⟩;exact aP (dq X hx r3)
     have aw: ∀ {a:Addr} {u:Value},J.drew.cell? a=some u->¬aI (H (.w (aA X))).p=some a.block->e_ (aE (fun k=>aI (H (.w (aA X))).p=some k) J.drew) a u:=fun hc cp u' g=>gj g hc cp;have b4: ¬aI (H (.w (aA X))).p=some b:=O.ir (x:= .w (aA X)) (by simp) (y:= .st) (by simp) rfl;have gm: ∀ {w1:World},aq J.drew w1->aE (fun k=>aI (H (.w (aA X))).p=some k) J.drew w1:=fun g=>g.mono fun _ _ e=>e.elim;have Q: ∀ {K:Addr->Prop},(∀a,e_ (aE (fun k=>aI (H (.w (aA X))).p=some k) J.drew) a (H (.w (aA X))).v->K a)->aV (H .wa).p (H .wa).n (aA X:Int) 1 K:=fun hk=>
      O.Mf Y rfl rfl fun a hb hc=>hk a (aw hc fun e=>O.ir (x:= .w (aA X)) (by simp) (y:= .wa) (by simp) hb e)
     have an: ∀ {K:Addr->Prop},(∀a,e_ (aE (fun k=>aI (H (.w (aA X))).p=some k) J.drew) a (.int .i64 X)->K a)->aV (H (.l i)).p (H (.l i)).n 1 1 K:=fun hk=>by
      refine O.tG (x:= .l i) rfl (by omega) rfl (by rw [aK,qy];omega) fun a hb hc=>hk a ?_;rw [aK] at hc;have e2:(qP m 1 j).getD (Int.toNat 1) 0=X:=e1;rw [e2] at hc;exact aw hc fun e=>O.ir (x:= .w (aA X)) (by simp) (y:= .l i) (by simp) hb e
     refine ⟨aE (fun k=>aI (H (.w (aA X))).p=some k) J.drew,aE.refl _,_,rfl,_,_,_,aw (ad O.st rfl) (by rw [cy];exact b4),an fun ef b8=> ⟨_,b8,_,rfl,_,_,_,aw (ad O.st rfl) (by rw [cy];exact b4),an fun a45 ce=> ⟨_,ce,?_⟩⟩⟩;refine ⟨(fT ar _).mono ?_,?_⟩
     . rintro e e5 ⟨rfl,rfl⟩;refine ⟨_,rfl,aE.refl _,(fT ar _).mono ?_,?_⟩
       . rintro e ed ⟨rfl,rfl⟩;exact ⟨_,rfl,aE.refl _,Q fun a50 ha=> ⟨_,_,_,ha,fun eH es a7=> ⟨gm a7.mod,O.D1 Y a7.mod a7.has U fI rfl⟩⟩⟩
       . intro et eN az;refine ⟨gm az.mod,(fT ar _).mono ?_⟩;rintro e en ⟨rfl,rfl⟩;exact ⟨_,rfl,gm az.mod,Q fun ek ha=> ⟨_,_,_,ha,O.D1 Y az.mod az.has U fI rfl⟩⟩
     . intro e8 eL ap;refine ⟨gm ap.mod,(fT ar _).mono ?_⟩;rintro e eR ⟨rfl,rfl⟩;refine ⟨_,rfl,gm ap.mod,(fT ar _).mono ?_⟩;rintro e e' ⟨rfl,rfl⟩;exact ⟨_,rfl,gm ap.mod,Q fun eu ha=> ⟨_,_,_,ha,O.D1 Y ap.mod ap.has U fI rfl⟩⟩
   . have r3:s.val (m.getD j 0)<0:=by simpa using r3
     refine ⟨_,?_,j+1,wN (by omega) (by omega),by omega,Z,rfl,rfl,fun y y1 y2=> ?_⟩
     . omega
     . by_cases e:y=j
       . rw [e];exact r3
       . exact ac y y1 (by omega)
 . have Z:j=N:=by rw [b7] at Z;simp at Z;omega
   subst Z;refine di 0 rfl (by omega) fun fd b'=> ⟨_,b',(bk 0 (by omega)).mono ?_⟩
   rintro e ej ⟨rfl,rfl⟩;refine ⟨_,rfl,ao (fun r3=> ⟨true,true,rfl,_,H,.mW (by simpa using r3) (fun y y1 y2=>ac y y1 (by omega)),ag,kv⟩) fun r3=> ?_⟩;have r3:0<=s.val (m.getD 0 0):=by simpa using r3
   refine di 0 rfl (by omega) fun e4 b5=> ⟨_,b5,(Bv ay bY (l:=m.getD 0 0) (bb _ (bM (by omega))) i).mono ?_⟩
   rintro e el ⟨rfl,q,d4⟩;exact ⟨rfl,true,false,rfl,_,_,.unit (by omega) (fun y y1 y2=>ac y y1 (by omega)),ag.trans d4,fun x hx _=>aP hx⟩
end
section
variable {s t u:aG} {l x y:Int}
def aG.aQ (s:aG) (i:Nat):Prop:=i<s.nc/\s.gone i=false
def W1 (s:aG) (i D:Nat) (t:List Int):Prop:= ∀x∈(s.R (.l i)).take 2,∀y∈(s.R (.l i)).take 2,x≠y-> -x∈(s.R .tr).take D->y∈t
structure aM (s:aG):Prop where
 d7:s.vars<=1048576
 G1:s.nc<=262144
 va:(s.R .va).length=s.vars+1
 vb: ∀i,(s.R .va).getD i 0=0\/(s.R .va).getD i 0=1\/(s.R .va).getD i 0= -1
 le:(s.R .le).length=s.vars+1
 rl:(s.R .re).length=s.vars+1
 tv: ∀x∈s.R .tr,dR s.vars x
 nd:((s.R .tr).map aX).Nodup
 v1: ∀x,dR s.vars x->(s.val x=1↔x∈s.R .tr)
 bl: ∀j,j< (s.R .be).length->0<=(s.R .be).getD j 0/\(s.R .be).getD j 0< (s.R .tr).length
 bs: ∀i j,i<j->j< (s.R .be).length->(s.R .be).getD i 0< (s.R .be).getD j 0
 dl:(s.R .ds).length=(s.R .be).length
 db: ∀j,j< (s.R .be).length->0<=(s.R .ds).getD j 0/\(s.R .ds).getD j 0<=(s.R .be).getD j 0
 lv: ∀p,p< (s.R .tr).length->s.bj ((s.R .tr).getD p 0)=((s.R .be).countP fun e=>decide (e<=(p:Int)):Nat)
 Kx: ∀p,p< (s.R .tr).length->(p:Int)∈s.R .be->s.j8 ((s.R .tr).getD p 0)= -1
 IZ: ∀p,p< (s.R .tr).length->(p:Int) ∉ s.R .be->∃i:Nat,s.j8 ((s.R .tr).getD p 0)=i/\s.aQ i/\(s.R .tr).getD p 0∈s.R (.l i)/\∀x∈s.R (.l i),x≠(s.R .tr).getD p 0-> -x∈(s.R .tr).take p
 dn:s.done<=(s.R .tr).length
 cv: ∀i,s.aQ i->∀x∈s.R (.l i),dR s.vars x
 cn: ∀i,s.aQ i->(s.R (.l i)).Nodup
 cl: ∀i,s.aQ i->(s.R (.l i)).length<=4096
 ca: ∀i,s.aQ i->∀x,x∈s.R (.l i)↔x∈s.R (.a i)
 al: ∀i,(s.R (.a i)).length<=4096
 w1: ∀j,∀c∈s.R (.w j),∃i:Nat,c=i/\s.aQ i/\∃x∈(s.R (.l i)).take 2,aA x=j
 w2: ∀i,s.aQ i->∀x∈(s.R (.l i)).take 2,(i:Int)∈s.R (.w (aA x))
 w3: ∀j,(s.R (.w j)).Nodup
 o1: ∀c∈s.R .lo,∃i:Nat,c=i/\s.aQ i
 o2: ∀i,s.aQ i->(s.R (.l i)).length<2->(i:Int)∈s.R .lo
 o3:(s.R .lo).Nodup
 wd: ∀i,s.aQ i->(i:Int) ∉ s.R .lo->W1 s i s.done (s.R .tr)
 wj: ∀j,j< (s.R .be).length->∀i,s.aQ i->(i:Int) ∉ s.R .lo->W1 s i ((s.R .ds).getD j 0).toNat ((s.R .tr).take ((s.R .be).getD j 0).toNat)
theorem mN {n:Nat} (h:dR n l):s.val (-l)= -s.val l:=by
 obtain ⟨h1,_,_⟩:=h;unfold aG.val;by_cases e:l<0
 . rw [if_pos e,if_neg (by omega)];omega
 . rw [if_neg e,if_pos (by omega),Int.neg_neg]
theorem xv (h:aX x=aX y):x=y\/x= -y:=by
 unfold aX at h;split at h<;>split at h<;>omega
theorem oJ (x:Int):aX (-x)=aX x:=by unfold aX;split<;>split<;>omega
theorem md {n:Nat} {l:List Int} (Q:l.Nodup) (h: ∀x∈l,0<=x/\x<n):l.length<=n:=by
 have inj:(l.map Int.toNat).Nodup:=by
  refine List.pairwise_map.2 (List.Pairwise.imp_of_mem (fun {x y} I O J e=> ?_) Q);have:=h x I;have:=h y O;exact J (by omega)
 have:=List.Nodup.length_le_of_subset inj (l₂:=List.range n) fun y O=>by
  obtain ⟨x,I,rfl⟩:=List.mem_map.1 O;have:=h x I;exact List.mem_range.2 (by omega)
 simpa using this
theorem aM.xh (g:aM s):(s.R .tr).length<=s.vars:=by
 have h:=md (n:=s.vars+1) (l:=0::(s.R .tr).map aX) (List.nodup_cons.2 ⟨fun h=>by
  obtain ⟨x,I,e⟩:=List.mem_map.1 h;have:=(g.tv x I).aX;omega,g.nd⟩) fun x I=>by
   rcases List.mem_cons.1 I with rfl|I
   . omega
   . obtain ⟨y,J,rfl⟩:=List.mem_map.1 I;have:=(g.tv y J).aX;omega
 simpa using h
theorem aM.Jf (g:aM s):(s.R .be).length<=(s.R .tr).length:=by
 refine md ?_ fun x O=> ?_
 . rw [List.nodup_iff_pairwise_ne,List.pairwise_iff_getElem];intro i j hi I J;have:=g.bs i j J I;simp only [List.getD,List.getElem?_eq_getElem hi,List.getElem?_eq_getElem I,Option.getD_some] at this;omega
 . obtain ⟨j,I,e⟩:=List.mem_iff_getElem.1 O;have:=g.bl j I;simp only [List.getD,List.getElem?_eq_getElem I,Option.getD_some,e] at this;exact this
theorem aM.wf (g:aM s):Wf s:=⟨g.d7,g.va,g.vb,g.le,g.rl,by have:=g.xh;have:=g.Jf;have:=g.d7;omega,by have:=g.xh;have:=g.d7;omega,g.G1⟩
theorem aM.wl (g:aM s) (j:Nat):(s.R (.w j)).length<=262144:=by
 refine Nat.le_trans (md (n:=s.nc) (g.w3 j) fun x I=> ?_) g.G1;obtain ⟨i,rfl,⟨hi,_⟩,_⟩:=g.w1 j x I;omega
theorem aM.MX (g:aM s):(s.R .lo).length<=262144:=by
 refine Nat.le_trans (md (n:=s.nc) g.o3 fun x I=> ?_) g.G1;obtain ⟨i,rfl,⟨hi,_⟩⟩:=g.o1 x I;omega
theorem aM.vm (g:aM s) (h:dR s.vars x):s.val x= -1↔ -x∈s.R .tr:=by
 rw [<- g.v1 _ h.neg,mN h];omega
theorem aM.v0 (g:aM s) (h:dR s.vars x):s.val x=0↔x ∉ s.R .tr/\ -x ∉ s.R .tr:=by
 have h1:=g.v1 x h;have I:=g.vm h;have:=aG.pz g.wf x;constructor
 . intro e;exact ⟨fun m=>by have:=h1.2 m;omega,fun m=>by have:=I.2 m;omega⟩
 . rintro ⟨a,b⟩;rcases this with e|e|e
   . exact e
   . exact absurd (h1.1 e) a
   . exact absurd (I.1 e) b
theorem aM.Fc (g:aM s) (h:dR s.vars x):s.val x<0↔ -x∈s.R .tr:=by
 rw [<- g.vm h];have:=aG.pz g.wf x;omega
theorem aM.MU (g:aM s) (h:dR s.vars x):0<s.val x↔x∈s.R .tr:=by
 rw [<- g.v1 x h];have:=aG.pz g.wf x;omega
theorem aM.cons (g:aM s) (h:x∈s.R .tr): -x ∉ s.R .tr:=fun e=>by
 have hv:=g.tv x h;have:=(g.v1 x hv).2 h;have:=(g.vm hv).2 e;omega
theorem aM.LK (g:aM s) {x:Int} (h:dR s.vars x) (O:s.val x<0):s.bj x<1048577:=by
 have hm:=(g.Fc h).1 O;obtain ⟨p,hp,e⟩:=List.mem_iff_getElem.1 hm;have I:=g.lv p hp;have J:(s.R .tr).getD p 0= -x:=by simp [List.getD,hp,e]
 rw [J] at I;have Q:s.bj (-x)=s.bj x:=by unfold aG.bj;rw [oJ]
 have U:=List.countP_le_length (p:=fun e=>decide (e<=(p:Int))) (l:=s.R .be);have:=g.Jf;have:=g.xh;have:=g.d7;omega
theorem iP {r:Int} {y:Pt} (h1:y≠ .va) (I:y≠ .le) (O:y≠ .re) (J:y≠ .tr):(s.put l r).R y=s.R y:=by
 unfold aG.put;rw [ak J,ak O,ak I,ak h1]
theorem oe {r:Int}:(s.put l r).R .tr=s.R .tr++ [l]:=by unfold aG.put;rw [aK]
theorem AT {r:Int}:(s.put l r).R .va=(s.R .va).set (aX l).toNat (if l<0 then -1 else 1):=by
 unfold aG.put;rw [ak (by simp),ak (by simp),ak (by simp),aK]
theorem FQ {r:Int}:(s.put l r).R .le=(s.R .le).set (aX l).toNat (s.R .be).length:=by
 unfold aG.put;rw [ak (by simp),ak (by simp),aK]
theorem Ge {r:Int}:(s.put l r).R .re=(s.R .re).set (aX l).toNat r:=by
 unfold aG.put;rw [ak (by simp),aK]
theorem HC (g:(s.R .va).length=s.vars+1) {r:Int} (hl:dR s.vars l) (J:dR s.vars y):(s.put l r).val y=if aX y=aX l then (if y=l then 1 else -1) else s.val y:=by
 have a1:=hl.aX;have a2:=J.aX;obtain ⟨Q,_,_⟩:=J;obtain ⟨l0,_,_⟩:=hl;unfold aG.val;rw [AT];by_cases e:y<0
 . have O:aX y= -y:=by unfold aX;rw [if_pos e]
   rw [if_pos e,if_pos e,iO (by omega)];by_cases I:aX y=aX l
   . rw [if_pos (show (-y).toNat=(aX l).toNat by omega),if_pos I];unfold aX at I;rw [if_pos e] at I;split at I
     . rename_i h;rw [if_pos h,if_pos (by omega)];rfl
     . rename_i h;rw [if_neg h,if_neg (by omega)]
   . rw [if_neg (show ¬(-y).toNat=(aX l).toNat by omega),if_neg I]
 . have O:aX y=y:=by unfold aX;rw [if_neg e]
   rw [if_neg e,if_neg e,iO (by omega)];by_cases I:aX y=aX l
   . rw [if_pos (show y.toNat=(aX l).toNat by omega),if_pos I];unfold aX at I;rw [if_neg e] at I;split at I
     . rename_i h;rw [if_pos h,if_neg (by omega)]
     . rename_i h;rw [if_neg h,if_pos (by omega)]
   . rw [if_neg (show ¬y.toNat=(aX l).toNat by omega),if_neg I]
theorem bE {l:List Int} {p:Nat} (h:p<l.length):l.getD p 0∈l:=by simp [List.getD,h]
theorem bA {l m:List Int} {p:Nat} (h:p<l.length):(l++m).getD p 0=l.getD p 0:=by
 simp only [List.getD_eq_getElem?_getD];rw [List.getElem?_append_left h]
theorem cz {l:List Int} {x:Int}:(l++ [x]).getD l.length 0=x:=by simp [List.getD]
end
section
variable {s t u:aG} {l x y:Int}
theorem AY {l:List Int} {p:Int->Bool} (h: ∀x∈l,p x=true):l.countP p=l.length:=List.countP_eq_length.2 h
theorem ul (g:aM s) (hl:dR s.vars l) (h0:s.val l=0) (ht: ∀y,y≠ .be->y≠ .ds->t.R y=s.R y) (hv:t.vars=s.vars) (hn:t.nc=s.nc) (hg:t.gone=s.gone) (hd:t.done=s.done) {r:Int}
 (hb:(t.R .be=s.R .be/\t.R .ds=s.R .ds/\∃i:Nat,r=i/\s.aQ i/\l∈s.R (.l i)/\∀x∈s.R (.l i),x≠l-> -x∈s.R .tr)\/(t.R .be=s.R .be++ [((s.R .tr).length:Int)]/\t.R .ds=s.R .ds++ [(s.done:Int)]/\r= -1)):
 aM (t.put l r):=by
 have eR: ∀y,y≠ .va->y≠ .le->y≠ .re->y≠ .tr->y≠ .be->y≠ .ds->(t.put l r).R y=s.R y:=fun y a1 a2 a3 a4 a5 a6=>by rw [iP a1 a2 a3 a4,ht y a5 a6]
 have U:(t.put l r).R .tr=s.R .tr++ [l]:=by rw [oe,ht _ (by simp) (by simp)]
 have V:(t.put l r).R .be=t.R .be:=iP (by simp) (by simp) (by simp) (by simp);have av:(t.put l r).R .ds=t.R .ds:=iP (by simp) (by simp) (by simp) (by simp);have Z: ∀i,(t.put l r).R (.l i)=s.R (.l i):=fun i=>eR _ (by simp) (by simp) (by simp) (by simp) (by simp) (by simp);have ea: ∀i,(t.put l r).R (.a i)=s.R (.a i):=fun i=>eR _ (by simp) (by simp) (by simp) (by simp) (by simp) (by simp);have ew: ∀i,(t.put l r).R (.w i)=s.R (.w i):=fun i=>eR _ (by simp) (by simp) (by simp) (by simp) (by simp) (by simp);have ac:(t.put l r).R .lo=s.R .lo:=eR _ (by simp) (by simp) (by simp) (by simp) (by simp) (by simp);have O: ∀i,(t.put l r).aQ i↔s.aQ i:=fun i=>by show (i<t.nc/\t.gone i=false)↔_;rw [hn,hg];exact Iff.rfl
 have X:(t.put l r).vars=s.vars:=hv;have b9:=hl.aX;have az:(t.R .va).length=t.vars+1:=by rw [ht _ (by simp) (by simp),hv];exact g.va
 have eval: ∀y,dR s.vars y->(t.put l r).val y=if aX y=aX l then (if y=l then 1 else -1) else s.val y:=fun y hy=>by
  rw [HC az (by rw [hv];exact hl) (by rw [hv];exact hy),iI (s:=s) (ht _ (by simp) (by simp))]
 have aT:=(g.v0 hl).1 h0;have fr: ∀x∈s.R .tr,aX x≠aX l:=fun x I e=>by
  rcases xv e with rfl|rfl
  . exact aT.1 I
  . exact aT.2 I
 have a7: ∀x,(t.put l r).bj x=if (aX x).toNat=(aX l).toNat then ((t.R .be).length:Int) else s.bj x:=fun x=>by
  unfold aG.bj;rw [FQ,ht .le (by simp) (by simp),iO (by rw [g.le];omega)]
 have an: ∀x,(t.put l r).j8 x=if (aX x).toNat=(aX l).toNat then r else s.j8 x:=fun x=>by
  unfold aG.j8;rw [Ge,ht .re (by simp) (by simp),iO (by rw [g.rl];omega)]
 have qT: ∀p,p< (s.R .tr).length->¬(aX ((s.R .tr).getD p 0)).toNat=(aX l).toNat:=fun p hp e=>by
  have:=g.tv _ (bE hp);have h2:=this.aX;exact fr _ (bE hp) (by omega)
 have b6:(t.R .be).length<=(s.R .be).length+1:=by rcases hb with ⟨e,_⟩| ⟨e,_⟩<;>rw [e]<;>simp
 have ar: ∀ {i D:Nat} {T T':List Int},W1 s i D T->D<=(s.R .tr).length->(∀y∈T,y∈T')->W1 (t.put l r) i D T':=fun {i D T T'} h hD hT x I y hy aa hm=>by
  rw [Z] at I hy;rw [U,List.take_append_of_le_length hD] at hm;exact hT y (h x I y hy aa hm)
 refine ⟨by rw [X];exact g.d7,by show t.nc<=_;rw [hn];exact g.G1,by rw [AT,List.length_set,X,az,hv],?_,by rw [FQ,List.length_set,X,ht _ (by simp) (by simp)];exact g.le,by rw [Ge,List.length_set,X,ht _ (by simp) (by simp)];exact g.rl,
  ?_,?_,?_,?_,?_,?_,?_,?_,?_,?_,?_,?_,?_,?_,?_,?_,?_,?_,?_,?_,?_,?_,?_,?_⟩
 . intro i;rw [AT,ht _ (by simp) (by simp)];rw [iO (by rw [g.va];omega)];split
   . split<;>simp
   . exact g.vb i
 . intro x I;rw [U,List.mem_append,List.mem_singleton] at I;rw [X];rcases I with I|rfl
   . exact g.tv x I
   . exact hl
 . rw [U,List.map_append,List.nodup_append];refine ⟨g.nd,by simp,fun a ha c hc e=> ?_⟩;obtain ⟨x,I,rfl⟩:=List.mem_map.1 ha;simp at hc;rw [hc] at e;exact fr x I e
 . intro x I;rw [X] at I;rw [eval x I,U,List.mem_append,List.mem_singleton];by_cases e:aX x=aX l
   . rw [if_pos e];by_cases Q:x=l
     . rw [if_pos Q];simp [Q]
     . rw [if_neg Q];constructor
       . intro h;omega
       . rintro (h|h)
         . exact absurd e (fr x h)
         . exact absurd h Q
   . rw [if_neg e,g.v1 x I];constructor
     . intro h;exact .inl h
     . rintro (h|h)
       . exact h
       . rw [h] at e;exact absurd rfl e
 . intro j J;rw [V] at J ⊢;rw [U,List.length_append];rcases hb with ⟨e,_⟩| ⟨e,_⟩
   . rw [e] at J ⊢;have:=g.bl j J;simp only [List.length_cons,List.length_nil];omega
   . rw [e] at J ⊢;by_cases h:j< (s.R .be).length
     . rw [bA h];have:=g.bl j h;simp only [List.length_cons,List.length_nil];omega
     . have:j=(s.R .be).length:=by simp at J;omega
       rw [this,cz];simp;omega
 . intro i j a8 J;rw [V] at J ⊢;rcases hb with ⟨e,_⟩| ⟨e,_⟩
   . rw [e] at J ⊢;exact g.bs i j a8 J
   . rw [e] at J ⊢;by_cases h:j< (s.R .be).length
     . rw [bA h,bA (by omega)];exact g.bs i j a8 h
     . have:j=(s.R .be).length:=by simp at J;omega
       rw [this,cz,bA (by omega)];have:=g.bl i (by omega);omega
 . rw [V,av];rcases hb with ⟨e,Q,_⟩| ⟨e,Q,_⟩
   . rw [e,Q];exact g.dl
   . rw [e,Q];simp [g.dl]
 . intro j J;rw [V] at J ⊢;rw [av];have gl:=g.dl;rcases hb with ⟨e,Q,_⟩| ⟨e,Q,_⟩
   . rw [e] at J ⊢;rw [Q];exact g.db j J
   . rw [e] at J ⊢;rw [Q];by_cases h:j< (s.R .be).length
     . rw [bA h,bA (by omega)];exact g.db j h
     . have:j=(s.R .be).length:=by simp at J;omega
       rw [this,cz];rw [<- gl,cz];have:=g.dn;omega
 . intro p hp;rw [U] at hp ⊢;rw [V,a7];by_cases h:p< (s.R .tr).length
   . rw [bA h,if_neg (qT p h),g.lv p h];rcases hb with ⟨e,_⟩| ⟨e,_⟩
     . rw [e]
     . have e9: [((s.R .tr).length:Int)].countP (fun e=>decide (e<=(p:Int)))=0:=List.countP_eq_zero.2 fun x I=>by
        rw [List.mem_singleton] at I;rw [decide_eq_true_eq];omega
       rw [e,List.countP_append,e9,Nat.add_zero]
   . have Y:p=(s.R .tr).length:=by simp at hp;omega
     rw [Y,cz,if_pos rfl,AY];intro x I;rw [decide_eq_true_eq];have key: ∀x∈s.R .be,x< ((s.R .tr).length:Int):=fun x I=>by
      obtain ⟨j,J,e⟩:=List.mem_iff_getElem.1 I;have:=(g.bl j J).2;simp only [List.getD,List.getElem?_eq_getElem J,Option.getD_some,e] at this;exact this
     rcases hb with ⟨e,_⟩| ⟨e,_⟩
     . rw [e] at I;have:=key x I;omega
     . rw [e,List.mem_append,List.mem_singleton] at I;rcases I with I|rfl
       . have:=key x I;omega
       . exact Int.le_refl _
 . intro p hp hm;rw [U] at hp ⊢;rw [V] at hm;rw [an];by_cases h:p< (s.R .tr).length
   . rw [bA h,if_neg (qT p h)];refine g.Kx p h ?_;rcases hb with ⟨e,_⟩| ⟨e,_⟩
     . rw [e] at hm;exact hm
     . rw [e,List.mem_append,List.mem_singleton] at hm;rcases hm with hm|hm
       . exact hm
       . omega
   . have Y:p=(s.R .tr).length:=by simp at hp;omega
     rw [Y,cz,if_pos rfl];rw [Y] at hm;rcases hb with ⟨e,_⟩| ⟨e,_,e3⟩
     . exfalso;rw [e] at hm;obtain ⟨j,J,e⟩:=List.mem_iff_getElem.1 hm;have:=(g.bl j J).2;simp only [List.getD,List.getElem?_eq_getElem J,Option.getD_some,e] at this;omega
     . exact e3
 . intro p hp hm;rw [U] at hp ⊢;rw [V] at hm;rw [an];by_cases h:p< (s.R .tr).length
   . rw [bA h,if_neg (qT p h)];have bx:(p:Int) ∉ s.R .be:=by
      rcases hb with ⟨e,_⟩| ⟨e,_⟩
      . rw [e] at hm;exact hm
      . rw [e] at hm;exact fun h2=>hm (List.mem_append_left _ h2)
     obtain ⟨i,e1,Q,e3,e4⟩:=g.IZ p h bx;refine ⟨i,e1,(O i).2 Q,by rw [Z];exact e3,fun x I aa=> ?_⟩;rw [Z] at I;rw [List.take_append_of_le_length (by omega)];exact e4 x I aa
   . have Y:p=(s.R .tr).length:=by simp at hp;omega
     rw [Y,cz,if_pos rfl];rw [Y] at hm;rcases hb with ⟨e,_,i,e1,Q,e3,e4⟩| ⟨e,_⟩
     . refine ⟨i,e1,(O i).2 Q,by rw [Z];exact e3,fun x I aa=> ?_⟩;rw [Z] at I;rw [List.take_append_of_le_length (Nat.le_refl _),List.take_length];exact e4 x I aa
     . rw [e] at hm;exact absurd (List.mem_append_right _ (by simp)) hm
 . show t.done<=_;rw [hd,U,List.length_append];have:=g.dn;omega
 . intro i hi x I;rw [Z] at I;rw [X];exact g.cv i ((O i).1 hi) x I
 . intro i hi;rw [Z];exact g.cn i ((O i).1 hi)
 . intro i hi;rw [Z];exact g.cl i ((O i).1 hi)
 . intro i hi;rw [Z,ea];exact g.ca i ((O i).1 hi)
 . intro i;rw [ea];exact g.al i
 . intro j c hc;rw [ew] at hc;obtain ⟨i,e1,Q,e3⟩:=g.w1 j c hc;exact ⟨i,e1,(O i).2 Q,by rw [Z];exact e3⟩
 . intro i hi x I;rw [Z] at I;rw [ew];exact g.w2 i ((O i).1 hi) x I
 . intro j;rw [ew];exact g.w3 j
 . intro c hc;rw [ac] at hc;obtain ⟨i,e1,Q⟩:=g.o1 c hc;exact ⟨i,e1,(O i).2 Q⟩
 . intro i hi h;rw [Z] at h;rw [ac];exact g.o2 i ((O i).1 hi) h
 . rw [ac];exact g.o3
 . intro i hi h;rw [ac] at h;show W1 (t.put l r) i t.done _;rw [hd,U];exact ar (g.wd i ((O i).1 hi) h) g.dn fun y hy=>List.mem_append_left _ hy
 . intro j J i hi h;rw [ac] at h;rw [V] at J ⊢;rw [av,U];have gl:=g.dl;have a_: ∀j,j< (s.R .be).length->W1 (t.put l r) i ((s.R .ds).getD j 0).toNat ((s.R .tr++ [l]).take ((s.R .be).getD j 0).toNat):=fun j J=>by
    have h1:=g.bl j J;have h2:=g.db j J;rw [List.take_append_of_le_length (by omega)];exact ar (g.wj j J i ((O i).1 hi) h) (by omega) fun y hy=>hy
   rcases hb with ⟨e,Q,_⟩| ⟨e,Q,_⟩
   . rw [e] at J ⊢;rw [Q];exact a_ j J
   . rw [e] at J ⊢;rw [Q];by_cases h2:j< (s.R .be).length
     . rw [bA h2,bA (by omega)];exact a_ j h2
     . have:j=(s.R .be).length:=by simp at J;omega
       rw [this,cz,<- gl,cz,Int.toNat_natCast,Int.toNat_natCast,List.take_append_of_le_length (Nat.le_refl _),List.take_length];exact ar (g.wd i ((O i).1 hi) h) g.dn fun y hy=>hy
end
section
variable {s t u:aG} {l x y:Int}
theorem kj (h:aA x=aA y):x=y:=by
 unfold aA at h;split at h<;>split at h<;>omega
theorem gR {l:List Int}:x∈l.take 2↔(0<l.length/\x=l.getD 0 0)\/(1<l.length/\x=l.getD 1 0):=by
 match l with
 | []=>simp
 | [a]=>simp [List.getD]
 |a::b::r=>simp [List.getD]
theorem mQ (g:aM s) (hs: ∀y,(∀i,y≠Pt.l i)->(∀j,y≠Pt.w j)->y≠ .lo->t.R y=s.R y) (hv:t.vars=s.vars) (hn:t.nc=s.nc) (hg:t.gone=s.gone) (hd:t.done=s.done)
 (pm: ∀i,s.aQ i->(t.R (.l i)).Perm (s.R (.l i)))
 (wm: ∀j c,c∈t.R (.w j)↔∃i:Nat,c=i/\s.aQ i/\∃x∈(t.R (.l i)).take 2,aA x=j) (wn: ∀j,(t.R (.w j)).Nodup)
 (o1: ∀c∈t.R .lo,∃i:Nat,c=i/\s.aQ i) (o2: ∀i,s.aQ i->(s.R (.l i)).length<2->(i:Int)∈t.R .lo) (o3:(t.R .lo).Nodup)
 (wz: ∀i,s.aQ i->(i:Int) ∉ t.R .lo->((i:Int) ∉ s.R .lo/\∀x,x∈(t.R (.l i)).take 2↔x∈(s.R (.l i)).take 2)\/
   ∀x∈(t.R (.l i)).take 2,-x ∉ (s.R .tr).take s.done/\∀j,j< (s.R .be).length-> -x ∉ (s.R .tr).take ((s.R .ds).getD j 0).toNat):aM t:=by
 have e: ∀y,(∀i,y≠Pt.l i)->(∀j,y≠Pt.w j)->y≠ .lo->t.R y=s.R y:=hs;have J:t.R .tr=s.R .tr:=e _ (by simp) (by simp) (by simp);have O:t.R .be=s.R .be:=e _ (by simp) (by simp) (by simp);have Y:t.R .ds=s.R .ds:=e _ (by simp) (by simp) (by simp);have Z:t.R .va=s.R .va:=e _ (by simp) (by simp) (by simp);have an:t.R .le=s.R .le:=e _ (by simp) (by simp) (by simp);have ap:t.R .re=s.R .re:=e _ (by simp) (by simp) (by simp);have ea: ∀i,t.R (.a i)=s.R (.a i):=fun i=>e _ (by simp) (by simp) (by simp);have I: ∀i,t.aQ i↔s.aQ i:=fun i=>by show (i<t.nc/\t.gone i=false)↔_;rw [hn,hg];exact Iff.rfl
 have ev: ∀x,t.val x=s.val x:=fun x=>iI Z x;have ac: ∀x,t.bj x=s.bj x:=fun x=>by unfold aG.bj;rw [an]
 have V: ∀x,t.j8 x=s.j8 x:=fun x=>by unfold aG.j8;rw [ap]
 refine ⟨by rw [hv];exact g.d7,by rw [hn];exact g.G1,by rw [Z,hv];exact g.va,by rw [Z];exact g.vb,by rw [an,hv];exact g.le,by rw [ap,hv];exact g.rl,by rw [J,hv];exact g.tv,by rw [J];exact g.nd,fun x Q=>by rw [ev,J];exact g.v1 x (by rw [hv] at Q;exact Q),
  by rw [O,J];exact g.bl,by rw [O];exact g.bs,by rw [Y,O];exact g.dl,by rw [O,Y];exact g.db,fun p hp=>by rw [J] at hp ⊢;rw [ac,O];exact g.lv p hp,fun p hp hm=>by rw [J] at hp ⊢;rw [V];rw [O] at hm;exact g.Kx p hp hm,
  fun p hp hm=> ?_,by rw [hd,J];exact g.dn,fun i hi x Q=>by rw [hv];exact g.cv i ((I i).1 hi) x ((pm i ((I i).1 hi)).mem_iff.1 Q),fun i hi=> (pm i ((I i).1 hi)).nodup_iff.2 (g.cn i ((I i).1 hi)),
  fun i hi=>by rw [(pm i ((I i).1 hi)).length_eq];exact g.cl i ((I i).1 hi),fun i hi x=>by rw [(pm i ((I i).1 hi)).mem_iff,ea];exact g.ca i ((I i).1 hi) x,fun i=>by rw [ea];exact g.al i,
  fun j c hc=> ?_,fun i hi x Q=> ?_,wn,fun c hc=> ?_,fun i hi h=> ?_,o3,fun i hi h=> ?_,fun j hj i hi h=> ?_⟩
 . rw [J] at hp ⊢;rw [O] at hm;obtain ⟨i,e1,X,e3,e4⟩:=g.IZ p hp hm;exact ⟨i,by rw [V];exact e1,(I i).2 X,(pm i X).mem_iff.2 e3,fun x Q U=>e4 x ((pm i X).mem_iff.1 Q) U⟩
 . obtain ⟨i,e1,X,e3⟩:=(wm j c).1 hc;exact ⟨i,e1,(I i).2 X,e3⟩
 . exact (wm _ _).2 ⟨i,rfl,(I i).1 hi,x,Q,rfl⟩
 . obtain ⟨i,e1,X⟩:=o1 c hc;exact ⟨i,e1,(I i).2 X⟩
 . rw [(pm i ((I i).1 hi)).length_eq] at h;exact o2 i ((I i).1 hi) h
 . intro x Q y hy U hm;rw [J,hd] at hm;rw [J];rcases wz i ((I i).1 hi) h with ⟨h1,h2⟩|h1
   . exact g.wd i ((I i).1 hi) h1 x ((h2 x).1 Q) y ((h2 y).1 hy) U hm
   . exact absurd hm (h1 x Q).1
 . intro x Q y hy U hm;rw [O] at hj;rw [J,Y] at hm;rw [J,O];rcases wz i ((I i).1 hi) h with ⟨h1,h2⟩|h1
   . exact g.wj j hj i ((I i).1 hi) h1 x ((h2 x).1 Q) y ((h2 y).1 hy) U hm
   . exact absurd hm ((h1 x Q).2 j hj)
theorem aM.wm (g:aM s) (j:Nat) (c:Int):c∈s.R (.w j)↔∃i:Nat,c=i/\s.aQ i/\∃x∈(s.R (.l i)).take 2,aA x=j:=
 ⟨g.w1 j c,fun ⟨i,J,I,x,O,Q⟩=>by subst J Q;exact g.w2 i I x O⟩
theorem sP (i:Int) (j:Nat) (c:Int): ∀ (J:List Int) (t:aG),c∈(lg i t J).R (.w j)↔c∈t.R (.w j)/\(c≠i\/∀x∈J,aA x≠j)
 | [],t=>by simp [lg]
 |z::J,t=>by
  show c∈(lg i (t.set (.w (aA z)) ((t.R (.w (aA z))).filter fun k=> !(k==i))) J).R (.w j)↔_;rw [sP i j c J];by_cases e:aA z=j
  . subst e;rw [aK,List.mem_filter];simp only [List.mem_cons,Bool.not_eq_true',beq_eq_false_iff_ne,ne_eq];constructor
    . rintro ⟨⟨h1,I⟩,_⟩;exact ⟨h1,.inl I⟩
    . rintro ⟨h1,I|I⟩
      . exact ⟨⟨h1,I⟩,.inl I⟩
      . exact absurd rfl (I z (.inl rfl))
  . rw [ak (fun h=>e (by injection h with h;exact h.symm))];simp only [List.mem_cons,ne_eq];constructor
    . rintro ⟨h1,I|I⟩
      . exact ⟨h1,.inl I⟩
      . refine ⟨h1,.inr fun x O=> ?_⟩;rcases O with rfl|O
        . exact e
        . exact I x O
    . rintro ⟨h1,I|I⟩
      . exact ⟨h1,.inl I⟩
      . exact ⟨h1,.inr fun x O=>I x (.inr O)⟩
theorem qR (i:Int) (j:Nat): ∀ (I:List Int) (t:aG),(t.R (.w j)).Nodup->((lg i t I).R (.w j)).Nodup
 | [],_,h=>h
 |z::I,t,h=>by
  refine qR i j I _ ?_;by_cases e:aA z=j
  . subst e;rw [aK];exact h.filter _
  . rw [ak (fun h=>e (by injection h with h;exact h.symm))];exact h
theorem A_ (i:Int) (j:Nat) (c:Int): ∀ (O:List Int) (t:aG),c∈(wF i t O).R (.w j)↔c∈t.R (.w j)\/(c=i/\∃x∈O,aA x=j)
 | [],t=>by simp [wF]
 |z::O,t=>by
  show c∈(wF i (t.set (.w (aA z)) (t.R (.w (aA z))++ [i])) O).R (.w j)↔_;rw [A_ i j c O];by_cases e:aA z=j
  . subst e;rw [aK,List.mem_append,List.mem_singleton];constructor
    . rintro ((h|h)| ⟨h,x,J,I⟩)
      . exact .inl h
      . exact .inr ⟨h,z,List.mem_cons_self ..,rfl⟩
      . exact .inr ⟨h,x,List.mem_cons_of_mem _ J,I⟩
    . rintro (h| ⟨h,_⟩)
      . exact .inl (.inl h)
      . exact .inl (.inr h)
  . rw [ak (fun h=>e (by injection h with h;exact h.symm))];constructor
    . rintro (h| ⟨h,x,J,I⟩)
      . exact .inl h
      . exact .inr ⟨h,x,List.mem_cons_of_mem _ J,I⟩
    . rintro (h| ⟨h,x,J,I⟩)
      . exact .inl h
      . rcases List.mem_cons.1 J with rfl|J
        . exact absurd I e
        . exact .inr ⟨h,x,J,I⟩
theorem pF {l:List Int} {a:Int} (h:l.Nodup) (ha:a ∉ l):(l++ [a]).Nodup:=by
 rw [List.nodup_append];refine ⟨h,by simp,fun x I y J e=> ?_⟩;rw [List.mem_singleton] at J;rw [e,J] at I;exact ha I
theorem qk (i:Int) (j:Nat): ∀ (O:List Int) (t:aG),O.Nodup->(t.R (.w j)).Nodup->((∃x∈O,aA x=j)->i ∉ t.R (.w j))->((wF i t O).R (.w j)).Nodup
 | [],_,_,h,_=>h
 |z::O,t,hx,h,hi=>by
  obtain ⟨U,Q⟩:=List.nodup_cons.1 hx;by_cases e:aA z=j
  . subst e;refine qk i _ O _ Q ?_ ?_
    . rw [aK];exact pF h (hi ⟨z,List.mem_cons_self ..,rfl⟩)
    . rintro ⟨x,I,J⟩;rw [kj J] at I;exact absurd I U
  . refine qk i j O _ Q ?_ ?_
    . rw [ak (fun h=>e (by injection h with h;exact h.symm))];exact h
    . rintro ⟨x,I,J⟩;rw [ak (fun h=>e (by injection h with h;exact h.symm))];exact hi ⟨x,List.mem_cons_of_mem _ I,J⟩
theorem rU {l:List Int} (h:l.Nodup):(l.take 2).Nodup:=(List.take_sublist 2 l).nodup h
end
section
variable {s t u s':aG} {l x y:Int} {i:Nat}
structure iq (s s':aG):Prop where
 v:s'.vars=s.vars
 n:s'.nc=s.nc
 g:s'.gone=s.gone
 a: ∀i,s'.R (.a i)=s.R (.a i)
 be:s'.R .be=s.R .be
 ds:s'.R .ds=s.R .ds
 tr: ∃e,s'.R .tr=s.R .tr++e
theorem iq.refl (s:aG):iq s s:=⟨rfl,rfl,rfl,fun _=>rfl,rfl,rfl,[],by simp⟩
theorem iq.trans (h:iq s t) (k:iq t u):iq s u:=by
 obtain ⟨e,he⟩:=h.tr;obtain ⟨J,I⟩:=k.tr;exact ⟨k.v.trans h.v,k.n.trans h.n,k.g.trans h.g,fun i=> (k.a i).trans (h.a i),k.be.trans h.be,k.ds.trans h.ds,e++J,by rw [I,he,List.append_assoc]⟩
theorem iq.mem (h:iq s t) (I:x∈s.R .tr):x∈t.R .tr:=by
 obtain ⟨e,he⟩:=h.tr;rw [he];exact List.mem_append_left _ I
theorem iq.mB (h:iq s t):t.aQ i↔s.aQ i:=by
 show (i<t.nc/\t.gone i=false)↔_;rw [h.n,h.g];exact Iff.rfl
theorem iq.set {x:Pt} (h1: ∀i,x≠ .a i) (I:x≠ .be) (O:x≠ .ds) (J:x≠ .tr) {l:List Int}:iq s (s.set x l):=
 ⟨rfl,rfl,rfl,fun i=>ak (fun e=>h1 i e.symm),ak (Ne.symm I),ak (Ne.symm O),[],by rw [ak (Ne.symm J)];simp⟩
theorem iq.put {r:Int}:iq s (s.put l r):=
 ⟨rfl,rfl,rfl,fun _=>iP (by simp) (by simp) (by simp) (by simp),iP (by simp) (by simp) (by simp) (by simp),iP (by simp) (by simp) (by simp) (by simp),[l],oe⟩
theorem iq.wF {c:Int} {I:List Int}:iq s (wF c s I):=by
 obtain ⟨h1,J,O,_⟩:=mZ c I s;exact ⟨h1,J,O,fun _=>nZ c (by simp) _ _,nZ c (by simp) _ _,nZ c (by simp) _ _,[],by rw [nZ c (by simp)];simp⟩
theorem iq.lg {c:Int} {I:List Int}:iq s (lg c s I):=by
 obtain ⟨h1,J,O,_⟩:=iw c I s;exact ⟨h1,J,O,fun _=>ij c (by simp) _ _,ij c (by simp) _ _,ij c (by simp) _ _,[],by rw [ij c (by simp)];simp⟩
theorem rL {l:List Int} {f:Int}:x∈(iX l f).take 2↔x∈l.take 2:=by
 unfold iX;split
 . rename_i h;rw [gR,gR,qy,jV (by omega) h.2,jV (by omega) h.2];simp only [if_pos,if_neg (show (0:Nat)≠1 by omega),if_neg (show (1:Nat)≠0 by omega)];constructor
   . rintro (⟨a,b⟩| ⟨a,b⟩)
     . exact .inr ⟨h.2,b⟩
     . exact .inl ⟨by omega,b⟩
   . rintro (⟨a,b⟩| ⟨a,b⟩)
     . exact .inr ⟨h.2,b⟩
     . exact .inl ⟨by omega,b⟩
 . exact Iff.rfl
theorem Dl {l:List Int} {f:Int} (I:2<=l.length) (hf:f∈l.take 2):(iX l f).getD 1 0=f:=by
 unfold iX;rcases gR.1 hf with ⟨_,e⟩| ⟨_,e⟩
 . rw [if_pos ⟨e.symm,by omega⟩,jV (by omega) (by omega),if_pos rfl,e]
 . split
   . rename_i h;rw [jV (by omega) (by omega),if_pos rfl,h.1]
   . exact e.symm
theorem Be (g:aM s) (i:Nat) (f:Int):aM (s.set (.l i) (iX (s.R (.l i)) f)):=by
 have V: ∀k,(s.set (.l i) (iX (s.R (.l i)) f)).R (.l k)=if k=i then iX (s.R (.l i)) f else s.R (.l k):=fun k=>by
  by_cases e:k=i
  . rw [if_pos e,e,aK]
  . rw [if_neg e,ak (by simpa using e)]
 have J: ∀k x,x∈((s.set (.l i) (iX (s.R (.l i)) f)).R (.l k)).take 2↔x∈(s.R (.l k)).take 2:=fun k x=>by
  rw [V];split
  . rename_i e;rw [e];exact rL
  . exact Iff.rfl
 refine mQ g (fun y h1 _ _=>ak (h1 i)) rfl rfl rfl rfl (fun k _=> ?_) (fun j c=> ?_) (fun j=>by rw [ak (by simp)];exact g.w3 j) (by rw [ak (by simp)];exact g.o1) (by rw [ak (by simp)];exact g.o2) (by rw [ak (by simp)];exact g.o3)
  (fun k _ h=> .inl ⟨by rw [ak (by simp)] at h;exact h,J k⟩)
 . rw [V];split
   . rename_i e;rw [e];exact m9 _ _
   . exact List.Perm.refl _
 . rw [ak (by simp),g.wm];constructor
   . rintro ⟨k,O,I,x,Q,U⟩;exact ⟨k,O,I,x,(J k x).2 Q,U⟩
   . rintro ⟨k,O,I,x,Q,U⟩;exact ⟨k,O,I,x,(J k x).1 Q,U⟩
def Pg (s:aG) (i:Nat):Prop:=(i:Int) ∉ s.R .lo->W1 s i (s.done+1) (s.R .tr)
theorem iY {l:List Int} {n:Nat} (h:n<l.length):x∈l.take (n+1)↔x∈l.take n\/x=l.getD n 0:=fm h
theorem Jw {r:Int} (h:Pg s i) (U:s.done< (s.R .tr).length):Pg (s.put l r) i:=by
 intro I x O y Q J hm;rw [iP (by simp) (by simp) (by simp) (by simp)] at I O Q;rw [oe] at hm ⊢;have hm: -x∈(s.R .tr++ [l]).take (s.done+1):=hm;rw [List.take_append_of_le_length (show s.done+1<=_ from U)] at hm;exact List.mem_append_left _ (h I x O y Q J hm)
theorem t6 (g:aM s) (hi:s.aQ i) (h2:2<=(s.R (.l i)).length) {f:Int} (hf:f∈(s.R (.l i)).take 2) (hd:s.done< (s.R .tr).length) (hp:(s.R .tr).getD s.done 0= -f) {st br:Bool} (V:qV s i (iX (s.R (.l i)) f) s' st br)
 {r:List Int} (cT:st=true->r=s.R (.w (aA f))) (ce:st=false->(∀c,c∈r↔c∈s.R (.w (aA f))/\c≠(i:Int))/\r.Nodup):
 aM (s'.set (.w (aA f)) r)/\(br=false->Pg (s'.set (.w (aA f)) r) i)/\(∀k,k≠i->Pg s k->Pg (s'.set (.w (aA f)) r) k)/\iq s (s'.set (.w (aA f)) r)/\(br=true->∀x∈s.R (.l i),-x∈s.R .tr)/\
  s'.R .lo=s.R .lo/\s'.done=s.done/\(∀j,j≠aA f->∀c,c∈s.R (.w j)->c∈s'.R (.w j))/\(∀k,k≠i->s'.R (.l k)=s.R (.l k))/\(∀x,x∈s'.R (.l i)↔x∈s.R (.l i)):=by
 have cm:f∈s.R (.l i):=List.mem_of_mem_take hf;have c0:=g.cv i hi f cm;have ay: -f∈s.R .tr:=by rw [<- hp];exact bE hd
 have cb:f ∉ s.R .tr:=fun e=>g.cons e ay;have aw:=Dl h2 hf;have c7:=xg (s.R (.l i)) f;have U:=m9 (s.R (.l i)) f;have av: ∀x,x∈(iX (s.R (.l i)) f).take 2↔x∈(s.R (.l i)).take 2:=fun x=>rL;have gm:=Be g i f;generalize iX (s.R (.l i)) f=m at*
 have bk:m.Nodup:=U.nodup_iff.2 (g.cn i hi);have a_:m.getD 0 0≠f:=fun e=>by
  have:=(List.getElem_inj (h₀:=show 0<m.length by omega) (h₁:=show 1<m.length by omega) bk).1 (by
   have e0:m.getD 0 0=m[0]:=by simp [List.getD,show 0<m.length by omega]
   have Z:m.getD 1 0=m[1]:=by simp [List.getD,show 1<m.length by omega]
   rw [<- e0,<- Z,e,aw])
  omega
 have bv:m.getD 0 0∈m:=bE (by omega);have bY:dR s.vars (m.getD 0 0):=g.cv i hi _ (U.mem_iff.1 bv);have same:st=true->s'.R (.w (aA f))=s.R (.w (aA f))->s'.set (.w (aA f)) r=s':=fun h e=>by rw [cT h,<- e,eJ]
 have tm: ∀x,x∈m.take 2↔x=m.getD 0 0\/x=f:=fun x=>by
  rw [gR,aw];exact ⟨fun h=>h.elim (fun h=> .inl h.2) fun h=> .inr h.2,fun h=>h.elim (fun h=> .inl ⟨by omega,h⟩) fun h=> .inr ⟨by omega,h⟩⟩
 have ac: ∀k,k≠i->Pg s k->Pg (s.set (.l i) m) k:=fun k hk h J x I y hy O hm=>by
  rw [ak (by simp)] at J;rw [ak (by simpa using hk)] at I hy;rw [ak (by simp)] at hm ⊢;exact h J x I y hy O hm
 cases V with
 |K9 h=>
  have e:(s.set (.l i) m).R (.w (aA f))=s.R (.w (aA f)):=ak (by simp);rw [same rfl e];have an:=(g.MU bY).1 h;refine ⟨gm,fun _ J x I y hy O hm=> ?_,ac,iq.set (by simp) (by simp) (by simp) (by simp),fun h=> (by cases h),ak (by simp),rfl,fun j _ c hc=> (by rw [ak (by simp)];exact hc),fun k hk=>ak (by simpa using hk),fun x=>by rw [aK];exact U.mem_iff⟩;rw [aK] at I hy;rw [ak (by simp)] at hm ⊢;rcases (tm x).1 I with rfl|rfl
  . exact absurd (List.mem_of_mem_take hm) (g.cons an)
  . rcases (tm y).1 hy with rfl|rfl
    . exact an
    . exact absurd rfl O
 |mW h ag=>
  have e:(s.set (.l i) m).R (.w (aA f))=s.R (.w (aA f)):=ak (by simp);rw [same rfl e];refine ⟨gm,fun h=> (by cases h),ac,iq.set (by simp) (by simp) (by simp) (by simp),fun _ x I=> ?_,ak (by simp),rfl,fun j _ c hc=> (by rw [ak (by simp)];exact hc),fun k hk=>ak (by simpa using hk),fun x=>by rw [aK];exact U.mem_iff⟩;have b7:=U.mem_iff.2 I;obtain ⟨j,hj,e⟩:=List.mem_iff_getElem.1 b7;have X:m.getD j 0=x:=by simp [List.getD,hj,e]
  have ax:=g.cv i hi x I
  match j,X with
  |0,X=>rw [X] at h;exact (g.Fc ax).1 h
  |1,X=>rw [aw] at X;rw [<- X];exact ay
  |j+2,X=>have:=ag (j+2) (by omega) hj;rw [X] at this;exact (g.Fc ax).1 this
 |unit h ag=>
  have e:((s.set (.l i) m).put (m.getD 0 0) i).R (.w (aA f))=s.R (.w (aA f)):=by rw [iP (by simp) (by simp) (by simp) (by simp),ak (by simp)]
  rw [same rfl e];have ev:(s.set (.l i) m).val (m.getD 0 0)=0:=by rw [iI (s:=s) (ak (by simp))];exact h
  have cg: ∀x∈m,x≠m.getD 0 0-> -x∈s.R .tr:=fun x I O=>by
   obtain ⟨j,hj,e⟩:=List.mem_iff_getElem.1 I;have X:m.getD j 0=x:=by simp [List.getD,hj,e]
   have ax:=g.cv i hi x (U.mem_iff.1 I)
   match j,X with
   |0,X=>exact absurd X.symm O
   |1,X=>rw [aw] at X;rw [<- X];exact ay
   |j+2,X=>have:=ag (j+2) (by omega) hj;rw [X] at this;exact (g.Fc ax).1 this
  have gp:aM ((s.set (.l i) m).put (m.getD 0 0) i):=ul gm bY ev (fun _ _ _=>rfl) rfl rfl rfl rfl (.inl ⟨rfl,rfl,i,rfl,hi,by rw [aK];exact bv,fun x I O=>by
   rw [aK] at I;rw [ak (by simp)];exact cg x I O⟩)
  have xt:iq s ((s.set (.l i) m).put (m.getD 0 0) i):=(iq.set (by simp) (by simp) (by simp) (by simp)).trans iq.put;refine ⟨gp,fun _ J x I y hy O hm=> ?_,fun k hk h=>Jw (ac k hk h) (by rw [ak (by simp)];exact hd),xt,fun h=> (by cases h),by rw [iP (by simp) (by simp) (by simp) (by simp),ak (by simp)],rfl,
   fun j _ c hc=> (by rw [iP (by simp) (by simp) (by simp) (by simp),ak (by simp)];exact hc),fun k hk=>by rw [iP (by simp) (by simp) (by simp) (by simp)];exact ak (by simpa using hk),fun x=>by rw [iP (by simp) (by simp) (by simp) (by simp),aK];exact U.mem_iff⟩
  rw [iP (by simp) (by simp) (by simp) (by simp),aK] at I hy;have an:m.getD 0 0∈((s.set (.l i) m).put (m.getD 0 0) i).R .tr:=by rw [oe];simp
  rcases (tm x).1 I with rfl|rfl
  . exact absurd (List.mem_of_mem_take hm) (gp.cons an)
  . rcases (tm y).1 hy with rfl|rfl
    . exact an
    . exact absurd rfl O
 |yW k hn k2 kl hk=>
  obtain ⟨hr,b9⟩:=ce rfl;have cp:m.getD k 0∈m:=bE kl;generalize hz:m.getD k 0=z at*
  have cc:=g.cv i hi z (U.mem_iff.1 cp);have bx:z≠f:=fun e=>by
   have:=(g.Fc c0).2 ay;rw [<- e] at this;omega
  have b8:z ∉ m.take 2:=fun e=>by
   rcases (tm z).1 e with e|e
   . have:=(List.getElem_inj (h₀:=show 0<m.length by omega) (h₁:=kl) bk).1 (by
      have e0:m.getD 0 0=m[0]:=by simp [List.getD,show 0<m.length by omega]
      have Z:m.getD k 0=m[k]:=by simp [List.getD,kl]
      rw [<- e0,<- Z,hz,e])
     omega
   . exact bx e
  have b':aA z≠aA f:=fun e=>bx (kj e);have t2: ∀x,x∈(qP m 1 k).take 2↔x=m.getD 0 0\/x=z:=fun x=>by
   have e0:(qP m 1 k).getD 0 0=m.getD 0 0:=by rw [jV (by omega) (by omega),if_neg (by omega),if_neg (by omega)]
   have Z:(qP m 1 k).getD 1 0=z:=by rw [jV (by omega) (by omega),if_neg (by omega),if_pos rfl,hz]
   rw [gR,qy,e0,Z];exact ⟨fun h=>h.elim (fun h=> .inl h.2) fun h=> .inr h.2,fun h=>h.elim (fun h=> .inl ⟨by omega,h⟩) fun h=> .inr ⟨by omega,h⟩⟩
  have b3:(qP m 1 k).Perm (s.R (.l i)):=(tU (by omega) kl).trans U;have a8: -z ∉ s.R .tr:=fun e=>by have:=(g.Fc cc).2 e;omega
  have Q: ∀y,(∀i,y≠Pt.l i)->(∀j,y≠Pt.w j)->(((s.set (.l i) (qP m 1 k)).set (.w (aA z)) (s.R (.w (aA z))++ [(i:Int)])).set (.w (aA f)) r).R y=s.R y:=fun y h1 h2=>by
   rw [ak (h2 _),ak (h2 _),ak (h1 _)]
  have el: ∀q,(((s.set (.l i) (qP m 1 k)).set (.w (aA z)) (s.R (.w (aA z))++ [(i:Int)])).set (.w (aA f)) r).R (.l q)=if q=i then qP m 1 k else s.R (.l q):=fun q=>by
   rw [ak (by simp),ak (by simp)];by_cases e:q=i
   . rw [if_pos e,e,aK]
   . rw [if_neg e,ak (by simpa using e)]
  have ew: ∀j c,c∈(((s.set (.l i) (qP m 1 k)).set (.w (aA z)) (s.R (.w (aA z))++ [(i:Int)])).set (.w (aA f)) r).R (.w j)↔(c∈s.R (.w j)/\(j=aA f->c≠(i:Int)))\/(j=aA z/\c=(i:Int)):=fun j c=>by
   by_cases e:j=aA f
   . subst e;rw [aK,hr];exact ⟨fun h=> .inl ⟨h.1,fun _=>h.2⟩,fun h=>h.elim (fun h=> ⟨h.1,h.2 rfl⟩) fun h=>absurd h.1.symm b'⟩
   . rw [ak (by simpa using e)];by_cases Y:j=aA z
     . subst Y;rw [aK,List.mem_append,List.mem_singleton];exact ⟨fun h=>h.elim (fun h=> .inl ⟨h,fun h=>absurd h e⟩) fun h=> .inr ⟨rfl,h⟩,fun h=>h.elim (fun h=> .inl h.1) fun h=> .inr h.2⟩
     . rw [ak (by simpa using Y),ak (by simp)];exact ⟨fun h=> .inl ⟨h,fun h=>absurd h e⟩,fun h=>h.elim (fun h=>h.1) fun h=>absurd h.1 Y⟩
  have b6:(i:Int) ∉ s.R (.w (aA z)):=fun e=>by
   obtain ⟨q,Z,Y,x,I,e3⟩:=g.w1 _ _ e;have:q=i:=by omega
   subst this;rw [kj e3] at I;exact b8 ((av z).2 I)
  have ir:(i:Int) ∉ s.R .lo->(∀D,(∀x∈(s.R (.l i)).take 2,∀y∈(s.R (.l i)).take 2,x≠y-> -x∈(s.R .tr).take D->y∈s.R .tr)-> -(m.getD 0 0) ∉ (s.R .tr).take D):=fun _ D h hm=>by
   have:=h (m.getD 0 0) ((av _).1 ((tm _).2 (.inl rfl))) f hf a_ hm;exact cb this
  have G':aM (((s.set (.l i) (qP m 1 k)).set (.w (aA z)) (s.R (.w (aA z))++ [(i:Int)])).set (.w (aA f)) r):=by
   refine mQ g (fun y h1 h2 _=>Q y h1 h2) rfl rfl rfl rfl (fun q _=> ?_) (fun j c=> ?_) (fun j=> ?_) (by rw [Q _ (by simp) (by simp)];exact g.o1) (by rw [Q _ (by simp) (by simp)];exact g.o2) (by rw [Q _ (by simp) (by simp)];exact g.o3) (fun q hq J=> ?_)
   . rw [el];split
     . rename_i e;rw [e];exact b3
     . exact List.Perm.refl _
   . rw [ew,g.wm];constructor
     . rintro (⟨⟨q,Z,Y,x,I,e3⟩,h⟩| ⟨Z,Y⟩)
       . refine ⟨q,Z,Y,?_⟩;rw [el];by_cases e:q=i
         . subst e;rw [if_pos rfl];rcases (tm x).1 ((av x).2 I) with rfl|rfl
           . exact ⟨_,(t2 _).2 (.inl rfl),e3⟩
           . exact absurd Z (h e3.symm)
         . rw [if_neg e];exact ⟨x,I,e3⟩
       . exact ⟨i,Y,hi,z,by rw [el,if_pos rfl];exact (t2 _).2 (.inr rfl),Z.symm⟩
     . rintro ⟨q,Z,Y,x,I,e3⟩;rw [el] at I;by_cases e:q=i
       . subst e;rw [if_pos rfl] at I;rcases (t2 x).1 I with rfl|rfl
         . refine .inl ⟨⟨q,Z,Y,_,(av _).1 ((tm _).2 (.inl rfl)),e3⟩,fun h=> ?_⟩;exact absurd (kj (e3.trans h)) a_
         . exact .inr ⟨e3.symm,Z⟩
       . rw [if_neg e] at I;exact .inl ⟨⟨q,Z,Y,x,I,e3⟩,fun _ h=>e (by omega)⟩
   . by_cases e:j=aA f
     . subst e;rw [aK];exact b9
     . rw [ak (by simpa using e)];by_cases Y:j=aA z
       . subst Y;rw [aK];exact pF (g.w3 _) b6
       . rw [ak (by simpa using Y),ak (by simp)];exact g.w3 j
   . rw [Q _ (by simp) (by simp)] at J;rw [el];by_cases e:q=i
     . subst e;rw [if_pos rfl];refine .inr fun x I=> ?_;rcases (t2 x).1 I with rfl|rfl
       . exact ⟨ir J _ (g.wd q hi J),fun j hj=>ir J _ fun x I y hy O hm=>List.mem_of_mem_take (g.wj j hj q hi J x I y hy O hm)⟩
       . exact ⟨fun h=>a8 (List.mem_of_mem_take h),fun j _ h=>a8 (List.mem_of_mem_take h)⟩
     . rw [if_neg e];exact .inl ⟨J,fun _=>Iff.rfl⟩
  refine ⟨G',fun _ J x I y hy O hm=> ?_,fun q hq h J x I y hy O hm=> ?_,?_,fun h=> (by cases h),by rw [ak (by simp),ak (by simp)],rfl,fun j hj c hc=> ?_,fun q hq=>by rw [ak (by simp),ak (by simpa using hq)],fun x=>by rw [ak (by simp),aK];exact b3.mem_iff⟩
  . rw [Q _ (by simp) (by simp)] at J hm ⊢;rw [el,if_pos rfl] at I hy;have hm: -x∈(s.R .tr).take (s.done+1):=hm;exfalso;rcases (t2 x).1 I with rfl|rfl
    . rcases (iY hd).1 hm with hm|hm
      . exact ir J _ (g.wd i hi J) hm
      . rw [hp] at hm;exact a_ (by omega)
    . exact a8 (List.mem_of_mem_take hm)
  . rw [Q _ (by simp) (by simp)] at J hm ⊢;rw [el,if_neg hq] at I hy;exact h J x I y hy O hm
  . exact ⟨rfl,rfl,rfl,fun q=>Q _ (by simp) (by simp),Q _ (by simp) (by simp),Q _ (by simp) (by simp),[],by rw [Q _ (by simp) (by simp)];simp⟩
  . by_cases Y:j=aA z
    . subst Y;rw [aK];exact List.mem_append_left _ hc
    . rw [ak (by simpa using Y),ak (by simp)];exact hc
theorem AJ (g:aM s) (hi:s.aQ i) {keep rest:List Int} (X:s.R .lo=keep++ (i:Int)::rest) {l':List Int} (pm:l'.Perm (s.R (.l i))) (J:2<=l'.length) (v0:0<=s.val (l'.getD 0 0)) (v1:0<=s.val (l'.getD 1 0)):
 aM ((wF i ((lg i s ((s.R (.l i)).take 2)).set (.l i) l') (l'.take 2)).set .lo (keep++rest)):=by
 have eR: ∀y,(∀i,y≠Pt.l i)->(∀j,y≠Pt.w j)->y≠ .lo->((wF i ((lg i s ((s.R (.l i)).take 2)).set (.l i) l') (l'.take 2)).set .lo (keep++rest)).R y=s.R y:=fun y h1 J h3=>by
  rw [ak h3,nZ _ J,ak (h1 _),ij _ J]
 have Z: ∀q,((wF i ((lg i s ((s.R (.l i)).take 2)).set (.l i) l') (l'.take 2)).set .lo (keep++rest)).R (.l q)=if q=i then l' else s.R (.l q):=fun q=>by
  rw [ak (by simp),nZ _ (by simp)];by_cases e:q=i
  . rw [if_pos e,e,aK]
  . rw [if_neg e,ak (by simpa using e),ij _ (by simp)]
 have ew: ∀j c,c∈((wF i ((lg i s ((s.R (.l i)).take 2)).set (.l i) l') (l'.take 2)).set .lo (keep++rest)).R (.w j)↔(c∈s.R (.w j)/\c≠(i:Int))\/(c=(i:Int)/\∃x∈l'.take 2,aA x=j):=fun j c=>by
  rw [ak (by simp),A_,ak (by simp),sP];constructor
  . rintro (⟨h1,J|J⟩|h)
    . exact .inl ⟨h1,J⟩
    . refine .inl ⟨h1,fun e=> ?_⟩;subst e;obtain ⟨q,Q,Y,x,I,O⟩:=g.w1 _ _ h1;have:q=i:=by omega
      subst this;exact J x I O
    . exact .inr h
  . rintro (⟨h1,J⟩|h)
    . exact .inl ⟨h1,.inl J⟩
    . exact .inr h
 obtain ⟨d1,d2,d3,d4⟩:=mZ i (l'.take 2) ((lg i s ((s.R (.l i)).take 2)).set (.l i) l');obtain ⟨u1,u2,u3,u4⟩:=iw i ((s.R (.l i)).take 2) s;have nl:=g.o3;rw [X] at nl;have U:(keep++rest).Sublist (keep++ (i:Int)::rest):=List.Sublist.append (List.Sublist.refl _) (List.sublist_cons_self _ _);have V: ∀c,c∈s.R .lo->c≠(i:Int)->c∈keep++rest:=fun c hc ag=>by
  rw [X,List.mem_append,List.mem_cons] at hc;rw [List.mem_append];rcases hc with h|h|h
  . exact .inl h
  . exact absurd h ag
  . exact .inr h
 have ac: ∀x∈l',dR s.vars x:=fun x I=>g.cv i hi x (pm.mem_iff.1 I);refine mQ g eR (d1.trans u1) (d2.trans u2) (d3.trans u3) (d4.trans u4) (fun q _=> ?_) (fun j c=> ?_) (fun j=> ?_) (by rw [aK];exact fun c hc=>g.o1 c (by rw [X];exact U.mem hc)) (fun q hq h=> ?_) (by rw [aK];exact U.nodup nl) (fun q hq h=> ?_)
 . rw [Z];split
   . rename_i e;rw [e];exact pm
   . exact List.Perm.refl _
 . rw [ew,g.wm];constructor
   . rintro (⟨⟨q,Q,Y,x,I,O⟩,h⟩| ⟨Q,x,I,O⟩)
     . exact ⟨q,Q,Y,x,by rw [Z,if_neg (fun e=>h (by rw [Q,e]))];exact I,O⟩
     . exact ⟨i,Q,hi,x,by rw [Z,if_pos rfl];exact I,O⟩
   . rintro ⟨q,Q,Y,x,I,O⟩;rw [Z] at I;by_cases e:q=i
     . subst e;rw [if_pos rfl] at I;exact .inr ⟨Q,x,I,O⟩
     . rw [if_neg e] at I;exact .inl ⟨⟨q,Q,Y,x,I,O⟩,fun h=>e (by omega)⟩
 . rw [ak (by simp)];refine qk i j _ _ (rU (pm.nodup_iff.2 (g.cn i hi))) (by rw [ak (by simp)];exact qR i j _ _ (g.w3 j)) fun _=> ?_;rw [ak (by simp),sP];rintro ⟨h1,J|J⟩
   . exact J rfl
   . obtain ⟨q,Q,Y,x,I,O⟩:=g.w1 _ _ h1;have:q=i:=by omega
     subst this;exact J x I O
 . rw [aK];refine V _ (g.o2 q hq h) fun e=> ?_;have:q=i:=by omega
   subst this;rw [pm.length_eq] at J;omega
 . rw [aK] at h;rw [Z];by_cases e:q=i
   . subst e;rw [if_pos rfl];refine .inr fun x I=> ?_;have ap:0<=s.val x:=by
      rcases gR.1 I with ⟨_,e⟩| ⟨_,e⟩<;>rw [e]<;>assumption
     have: -x ∉ s.R .tr:=fun e=>by
      have:=(g.Fc (ac x (List.mem_of_mem_take I))).2 e;omega
     exact ⟨fun h=>this (List.mem_of_mem_take h),fun j _ h=>this (List.mem_of_mem_take h)⟩
   . rw [if_neg e];exact .inl ⟨fun J=>h (V _ J fun h3=>e (by omega)),fun _=>Iff.rfl⟩
end
section
variable {w w' w0 w2 w3:World} {b:Nat} {H H' H2:Pt->Sl} {s t u s' T:aG} {l x y:Int} {i:Nat}
theorem dL {x y:Pt} (h:x≠y) {l m:List Int}:(s.set x l).set y m=(s.set y m).set x l:=by
 simp only [aG.set];congr 1;funext z;simp only [bi];by_cases e:z=x
 . subst e;rw [if_neg h,if_pos rfl,if_pos rfl]
 . by_cases I:z=y
   . subst I;rw [if_pos rfl,if_neg e,if_pos rfl]
   . rw [if_neg I,if_neg e,if_neg e,if_neg I]
theorem Je (c:Int) {L:List Int}: ∀ (I:List Int) (t:aG),wF c (t.set .lo L) I=(wF c t I).set .lo L
 | [],_=>rfl
 |x::I,t=>by
  show wF c ((t.set .lo L).set (.w (aA x)) ((t.set .lo L).R (.w (aA x))++ [c])) I=_;rw [ak (by simp),dL (by simp),Je c I];rfl
theorem ES (c:Int) {L:List Int}: ∀ (I:List Int) (t:aG),lg c (t.set .lo L) I=(lg c t I).set .lo L
 | [],_=>rfl
 |x::I,t=>by
  show lg c ((t.set .lo L).set (.w (aA x)) (((t.set .lo L).R (.w (aA x))).filter fun k=> !(k==c))) I=_;rw [ak (by simp),dL (by simp),ES c I];rfl
theorem Kr {L:List Int} {r:Int}:(t.set .lo L).put l r=(t.put l r).set .lo L:=by
 unfold aG.put;simp only [ak (s:=t) (x:= .lo) (l:=L) (y:= .va) (by simp),ak (s:=t) (x:= .lo) (l:=L) (y:= .le) (by simp),ak (s:=t) (x:= .lo) (l:=L) (y:= .re) (by simp),ak (s:=t) (x:= .lo) (l:=L) (y:= .be) (by simp),ak (s:=t) (x:= .lo) (l:=L) (y:= .tr) (by simp)];rw [dL (x:= .lo) (y:= .va) (by simp),dL (x:= .lo) (y:= .le) (by simp),dL (x:= .lo) (y:= .re) (by simp),dL (x:= .lo) (y:= .tr) (by simp)]
theorem Pw.LC {S:Nat->Prop} (h:Pw w w2 b H H' t) (m:aE S w2 w3) (I: ∀k,S k->w.heap.size<=k/\∀x,own b H' x≠some k):Pw w w3 b H H' t:=
 ⟨h.pm.keep m fun x k J hs=> (I k hs).2 x J,h.mod.then m fun k J hs=>by have:=(I k hs).1;omega,h.ft⟩
def IB (s:aG):Prop:= ∀i,s.aQ i->(i:Int)∈s.R .lo->∃x∈s.R (.a i),x∈s.R .tr
def sU (s:aG) (i:Nat):Prop:=s.aQ i/\∀x∈s.R (.a i),-x∈s.R .tr
theorem sU.ext (h:sU s i) (e:iq s t):sU t i:=⟨e.mB.2 h.1,fun x I=>e.mem (h.2 x (by rw [<- e.a];exact I))⟩
theorem Ca (h:PM w b H s) (g:aM s):Calls prog dz.id #[bR b] w fun e w'=> ∃r:Int,e= .returned (.int .i64 r)/\∃s' H',Pw w w' b H H' s'/\aM s'/\iq s s'/\s'.done=s.done/\((r= -1/\IB s')\/∃i:Nat,r=i/\sU s' i):=by
 refine dz.ah ?_;intro n1 w1 h1;have hA:=h.grow h1.mod;have z1:=h1.size;have e1:=h1.num;have aw: ∀x,¬own b H x=some n1:=fun x e=>by have:=h.lt x n1 e;omega
 refine ⟨_,aR h1.has rfl,_,rfl,_,_,_,ad hA.st rfl,?_⟩;have hN:=h.len .lo rfl;generalize hL:s.R .lo=L at*
 have g2:L.length<=262144:=by rw [<- hL];exact g.MX
 refine ⟨fun P N C B V u m=> ∃ (v:Nat) (T:aG) (H':Pt->Sl) (keep:List Int),V=v/\v<=L.length/\m=L.length - v/\N=keep.length/\Pw w1 u b H H' T/\eC aC u P C keep/\(∀k,aI P=some k->w1.heap.size<=k/\∀x,own b H' x≠some k)/\
  T.R .lo=L/\H' .lo=H .lo/\keep.length<=v/\aM (T.set .lo (keep++L.drop v))/\iq s T/\T.done=s.done/\
  ((B= -1/\∀c∈keep,∃i:Nat,c=i/\∃x∈T.R (.a i),x∈T.R .tr)\/∃i:Nat,B=i/\sU T i),
  ⟨_,0,s,H,[],rfl,Nat.zero_le _,rfl,rfl,Pw.refl hA (aE.refl w1),Ow.nil _ _ _,fun k I=>by simp [aI] at I,hL,rfl,Nat.le_refl _,by rw [List.nil_append,List.drop_zero,<- hL,eJ];exact g,iq.refl s,rfl,.inl ⟨rfl,fun c J=>by simp at J⟩⟩,?_⟩
 rintro P N C B V u m _ ⟨v,T,H',keep,rfl,hv,rfl,rfl,Pu,ok,fr,Z,ag,kl,Y,xT,dT,hB⟩;have hT:=Pu.pm;have b8:bF u n1 #[bR b]:=h1.has.keep Pu.mod fun ⟨x,e⟩=>aw x e;have e7: ∀x,own b H' x≠some n1:=fun x e=>by
  rcases Pu.ft x n1 e with ⟨y,e2⟩|e2
  . exact aw y e2
  . omega
 refine ao (fun r=> ?_) (fun r=> ?_)
 . have r:v<L.length:=by rw [hN] at r;simpa using r
   have a8: ∀ {u':World},Pw w1 u' b H H' T->∀ {K:Addr->Prop},(∀a,u'.cell? a=some (.int .i64 (L.getD v 0))->K a)->aV (H .lo).p (H .lo).n (v:Int) 1 K:=fun {u'} P K I=>by
    rw [<- ag];refine P.pm.tG (x:= .lo) rfl (by omega) rfl (by rw [Z];omega) fun a _ J=>I a ?_;rw [Z,Int.toNat_natCast] at J;exact J
   have ac:L.drop v=L.getD v 0::L.drop (v+1):=by
    rw [List.drop_eq_getElem_cons r];simp [List.getD,r]
   have et:L.getD v 0∈(T.set .lo (keep++L.drop v)).R .lo:=by rw [aK,ac];simp
   obtain ⟨i,ei,Q⟩:=Y.o1 _ et;have Q:T.aQ i:=Q;have cg:i<T.nc:=Q.1;refine a8 Pu fun gv ed=> ⟨_,ed,?_⟩
   rw [ei];have oV: ∀ {u':World} {T':aG} {H2:Pt->Sl},Pw w1 u' b H H2 T'->eC aC u' P C keep->(∀k,aI P=some k->w1.heap.size<=k/\∀x,own b H2 x≠some k)->
    ∀ {K:World->Option Addr->Nat->Nat->Prop},(∀w2 p' c',Pw w1 w2 b H H2 T'->eC aC w2 p' c' (keep++ [(i:Int)])->(∀k,aI p'=some k->w1.heap.size<=k/\∀x,own b H2 x≠some k)->aE (fun k=>aI P=some k) u' w2->K w2 p' (keep.length+1) c')->
    ∀n20 ce,bc (.cells #[.int .i64 (i:Int)] aC) u' n20 ce->∃dk,∃ (p':Option Addr) (n' c':Nat),(Builtin.append_ #[aJ,aJ] aJ #[.slice P keep.length C,.slice (some (Addr.mk n20 0 none)) 1 1]).run prog ce= .ok (.slice p' n' c') dk/\K dk p' n' c':=by
    intro u' T' H2 P' o' f' K I n20 ce b7;have c1:=P'.grow b7.mod;refine (o'.grow b7.mod).kZ dN (i:Int) b7.has rfl rfl fH (by omega) fun w2 p' c' o2 m2 aT gT=> ?_;refine I w2 p' c' (c1.LC m2 fun k I=>f' k I) o2 (fun k b4=> ?_) ((b7.mod.mono fun _ _ e=>e.elim).trans m2);rcases aT with aT|aT
    . rw [aT] at b4;exact f' k b4
    . rw [aT] at b4;have:=bg b4;refine ⟨by have:=c1.mod.size;omega,fun x e=> ?_⟩;have:=c1.pm.lt x k e;omega
   have U:keep++ [(i:Int)]++L.drop (v+1)=keep++L.drop v:=by rw [ac,ei];simp
   refine ao (fun r2=> ?_) (fun r2=> ?_)
   . have r2:0<=B:=by simpa using r2
     refine ⟨_,aR b8 rfl,_,rfl,_,_,_,ad hT.st rfl,?_⟩;rw [ag];refine a8 Pu fun gS ea=> ⟨_,ea,?_⟩
     rw [ei];refine oV Pu ok fr fun dk p' c' e5 fs f22 _=> ?_;refine ⟨_,?_,v+1,T,H',keep++ [(i:Int)],wN (by omega) (by omega),r,rfl,by simp,e5,fs,f22,Z,ag,by simp;omega,by rw [U];exact Y,xT,dT,?_⟩
     . omega
     . rcases hB with ⟨e,_⟩|hB
       . omega
       . exact .inr hB
   . have r2: ¬0<=B:=by simpa using r2
     have hB:B= -1/\∀c∈keep,∃i:Nat,c=i/\∃x∈T.R (.a i),x∈T.R .tr:=by
      rcases hB with h| ⟨i,e,_⟩
      . exact h
      . omega
     have kT:Wf T:=by
      have:=Y.wf;have e:T=(T.set .lo (keep++L.drop v)).set .lo (T.R .lo):=by rw [set_set,eJ]
      rw [e];exact this.set (by simp) (by simp) (by simp) (by simp) (by simp) _
     have ap:T.R (.l i)=(T.set .lo (keep++L.drop v)).R (.l i):=(ak (by simp)).symm;have an: ∀x,(T.set .lo (keep++L.drop v)).val x=T.val x:=fun x=>iI (ak (by simp)) x;have hv: ∀x∈T.R (.l i),dR T.vars x:=fun x O=>Y.cv i Q x (by rw [<- ap];exact O);have gy:(T.R (.l i)).length<=4096:=by rw [ap];exact Y.cl i Q
     have c3: ∀x,x∈T.R (.l i)↔x∈T.R (.a i):=fun x=>by
      have:=Y.ca i Q x;rw [ak (by simp),ak (by simp)] at this;exact this
     have hw: ∀j,(T.R (.w j)).length<=262144:=fun j=>by have:=Y.wl j;rw [ak (by simp)] at this;exact this
     refine ⟨_,aR b8 rfl,_,rfl,_,_,_,ad hT.st rfl,hT.Jn cg rfl rfl fun g4 ek=> ⟨_,_,_,ek.get 1 _ rfl,?_⟩⟩;refine (je (hT.row (.l i) rfl).vw (hT.len _ rfl) (by rw [hT.len _ rfl];omega)).mono ?_;rintro e gm ⟨ey,e',rfl,e6,dc,f30⟩;have eH:=Pu.grow dc;have cb:=b8.grow dc;have nq: ∀k,aI ey=some k->w1.heap.size<=k/\(∀x,own b H' x≠some k)/\k≠n1/\aI P≠some k:=fun k I=>by
      have:=f30 k I;have g0:=Pu.mod.size;refine ⟨by omega,fun x e=> ?_,fun e=> ?_,fun e=> ?_⟩
      . have:=hT.lt x k e;omega
      . omega
      . have:=ok.lt k e;omega
     refine ⟨_,_,_,rfl,(rh e6 rfl (by omega) BH (fun x=>decide (T.val x<0)) fun x O w' m=> ?_).mono ?_⟩
     . rw [uk];exact KR (eH.pm.keep m fun x k I hs=> (nq k hs).2.1 x I) kT (cb.keep m fun hs=> (nq n1 hs).2.2.1 rfl) (hv x O)
     rintro e ej ⟨rfl,fq,cp⟩;have dq:=eH.LC cp fun k hs=> ⟨(nq k hs).1,(nq k hs).2.1⟩
     have fk:=dq.pm;have b9:bF ej n1 #[bR b]:=cb.keep cp fun hs=> (nq n1 hs).2.2.1 rfl;have a':eC aC ej P C keep:=(ok.grow dc).keep cp fun k I hs=> (nq k hs).2.2.2 I;generalize hF:(T.R (.l i)).filter (fun x=> !decide (T.val x<0))=F at*
     have c7: ∀x,x∈F↔x∈T.R (.l i)/\0<=T.val x:=fun x=>by
      rw [<- hF,List.mem_filter];simp
     refine ⟨_,_,_,rfl,ao (fun r3=> ?_) (fun r3=> ?_)⟩
     . have r3:2<=F.length:=by simp at r3;omega
       refine ⟨_,aR b9 rfl,(uf fk kT.d7 cg hv (by omega) (fun j=>by have:=hw j;omega)).mono ?_⟩;rintro e fa ⟨rfl,g1,a6,ep⟩;have fl:=a6.pm;have ax:(lg i T ((T.R (.l i)).take 2)).R (.l i)=T.R (.l i):=ij _ (by simp) _ _;have a7:(lg i T ((T.R (.l i)).take 2)).R .va=T.R .va:=ij _ (by simp) _ _;have es:(lg i T ((T.R (.l i)).take 2)).R .le=T.R .le:=ij _ (by simp) _ _;obtain ⟨u1,u2,u3,u4⟩:=iw i ((T.R (.l i)).take 2) T;have kU:Wf (lg i T ((T.R (.l i)).take 2)):=⟨by rw [u1];exact kT.d7,by rw [a7,u1];exact kT.va,by rw [a7];exact kT.vb,by rw [es,u1];exact kT.le,by rw [ij _ (by simp),u1];exact kT.re,by rw [ij _ (by simp)];exact kT.be,by rw [ij _ (by simp)];exact kT.tr,by rw [u2];exact kT.nc⟩
       have eg:bF fa n1 #[bR b]:=b9.keep a6.mod fun ⟨x,e⟩=>e7 x e;refine ⟨rfl,_,aR eg rfl,(EQ fl kU (by rw [u2];exact cg) (by rw [ax,u1];exact hv) (by rw [ax];omega) (fun j=>by have:=yq i j ((T.R (.l i)).take 2) T;have:=hw j;omega) (by rw [ij _ (by simp),Z];omega) ?_ ?_).mono ?_⟩
       . rw [ax];intro x O eu;rw [iI a7] at eu;have:=Y.LK (x:=x) (hv x O) (by rw [an];exact eu);unfold aG.bj at this ⊢;rw [es];rw [ak (by simp)] at this;exact this
       . rw [ax];have:(fun x=> !decide ((lg i T ((T.R (.l i)).take 2)).val x<0))=fun x=> !decide (T.val x<0):=by funext x;rw [iI a7]
         rw [this,hF];exact r3
       rintro e fi ⟨rfl,l',du,hb,pm,b1,b2,b3,cm,eL⟩;rw [ax] at pm;rw [iI a7] at b2 b3;have PP:=(dq.trans a6).trans cm;have kk:kJ H' du:=ep.trans eL;have ef: ∀k,aI P=some k->w1.heap.size<=k/\∀x,own b du x≠some k:=fun k I=>by
        have:=fr k I;refine ⟨this.1,fun x e=> ?_⟩;rcases (a6.trans cm).ft x k e with ⟨y,e2⟩|e2
        . exact this.2 y e2
        . have:=a'.lt k I;omega
       have ec:eC aC fi P C keep:=a'.keep (a6.trans cm).mod fun k I ⟨x,e⟩=> (fr k I).2 x e;have gA:=AJ Y Q (keep:=keep) (rest:=L.drop (v+1)) (by rw [aK,ac,ei]) (l':=l') (by rw [<- ap];exact pm) b1 (by rw [an];exact b3) (by rw [an];exact b2);rw [<- ap,ES,dL (x:= .lo) (y:= .l i) (by simp),Je,set_set] at gA;refine ⟨rfl,_,?_,v+1,_,du,keep,wN (by omega) (by omega),r,rfl,rfl,PP,ec,ef,by rw [nZ _ (by simp),ak (by simp),ij _ (by simp)];exact Z,by rw [kk _ (by simp)];exact ag,by omega,gA,?_,?_,.inl ⟨hB.1,fun c J=> ?_⟩⟩
       . omega
       . exact xT.trans (iq.lg.trans ((iq.set (by simp) (by simp) (by simp) (by simp)).trans iq.wF))
       . rw [(mZ i _ _).2.2.2];exact u4.trans dT
       . obtain ⟨k,e,x,O,az⟩:=hB.2 c J;refine ⟨k,e,x,by rw [nZ _ (by simp),ak (by simp),ij _ (by simp)];exact O,by rw [nZ _ (by simp),ak (by simp),ij _ (by simp)];exact az⟩
     . have r3:F.length<=1:=by simp at r3;omega
       refine oV dq a' fr fun bY p' c' bk bv f39 e4=> ?_;have gd:=bk.pm;have b_:bF bY n1 #[bR b]:=h1.has.keep bk.mod fun ⟨x,e⟩=>aw x e;have ez:eC aC bY ey e' F:=fq.keep e4 fun k I hs=> (nq k I).2.2.2 hs;have eA:(T.set .lo (keep++L.drop v)).R .tr=T.R .tr:=ak (by simp);refine ao (fun r4=> ?_) (fun r4=> ?_)
       . have r4:F= []:=by simpa using r4
         refine ⟨_,?_,v+1,T,H',keep++ [(i:Int)],wN (by omega) (by omega),r,rfl,by simp,bk,bv,f39,Z,ag,by simp;omega,by rw [U];exact Y,xT,dT,.inr ⟨i,rfl,Q,fun x O=> ?_⟩⟩
         . omega
         . have eN:=(c3 x).2 O;have hn: ¬0<=T.val x:=fun h0=>by
            have:=(c7 x).2 ⟨eN,h0⟩;rw [r4] at this;simp at this
           rw [<- eA];exact (Y.Fc (x:=x) (hv x eN)).1 (by rw [an];omega)
       . have r4:0<F.length:=by
          rcases Nat.eq_zero_or_pos F.length with e|e
          . rw [e] at r4;simp at r4
          . exact e
         have el: ∀x∈F,x=F.getD 0 0:=fun x O=>by
          match F,r3,r4,O with
          | [a],_,_,O=>simpa using O
         have aa:=(c7 (F.getD 0 0)).1 (bE r4);generalize er:F.getD 0 0=X at*
         refine ⟨_,aR b_.drew rfl,ez.drew.ix 0 (by omega) rfl (by omega) fun gJ d9=> ⟨_,d9,?_⟩⟩;rw [Int.toNat_zero,er];have cT:=bk.drew;refine (lK cT.pm kT (hv _ aa.1)).mono ?_;rintro e gs ⟨rfl,rfl⟩;have cc: ∀ {T':aG},iq T T'->∀c∈keep,∃i:Nat,c=i/\∃x∈T'.R (.a i),x∈T'.R .tr:=fun e c J=>by
          obtain ⟨k,e1,x,O,az⟩:=hB.2 c J;exact ⟨k,e1,x,by rw [e.a];exact O,e.mem az⟩
         refine ⟨_,rfl,ao (fun r5=> ?_) (fun r5=> ?_)⟩
         . have r5:T.val X=0:=by simpa using r5
           refine ⟨_,aR b_.drew.drew rfl,ez.drew.drew.ix 0 (by omega) rfl (by omega) fun gr d'=> ⟨_,d',?_⟩⟩;rw [Int.toNat_zero,er];have eb:=cT.drew;refine (Bv eb.pm kT (hv _ aa.1) (i:Int)).mono ?_;rintro e gp ⟨rfl,q,c2⟩;have gP:=ul (t:=T.set .lo (keep++L.drop v)) Y (hv X aa.1) (by rw [an];exact r5) (fun _ _ _=>rfl) rfl rfl rfl rfl (r:=(i:Int)) (.inl ⟨rfl,rfl,i,rfl,Q,by rw [<- ap];exact aa.1,fun x O e3=>by
            rw [<- ap] at O;have hn: ¬0<=T.val x:=fun h0=>e3 (el x ((c7 x).2 ⟨O,h0⟩));exact (Y.Fc (x:=x) (hv x O)).1 (by rw [an];omega)⟩)
           rw [Kr] at gP;have xP:iq T (T.put X (i:Int)):=iq.put;have e8:(T.put X (i:Int)).R .lo=T.R .lo:=iP (by simp) (by simp) (by simp) (by simp);refine ⟨rfl,_,?_,v+1,_,bi H' .tr q,keep++ [(i:Int)],wN (by omega) (by omega),r,rfl,by simp,eb.trans c2,(bv.drew.drew).keep c2.mod fun k I ⟨x,e⟩=> (f39 k I).2 x e,fun k I=> ⟨(f39 k I).1,fun x e=> ?_⟩,
            by rw [e8];exact Z,by rw [aP (by simp)];exact ag,by simp;omega,by rw [U];exact gP,xT.trans xP,dT,.inl ⟨hB.1,fun c J=> ?_⟩⟩
           . omega
           . rcases c2.ft x k e with ⟨y,e2⟩|e2
             . exact (f39 k I).2 y e2
             . have:=bv.lt k I;have:bY.drew.drew.heap.size=bY.heap.size:=rfl;omega
           . rcases List.mem_append.1 J with J|J
             . exact cc xP c J
             . rw [List.mem_singleton] at J;refine ⟨i,J,X,?_,?_⟩
               . rw [xP.a];exact (c3 X).1 aa.1
               . rw [oe];simp
         . have r5: ¬T.val X=0:=by simpa using r5
           have fd:X∈T.R .tr:=by
            rw [<- eA];exact (Y.MU (x:=X) (hv X aa.1)).1 (by rw [an];have:=aa.2;omega)
           refine ⟨_,?_,v+1,T,H',keep++ [(i:Int)],wN (by omega) (by omega),r,rfl,by simp,cT,bv.drew,f39,Z,ag,by simp;omega,by rw [U];exact Y,xT,dT,.inl ⟨hB.1,fun c J=> ?_⟩⟩
           . omega
           . rcases List.mem_append.1 J with J|J
             . exact cc (iq.refl T) c J
             . rw [List.mem_singleton] at J;exact ⟨i,J,X,(c3 X).1 aa.1,fd⟩
 . have r:v=L.length:=by rw [hN] at r;simp at r;omega
   subst r;rw [List.drop_length,List.append_nil] at Y;refine ⟨_,aR b8 rfl,_,rfl,?_⟩;refine hT.head (x:= .lo) rfl ok ⟨hT.st,hT.c,hT.wa,fun y hy _=>hT.row y hy⟩ (fun k I=> .inr (fr k I).2) rfl fun w3 h3 m3=> ?_;have xL:iq T (T.set .lo keep):=iq.set (by simp) (by simp) (by simp) (by simp);have P0:=Pu.cP h1.mod;refine ⟨_,rfl,_,_,⟨h3,P0.mod.then m3 fun k I e=> ?_,fun x k I=> ?_⟩,Y,xT.trans xL,dT,?_⟩
   . rcases P0.ft .st k (by rw [e];rfl) with h|h
     . exact h
     . omega
   . by_cases e:x= .lo
     . subst e;rw [bK (by simp),aW] at I;have:=(fr k I).1;exact .inr (by omega)
     . refine P0.ft x k ?_;cases x<;>first|exact I| (simp only [own] at I ⊢;rwa [aP e] at I)
   . rcases hB with ⟨e,h⟩| ⟨i,e,h⟩
     . refine .inl ⟨e,fun i hi hm=> ?_⟩;rw [aK] at hm;obtain ⟨k,e1,x,O,az⟩:=h _ hm;have:k=i:=by omega
       subst this;exact ⟨x,by rw [ak (by simp)];exact O,by rw [ak (by simp)];exact az⟩
     . exact .inr ⟨i,e,h.ext xL⟩
end
end Go.Proofs.YtenmibfmhccmiaaGreat.W
namespace Go.Fw
open Go Go.RowKit
variable {P:Program} {α:Type} {f:α->Value} {T:TypeId} {w w':World} {p q q':Option Addr} {c:Nat} {l:List α}
theorem Ow.LX {t ty e bytes:Nat} (hs:lN P t e bytes=true) (h:Ow f e w p c l) {o m d k D:Nat} {news:List α} (Y:Vw f w q news) (hm:m=news.length) (hD:m<=D) (hq:0<m->q'=p.map (·.add (o*1))) (I:o+m<=l.length) (ho: ∀x,(f x).oneCell'=true) {K:Int->World->Prop}
 (Q: ∀w',Ow f e w' p c (l.take o++news++l.drop (o+m))->aE (fun b=>aI p=some b) w w'->w'.heap.size=w.heap.size->K m w'):
 ∃w',∃r:Int,(Builtin.copy_ #[t,t] ty #[.slice q' D d,.slice q m k]).run P w= .ok (.int .i64 r) w'/\K r w':=by
 obtain ⟨ht,i,z,hi,hz,h1,hb,h3⟩:=mD hs;have O:(P.info? e).map (·.size)=some 1:=by rw [hi];simp [h1]
 subst hm;rcases Nat.eq_zero_or_pos news.length with U|U
 . have hn:news= []:=List.eq_nil_of_length_eq_zero U;subst hn;refine ⟨w,0,run_copy_none w t t ty e _ _ _ _ _ _ ht O (by simp),?_⟩;have:=Q w (by simpa using h) (aE.refl w) rfl;simpa using this
 . rw [hq U];obtain ⟨a,rfl,_⟩:=Y 0 U;rcases h.un with ⟨rfl,rfl,rfl⟩| ⟨g,cur,rfl,Z,g1,g2,g3,g4⟩
   . rw [List.length_nil] at I;omega
   . have hr:=run_copy_row (P:=P) w t t ty e g o D d a news.length k cur e (news.map f) ht O Z (by rw [List.length_map];exact (Nat.min_eq_left hD).symm) (fun j v hj=>by
      have J:j<news.length:=by have:=(List.getElem?_eq_some_iff.1 hj).1;simpa using this
      obtain ⟨a',ha,X⟩:=Y j J;simp only [Option.some.injEq] at ha;subst ha;rw [X];simpa [J] using hj) (by simp;omega) (fun u hu=>by obtain ⟨x,_,rfl⟩:=List.mem_map.1 hu;exact ho x)
     have V:=Q (w.setRow g (cur.toList.take o++news.map f++cur.toList.drop (o+ (news.map f).length)).toArray) (Ow.dx (setRow_heap w g cur _ e _ Z) (by simp;omega) g2 ?_ ?_) ⟨rfl,rfl,rfl,by simp,fun k _ Q=>setRow_other w g k _ fun he=>Q (by simp [aI,he])⟩ (by simp [World.setRow])
     . refine ⟨_,((news.map f).length:Int),?_,by rw [List.length_map];exact V⟩;simp only [Option.map_some,cX,Nat.zero_add,Nat.mul_one];exact hr
     . simp;omega
     . have hl:(l.take o++news++l.drop (o+news.length)).length=l.length:=by simp;omega
       rw [hl,List.map_append,List.map_append,List.map_take,List.map_drop,<- g4];have X:cur.toList.length=c:=by simpa using g3
       apply List.ext_getElem?;intro j;simp only [List.length_map,List.getElem?_take,List.getElem?_append,List.length_append,List.length_take,List.getElem?_drop,X];repeat' split
       all_goals first
        |rfl
        |omega
        | (congr 1;omega)
end Go.Fw
namespace Go.Proofs.YtenmibfmhccmiaaGreat.W
open Go Go.Fw Go.RowKit Go.SoP Go.LiP
section
variable {w w' w0 w2 w3:World} {b:Nat} {H H' H2:Pt->Sl} {s t u s' T:aG} {l x y:Int} {i:Nat}
def aG.step (s:aG):aG:= {s with done:=s.done+1}
theorem Ds (g:aM s) (I:s.done< (s.R .tr).length) (hp: ∀i,s.aQ i->Pg s i):aM s.step:=
 ⟨g.d7,g.G1,g.va,g.vb,g.le,g.rl,g.tv,g.nd,g.v1,g.bl,g.bs,g.dl,g.db,g.lv,g.Kx,g.IZ,I,g.cv,g.cn,g.cl,g.ca,g.al,g.w1,g.w2,g.w3,g.o1,g.o2,g.o3,
   fun i hi h=>hp i hi h,g.wj⟩
theorem Ht {m:List Int} {st br:Bool} {j:Nat} {r:List Int} (V:qV s i m s' st br) (hm: ∀z∈m,0<=s.val z->aA z≠j):qV (s.set (.w j) r) i m (s'.set (.w j) r) st br:=by
 have ev: ∀x,(s.set (.w j) r).val x=s.val x:=fun x=>iI (ak (by simp)) x;cases V with
 |K9 h=>rw [dL (by simp)];exact .K9 (by rw [ev];exact h)
 |mW h h2=>rw [dL (by simp)];exact .mW (by rw [ev];exact h) fun k a c=>by rw [ev];exact h2 k a c
 |unit h h2=>
  have e:((s.set (.l i) m).put (m.getD 0 0) i).set (.w j) r=((s.set (.w j) r).set (.l i) m).put (m.getD 0 0) i:=by
   rw [dL (x:= .w j) (y:= .l i) (by simp)];generalize s.set (.l i) m=q;unfold aG.put;simp only [ak (s:=q) (x:= .w j) (l:=r) (y:= .va) (by simp),ak (s:=q) (x:= .w j) (l:=r) (y:= .le) (by simp),ak (s:=q) (x:= .w j) (l:=r) (y:= .re) (by simp),ak (s:=q) (x:= .w j) (l:=r) (y:= .be) (by simp),ak (s:=q) (x:= .w j) (l:=r) (y:= .tr) (by simp)];rw [dL (x:= .w j) (y:= .va) (by simp),dL (x:= .w j) (y:= .le) (by simp),dL (x:= .w j) (y:= .re) (by simp),dL (x:= .w j) (y:= .tr) (by simp)]
  rw [e];exact .unit (by rw [ev];exact h) fun k a c=>by rw [ev];exact h2 k a c
 |yW k h1 h2 h3 h4=>
  have I:aA (m.getD k 0)≠j:=hm _ (bE h3) h4;have V:=qV.yW (s:=s.set (.w j) r) (i:=i) (m:=m) k (by rw [ev];exact h1) h2 h3 (by rw [ev];exact h4);rw [ak (by simpa using I),dL (x:= .w j) (y:= .l i) (by simp),dL (x:= .w j) (by simpa using Ne.symm I)] at V;exact V
def dM (s:aG):Prop:= ∀i,s.aQ i->(∃x∈s.R (.a i),x∈s.R .tr)\/∃x∈s.R (.a i),∃y∈s.R (.a i),x≠y/\s.val x=0/\s.val y=0
theorem DY (g:aM s) (Y:(s.R .tr).length<=s.done) (hl:IB s):dM s:=by
 intro i hi;by_cases hm:(i:Int)∈s.R .lo
 . exact .inl (hl i hi hm)
 . have h2:2<=(s.R (.l i)).length:=by
    rcases Nat.lt_or_ge (s.R (.l i)).length 2 with h|h
    . exact absurd (g.o2 i hi h) hm
    . exact h
   have Q:=g.wd i hi hm;rw [W1,List.take_of_length_le Y] at Q;have m0:(s.R (.l i)).getD 0 0∈(s.R (.l i)).take 2:=gR.2 (.inl ⟨by omega,rfl⟩);have m1:(s.R (.l i)).getD 1 0∈(s.R (.l i)).take 2:=gR.2 (.inr ⟨by omega,rfl⟩);have I:(s.R (.l i)).getD 0 0≠(s.R (.l i)).getD 1 0:=fun e=>by
    have:=(List.getElem_inj (h₀:=show 0< (s.R (.l i)).length by omega) (h₁:=show 1< (s.R (.l i)).length by omega) (g.cn i hi)).1 (by
     have e0:(s.R (.l i)).getD 0 0=(s.R (.l i))[0]:=by simp [List.getD,show 0< (s.R (.l i)).length by omega]
     have e1:(s.R (.l i)).getD 1 0=(s.R (.l i))[1]:=by simp [List.getD,show 1< (s.R (.l i)).length by omega]
     rw [<- e0,<- e1,e])
    omega
   generalize (s.R (.l i)).getD 0 0=a at*
   generalize (s.R (.l i)).getD 1 0=c at*
   have la:=List.mem_of_mem_take m0;have lc:=List.mem_of_mem_take m1;have va:=g.cv i hi a la;have Z:=g.cv i hi c lc;have X:=(g.ca i hi a).1 la;have V:=(g.ca i hi c).1 lc;by_cases O:a∈s.R .tr
   . exact .inl ⟨a,X,O⟩
   by_cases J:c∈s.R .tr
   . exact .inl ⟨c,V,J⟩
   by_cases U: -a∈s.R .tr
   . exact absurd (Q a m0 c m1 I U) J
   by_cases fc: -c∈s.R .tr
   . exact absurd (Q c m1 a m0 (Ne.symm I) fc) O
   exact .inr ⟨a,X,c,V,I,(g.v0 va).2 ⟨O,U⟩,(g.v0 Z).2 ⟨J,fc⟩⟩
end
section
variable {w w' w0 w2 w3:World} {b:Nat} {H H' H2:Pt->Sl} {s t u s' T:aG} {l x y:Int} {i:Nat}
theorem Ia {m:List Int} {st br:Bool} {j:Nat} (V:qV s i m s' st br) (hm: ∀z∈m,0<=s.val z->aA z≠j):s'.R (.w j)=s.R (.w j):=by
 cases V with
 |K9 h=>exact ak (by simp)
 |mW h h2=>exact ak (by simp)
 |unit h h2=>rw [iP (by simp) (by simp) (by simp) (by simp),ak (by simp)]
 |yW k h1 h2 h3 h4=>rw [ak (by simpa using Ne.symm (hm _ (bE h3) h4)),ak (by simp)]
theorem zB {l:List Int} {k v:Nat} {x:Int} (h:k<v):(l.set k x).drop v=l.drop v:=by
 apply List.ext_getElem?;intro j;rw [List.getElem?_drop,List.getElem?_drop,List.getElem?_set,if_neg (by omega)]
theorem Pw.Mk (h:PM w2 b H t) {j:Nat} {w1:World} (m:aE (fun k=>aI (H (.w j)).p=some k) w1 w2):Pw w1 w2 b H H t:=Pw.row h (x:= .w j) rfl m
theorem Lx {p:Option Addr} {c:Nat}:(if c=0 then p else p.map (·.add (0*1)))=p:=by rw [L9];split<;>rfl
theorem Ey (h:PM w b H s) (g:aM s):Calls Tryz.prog dQ.id #[bR b] w fun e w'=> ∃r:Int,e= .returned (.int .i64 r)/\∃s' H',Pw w w' b H H' s'/\aM s'/\iq s s'/\((r= -1/\dM s')\/∃i:Nat,r=i/\sU s' i):=by
 refine dQ.ah (bm rfl ⟨_,rfl,_,_,_,ad h.st rfl,?_⟩);obtain ⟨av,e'⟩:=xq h g.wf;rw [e'];refine bm rfl ((Ca h g).mono ?_);rintro e w3 ⟨r4,rfl,s1,H1,P3,g1,x1,d1,hr⟩;refine ⟨_,rfl,ao (fun r=> ?_) fun r=> ?_⟩
 . have r:0<=r4:=by simpa using r
   refine ⟨r4,rfl,s1,H1,P3,g1,x1,.inr ?_⟩;rcases hr with h|h
   . omega
   . exact h
 have r: ¬0<=r4:=by simpa using r
 have hl:IB s1:=by
  rcases hr with h| ⟨i,h,_⟩
  . exact h.2
  . omega
 refine ⟨fun u m=> ∃ (T:aG) (H':Pt->Sl),m=T.vars - T.done/\Pw w u b H H' T/\aM T/\iq s T/\IB T,⟨_,s1,H1,rfl,P3,g1,x1,hl⟩,?_⟩;rintro w8 m _ ⟨T,H',rfl,P8,gT,xT,lT⟩;have h8:=P8.pm;refine ⟨_,rfl,_,ad h8.drew.st rfl,_,rfl,_,_,_,ad h8.drew.st rfl,?_⟩;rw [h8.len .tr rfl];refine ao (fun r=> ?_) (fun r=> ?_)
 . have hd:T.done< (T.R .tr).length:=by simpa using r
   have hD:=h8.drew.drew;refine ⟨_,rfl,_,_,_,ad hD.st rfl,_,rfl,_,ad hD.st rfl,hD.tG (x:= .tr) rfl (by omega) rfl (by omega) fun hH _ el=> ⟨_,el,?_⟩⟩;rw [Int.toNat_natCast];have fA:(T.R .tr).getD T.done 0∈T.R .tr:=bE hd;generalize hX:(T.R .tr).getD T.done 0=X at*
   have du:=gT.tv X fA;have gP:=du.bd gT.d7;have ef:IntKind.i64.wrap (0 - X)= -X:=by rw [aB (by omega) (by omega)];omega
   rw [ef];have bY:=du.neg;have b3:=bY.bd gT.d7;obtain ⟨f,hf⟩: ∃f,f= -X:=⟨_,rfl⟩
   rw [<- hf] at bY b3 ⊢;have fL:X= -f:=by omega
   have cg:=pV bY;refine ⟨(·=w8.drew.drew.drew),rfl,_,rfl,_,_,_,eF (ad hD.drew.st rfl),(fT b3 _).mono ?_⟩;rintro e hI ⟨rfl,rfl⟩;have d8:=((P8.drew).drew).drew;have cm:=d8.pm;refine ⟨_,rfl,rfl,cm.Mf cg rfl rfl fun g2 _ ep=> ⟨_,_,_,eF ep,?_⟩⟩;have b6:=cm.len (.w (aA f)) rfl;have b':(T.R (.w (aA f))).length<=(H' (.w (aA f))).c:=by
    rcases (cm.row (.w (aA f)) rfl).un with ⟨_,_,e2⟩| ⟨_,_,_,_,e,_⟩
    . rw [e2];exact Nat.zero_le _
    . exact e
   have hh:=gT.wl (aA f);generalize aT:T.R (.w (aA f))=row at*
   refine ⟨fun KP V u m=> ∃ (kp v:Nat) (I:aG) (H2:Pt->Sl) (kept cur:List Int),KP=kp/\V=v/\v<=row.length/\kp<=v/\m=row.length - v/\kept.length=kp/\cur.length=row.length/\cur.take kp=kept/\cur.drop v=row.drop v/\
    I.R (.w (aA f))=cur/\H2 (.w (aA f))=H' (.w (aA f))/\Pw w u b H H2 I/\aM (I.set (.w (aA f)) (kept++row.drop v))/\iq T I/\I.done=T.done/\I.R .lo=T.R .lo/\
    ∀k,I.aQ k->(k:Int) ∉ row.drop v->Pg (I.set (.w (aA f)) (kept++row.drop v)) k,
    ⟨_,0,0,T,H',[],row,rfl,rfl,Nat.zero_le _,Nat.le_refl _,rfl,rfl,rfl,rfl,rfl,aT,rfl,d8,?_,iq.refl T,rfl,rfl,?_⟩,?_⟩
   . rw [List.nil_append,List.drop_zero,<- aT,eJ];exact gT
   . rw [List.nil_append,List.drop_zero,<- aT,eJ];intro k O ag c0 x hx y hy ce hm;rcases (iY hd).1 hm with hm|hm
     . exact gT.wd k O c0 x hx y hy ce hm
     . rw [hX] at hm;have:x=f:=by omega
       rw [this] at hx;exact absurd (gT.w2 k O f hx) ag
   rintro KP V u m _ ⟨kp,v,I,H2,kept,cur,rfl,rfl,hv,hO,rfl,az,ay,dd,eg,ac,Q,Pu,gV,x2,d2,bv,pg⟩;have hu:=Pu.pm;have dk:I.done< (I.R .tr).length:=by
    rw [d2];obtain ⟨e,he⟩:=x2.tr;rw [he,List.length_append];omega
   have d9:(I.R .tr).getD I.done 0= -f:=by
    rw [d2];obtain ⟨e,he⟩:=x2.tr;rw [he,bA hd,hX,fL]
   have c7:I.vars=T.vars:=x2.v;refine ao (fun r2=> ?_) (fun r2=> ?_)
   . have rv:v<row.length:=by rw [b6] at r2;simpa using r2
     clear r2;have J:row.drop v=row.getD v 0::row.drop (v+1):=by
      rw [List.drop_eq_getElem_cons rv];simp [List.getD,rv]
     have fv:cur.getD v 0=row.getD v 0:=by
      have e1:(cur.drop v).getD 0 0=cur.getD v 0:=by simp [List.getD]
      have e2:(row.drop v).getD 0 0=row.getD v 0:=by simp [List.getD]
      rw [<- e1,eg,e2]
     have d':cur.drop (v+1)=row.drop (v+1):=by
      have e1:(cur.drop v).drop 1=cur.drop (v+1):=by rw [List.drop_drop]
      have e2:(row.drop v).drop 1=row.drop (v+1):=by rw [List.drop_drop]
      rw [<- e1,eg,e2]
     rw [<- Q];refine hu.tG (x:= .w (aA f)) rfl (by omega) rfl (by rw [ac];omega) fun g5 _ dT=> ⟨_,dT,?_⟩
     rw [ac,Int.toNat_natCast,fv];generalize hc:row.getD v 0=c at*
     obtain ⟨i,rfl,U,z,hz,fk⟩:=gV.w1 (aA f) c (by rw [aK,J];simp);have:=kj fk;subst this;rw [ak (by simp)] at hz;have U:I.aQ i:=U;have Z:(I.set (.w (aA z)) (kept++row.drop v)).R (.l i)=I.R (.l i):=ak (by simp);have b7: ∀x∈I.R (.l i),dR I.vars x:=fun x hx=>gV.cv i U x (by rw [Z];exact hx);have hB:(I.R (.l i)).length<=4096:=by have:=gV.cl i U;rw [Z] at this;exact this
     have kT:Wf I:=by
      have:=gV.wf;have e:I=(I.set (.w (aA z)) (kept++row.drop v)).set (.w (aA z)) (I.R (.w (aA z))):=by rw [set_set,eJ]
      rw [e];exact this.set (by simp) (by simp) (by simp) (by simp) (by simp) _
     have hw: ∀j,(I.R (.w j)).length<=262144:=fun j=>by
      by_cases e:j=aA z
      . rw [e,ac];omega
      . have:=gV.wl j;rw [ak (by simpa using e)] at this;exact this
     have ar: ∀ {u':World} {T':aG} {H3:Pt->Sl},Pw w u' b H H3 T'->T'.R (.w (aA z))=cur->H3 (.w (aA z))=H2 (.w (aA z))->∀ {K:World->Prop},
      (∀w3,Pw w w3 b H H3 (T'.set (.w (aA z)) (cur.set kp (i:Int)))->K w3)->aV (H2 (.w (aA z))).p (H2 (.w (aA z))).n (kp:Int) 1 fun a=> ∃w3,af a 0 [.int .i64 (i:Int)] u' w3/\K w3:=by
      intro u' T' H3 P e1 e2 K O;rw [<- e2];refine P.pm.Er (x:= .w (aA z)) rfl (by omega) rfl (by rw [e1];omega) (y:=(i:Int)) rfl rfl fun w3 h3 m3=>O w3 ?_;rw [e1,Int.toNat_natCast] at h3;exact P.trans (Pw.Mk h3 m3)
     have cc:(cur.set kp (i:Int)).take (kp+1)=kept++ [(i:Int)]:=by rw [lF (by omega),dd]
     have cT:(cur.set kp (i:Int)).drop (v+1)=row.drop (v+1):=by rw [zB (by omega),d']
     have a6:kept++ [(i:Int)]++row.drop (v+1)=kept++row.drop v:=by rw [J];simp
     have eN:(H2 (.l i)).n=(I.R (.l i)).length:=hu.len (.l i) rfl;refine ⟨_,rfl,_,_,_,ad hu.st rfl,hu.Jn U.1 rfl rfl fun g8 ek=> ⟨_,_,_,ek.get 1 _ rfl,?_⟩⟩;rw [eN];refine ao (fun r3=> ?_) (fun r3=> ?_)
     . have hF:((I.R (.l i)).length:Int)<2:=by simpa using r3
       have r3:(I.R (.l i)).length<2:=by omega
       refine ar Pu ac rfl fun g4 e5=> ?_;refine ⟨_,?_,kp+1,v+1,_,H2,kept++ [(i:Int)],cur.set kp (i:Int),wN (by omega) (by omega),wN (by omega) (by omega),rv,by omega,rfl,by simp [az],by simp [ay],cc,cT,aK,rfl,e5,by rw [set_set,a6];exact gV,
        x2.trans (iq.set (by simp) (by simp) (by simp) (by simp)),d2,by rw [ak (by simp)];exact bv,fun k O ag=> ?_⟩
       . omega
       . rw [set_set,a6];by_cases e:k=i
         . subst e;intro c0;exact absurd (gV.o2 k O (by rw [Z];exact r3)) c0
         . refine pg k O fun hm=> ?_;rw [J] at hm;rcases List.mem_cons.1 hm with h|h
           . omega
           . exact ag h
     . have r3:2<=(I.R (.l i)).length:=by simp at r3;omega
       refine (F3 hu kT U.1 b7 (by omega) (fun j=>by have:=hw j;omega) r3 z).mono ?_;rintro e g9 ⟨st,br,rfl,s',H3,V3,fi,kv⟩;have vz: ∀y,dR I.vars y->0<=I.val y->aA y≠aA z:=fun y _ hy e=>by
        rw [kj e] at hy;have h1:(I.set (.w (aA z)) (kept++row.drop v)).val z<0:=(gV.Fc (by rw [show (I.set (.w (aA z)) (kept++row.drop v)).vars=T.vars from c7];exact bY)).2 (by
         rw [ak (by simp),<- d9];exact bE dk)
        rw [iI (s:=I) (ak (by simp))] at h1;omega
       have vm: ∀y∈iX (I.R (.l i)) z,0<=I.val y->aA y≠aA z:=fun y hy h0=>vz y (b7 y ((m9 _ _).mem_iff.1 hy)) h0;have Y:H3 (.w (aA z))=H2 (.w (aA z)):=kv _ (by simp) fun y hy h0 e=>vz y hy h0 (by injection e with e;exact e.symm);have b9:s'.R (.w (aA z))=cur:=(Ia V3 vm).trans ac;have V4:=Ht (r:=kept++row.drop v) V3 vm;rw [<- Z] at V4;have er:((I.set (.w (aA z)) (kept++row.drop v)).R .tr).getD (I.set (.w (aA z)) (kept++row.drop v)).done 0= -z:=by rw [ak (by simp)];exact d9
       have ea:(I.set (.w (aA z)) (kept++row.drop v)).done< ((I.set (.w (aA z)) (kept++row.drop v)).R .tr).length:=by rw [ak (by simp)];exact dk
       have a7:=Pu.trans fi;have hM:=a7.pm;cases st with
       |true=>
        obtain ⟨G5,p5,q5,x5,b5,l5,d5,_⟩:=t6 gV U (by rw [Z];exact r3) (by rw [Z];exact hz) ea er V4 (r:=kept++row.drop v) (fun _=>by rw [aK]) (fun h=>by cases h);rw [set_set] at G5 p5 q5 x5;have x6:iq T s':=x2.trans ((iq.set (x:= .w (aA z)) (by simp) (by simp) (by simp) (by simp)).trans (x5.trans (by
         have:=iq.set (s:=s'.set (.w (aA z)) (kept++row.drop v)) (x:= .w (aA z)) (by simp) (by simp) (by simp) (by simp) (l:=s'.R (.w (aA z)));rw [set_set,eJ] at this;exact this)))
        have fj:s'.done=T.done:=d5.trans d2;have c2:s'.R .lo=T.R .lo:=by
         rw [ak (by simp),ak (by simp)] at l5;exact l5.trans bv
        refine ⟨_,_,rfl,cj rfl (ar a7 b9 Y fun ei c3=> ?_)⟩;cases br with
        |true=>
         refine cj rfl ?_;rw [Q];have e1:IntKind.i64.wrap ((kp:Int)+1)=((kp+1:Nat):Int):=wN (by omega) (by omega);have e2:IntKind.i64.wrap ((v:Int)+1)=((v+1:Nat):Int):=wN (by omega) (by omega);rw [e1,e2,b6];refine gD (kp+1) row.length (H' (.w (aA z))).c rfl rfl rfl (Nat.le_refl _) b' (by omega) ?_;refine gD (v+1) row.length (H' (.w (aA z))).c rfl rfl rfl (Nat.le_refl _) b' (by omega) ?_;have aw:=c3.pm.drew;have ey:eC aC ei.drew (H' (.w (aA z))).p (H' (.w (aA z))).c (cur.set kp (i:Int)):=by
          have:=aw.row (.w (aA z)) rfl;rw [aK,Y,Q] at this;exact this
         have vw:Vw (Value.int .i64) ei.drew (if (H' (.w (aA z))).c=v+1 then (H' (.w (aA z))).p else (H' (.w (aA z))).p.map (·.add ((v+1)*1))) (row.drop (v+1)):=by
          split
          . have:row.drop (v+1)= []:=List.drop_of_length_le (by omega);rw [this];exact Vw.nil
          . have:=ey.vw.part (i:=v+1) (m:=row.length - (v+1)) (by simp [ay];omega);rw [cT,List.take_of_length_le (by simp)] at this;exact this
         refine ey.LX dN (o:=kp+1) vw (by simp) (by omega) (fun h=> ?_) (by simp [ay];omega) fH fun dc dq eu hE=> ?_
         . rw [if_neg (by omega)]
         have bb:(cur.set kp (i:Int)).take (kp+1)++row.drop (v+1)=kept++row.drop v:=by rw [cc,a6]
         rw [bb] at dq;have d4:=aw.DT (x:= .w (aA z)) rfl (w':=dc.drew) (eu.trans (aE.refl _).drew|>.mono fun k _ e=>by rw [Y,Q];exact e);have gr:=aw.st;have gw: ¬aI (H' (.w (aA z))).p=some b:=by
          have:=aw.ir (x:= .w (aA z)) (by simp) (y:= .st) (by simp) (k:=b) rfl;rw [Y,Q] at this;exact this
         refine ⟨(·=dc.drew),rfl,_,rfl,_,_,_,eF (ad d4.st rfl),(fT b3 _).mono ?_⟩;rintro e ho ⟨rfl,rfl⟩;have e3:IntKind.i64.wrap (((kp+1:Nat):Int)+ ((row.length - (v+1):Nat):Int))=((kp+1+ (row.length - (v+1)):Nat):Int):=wN (by omega) (by omega);refine ⟨_,rfl,rfl,?_⟩;rw [e3];refine gD 0 (kp+1+ (row.length - (v+1))) (H' (.w (aA z))).c rfl rfl rfl (Nat.le_refl _) (by omega) (Nat.zero_le _) ?_;rw [Lx,Nat.sub_zero,Nat.sub_zero];have gf:eC aC dc.drew (H' (.w (aA z))).p (H' (.w (aA z))).c (kept++row.drop v):=by
          have:=dq.drew.take (k:=(kept++row.drop v).length) (by simp);rw [List.take_left'] at this
          . exact this
          . rfl
         have fs:kp+1+ (row.length - (v+1))=(kept++row.drop v).length:=by simp [az];omega
         refine aw.Cm (i:=aA z) (by show _<2* (s'.vars+1);rw [x6.v];exact cg) gf d4 (fun k O=> .inl (by rw [Y,Q];exact O)) fs aw.wn rfl fun f' eb fb=> ?_;rw [set_set] at eb;have fo:Pw w f' b H _ (s'.set (.w (aA z)) (kept++row.drop v)):=c3.drew.trans (Pw.head (x:= .w (aA z)) (z:= .wa) (by simp) eb (eu.trans (aE.refl _).drew|>.mono fun k _ e=>by rw [Y,Q];exact e) fb fun k O=> .inl (by rw [Y,Q];exact O));refine ⟨_,rfl,_,_,fo,G5,xT.trans (x6.trans (iq.set (by simp) (by simp) (by simp) (by simp))),.inr ⟨i,rfl,x5.mB.2 U,fun x hx=> ?_⟩⟩;have hb:=b5 rfl x (by
          rw [x5.a] at hx;exact (gV.ca i U x).2 hx)
         exact x5.mem hb
        |false=>
         refine bm rfl ?_;refine ⟨_,?_,kp+1,v+1,_,H3,kept++ [(i:Int)],cur.set kp (i:Int),wN (by omega) (by omega),wN (by omega) (by omega),rv,by omega,rfl,by simp [az],by simp [ay],cc,cT,aK,Y,c3,by rw [set_set,a6];exact G5,
          x6.trans (iq.set (by simp) (by simp) (by simp) (by simp)),fj,by rw [ak (by simp)];exact c2,fun k O ag=> ?_⟩
         . omega
         . rw [set_set,a6];by_cases e:k=i
           . subst e;exact p5 rfl
           . refine q5 k e (pg k (x5.mB.1 O) fun hm=> ?_);rw [J] at hm;rcases List.mem_cons.1 hm with h|h
             . omega
             . exact ag h
       |false=>
        have f0:br=false:=by cases V3;rfl
        subst f0;have cb:=gV.w3 (aA z);rw [aK,J] at cb;have gb: ∀c,c∈kept++row.drop (v+1)↔c∈(I.set (.w (aA z)) (kept++row.drop v)).R (.w (aA z))/\c≠(i:Int):=fun c=>by
         rw [aK,J,List.mem_append,List.mem_append,List.mem_cons];have h1:=List.nodup_append.1 cb;have h2:=List.nodup_cons.1 h1.2.1;constructor
         . rintro (h|h)
           . exact ⟨.inl h,fun e=>h1.2.2 c h (i:Int) (by simp) e⟩
           . exact ⟨.inr (.inr h),fun e=>h2.1 (e▸h)⟩
         . rintro ⟨h|h|h,ce⟩
           . exact .inl h
           . exact absurd h ce
           . exact .inr h
        have et:(kept++row.drop (v+1)).Sublist (kept++ (i:Int)::row.drop (v+1)):=List.Sublist.append (List.Sublist.refl _) (List.sublist_cons_self _ _);obtain ⟨G5,p5,q5,x5,b5,l5,d5,_⟩:=t6 gV U (by rw [Z];exact r3) (by rw [Z];exact hz) ea er V4 (r:=kept++row.drop (v+1)) (fun h=>by cases h) (fun _=> ⟨gb,et.nodup cb⟩);rw [set_set] at G5 p5 q5 x5;have x6:iq T s':=x2.trans ((iq.set (x:= .w (aA z)) (by simp) (by simp) (by simp) (by simp)).trans (x5.trans (by
         have:=iq.set (s:=s'.set (.w (aA z)) (kept++row.drop (v+1))) (x:= .w (aA z)) (by simp) (by simp) (by simp) (by simp) (l:=s'.R (.w (aA z)));rw [set_set,eJ] at this;exact this)))
        have c2:s'.R .lo=T.R .lo:=by
         rw [ak (by simp),ak (by simp)] at l5;exact l5.trans bv
        refine ⟨_,_,rfl,bm rfl (bm rfl ?_)⟩;refine ⟨_,?_,kp,v+1,s',H3,kept,cur,rfl,wN (by omega) (by omega),rv,by omega,rfl,az,ay,dd,d',b9,Y,a7,G5,x6,d5.trans d2,c2,fun k O ag=> ?_⟩
        . omega
        . by_cases e:k=i
          . subst e;exact p5 rfl
          . refine q5 k e (pg k (x5.mB.1 O) fun hm=> ?_);rw [J] at hm;rcases List.mem_cons.1 hm with h|h
            . omega
            . exact ag h
   . have r2:v=row.length:=by rw [b6] at r2;simp at r2;omega
     subst r2;rw [List.drop_length,List.append_nil] at gV;have aa:=hu.drew;refine ⟨(·=u.drew),rfl,_,rfl,_,_,_,eF (ad aa.st rfl),(fT b3 _).mono ?_⟩;rintro e hL ⟨rfl,rfl⟩;refine ⟨_,rfl,rfl,?_⟩;rw [b6];refine gD 0 kp (H' (.w (aA f))).c rfl rfl rfl (Nat.le_refl _) (by omega) (Nat.zero_le _) ?_;rw [Lx,Nat.sub_zero,Nat.sub_zero];have fP:eC aC u.drew (H' (.w (aA f))).p (H' (.w (aA f))).c kept:=by
      have:=(aa.row (.w (aA f)) rfl).take (k:=kp) (by rw [ac];omega);rw [ac,dd,Q] at this;exact this
     refine aa.Cm (i:=aA f) (by rw [c7];exact cg) fP ⟨aa.st,aa.c,aa.wa,fun y hy _=>aa.row y hy⟩ (fun k O=> .inl (by rw [Q];exact O)) az.symm aa.wn rfl fun e7 cp ga=> ?_;have fd:Pw w e7 b H _ (I.set (.w (aA f)) kept):=Pu.drew.trans (Pw.head (x:= .w (aA f)) (z:= .wa) (by simp) cp (aE.refl _) ga fun k O=> .inl (by rw [Q];exact O));refine ⟨_,rfl,_,ad cp.st rfl,_,rfl,?_⟩;have e1:IntKind.i64.wrap (((I.set (.w (aA f)) kept).done:Int)+1)=((I.done+1:Nat):Int):=wN rfl (by have:=gT.xh;have:=gT.d7;omega);refine cp.Cn (n:=I.done+1) e1 fun hj eT e8=> ?_;have gS:=Ds gV (by rw [ak (by simp)];exact dk) fun k O=>by
      have:=pg k O (by rw [List.drop_length];simp);rw [List.drop_length,List.append_nil] at this;exact this
     have an:iq I (I.set (.w (aA f)) kept):=iq.set (by simp) (by simp) (by simp) (by simp);have xS:iq T (I.set (.w (aA f)) kept).step:=x2.trans ⟨an.v,an.n,an.g,an.a,an.be,an.ds,an.tr⟩;refine ⟨_,?_,(I.set (.w (aA f)) kept).step,_,rfl,fd.trans ⟨eT,e8.mono fun k _ e=> ⟨.st,by rw [e];rfl⟩,fun x k O=> .inl ⟨x,O⟩⟩,gS,xT.trans xS,fun k O hm=> ?_⟩
     . show I.vars - (I.done+1)<T.vars - T.done;have:=gT.xh;rw [c7,d2];omega
     . have f1:(k:Int)∈T.R .lo:=by
        have e:(I.set (.w (aA f)) kept).step.R .lo=I.R .lo:=ak (s:=I) (x:= .w (aA f)) (y:= .lo) (l:=kept) (by simp);rw [e,bv] at hm;exact hm
       obtain ⟨x,hx,fa⟩:=lT k (xS.mB.1 O) f1;exact ⟨x,by rw [xS.a];exact hx,xS.mem fa⟩
 . have hd:(T.R .tr).length<=T.done:=by simp at r;omega
   exact ⟨_,rfl,T,H',P8.drew,gT,xT,.inl ⟨rfl,DY gT hd lT⟩⟩
end
end Go.Proofs.YtenmibfmhccmiaaGreat.W
