/- Layer 6: what a propagator's small functions answer. -/
import Derived.Test.YtenmibfmhccmiaaGreatQuotaA
import Derived.Test.YtenmibfmhccmiaaGreatSortA
import Derived.Laws.CopyRow
import Derived.Laws.IdiomCopy
namespace Go.Proofs.YtenmibfmhccmiaaGreat.W
open Go Go.Fw Go.RowKit Go.SoP Go.LiP
open Go.Proofs.Tryz (prog)
open Go.IntKind (i64)
section
variable {w w' w2:World} {b:Nat} {H:Pt->Sl} {s:aH} {l:Int}
abbrev bL (b:Nat):Value:= .pointer (some ⟨b,0,none⟩)
theorem Jq:mB prog ws ug 1=true:=by kernel_rfl
def dB (n:Nat) (l:Int):Prop:=l≠0/\ -(n:Int)<=l/\l<=n
def aA (l:Int):Nat:=if l<0 then (-2*l+1).toNat else (2*l).toNat
def aH.val (s:aH) (l:Int):Int:=if l<0 then -((s.R .va).getD (-l).toNat 0) else (s.R .va).getD l.toNat 0
def aH.bi (s:aH) (l:Int):Int:=(s.R .le).getD (bf l).toNat 0
def aH.kG (s:aH) (l:Int):Int:=(s.R .re).getD (bf l).toNat 0
def aH.rk (s:aH) (l:Int):Int:=if s.val l>=0 then 1048577 else s.bi l
structure Wf (s:aH):Prop where
 dS:s.vars<=1048576
 va:(s.R .va).length=s.vars+1
 vb: ∀i,(s.R .va).getD i 0=0\/(s.R .va).getD i 0=1\/(s.R .va).getD i 0= -1
 le:(s.R .le).length=s.vars+1
 re:(s.R .re).length=s.vars+1
 be:(s.R .be).length<=2000000
 tr:(s.R .tr).length<=2000000
 nc:s.nc<=262144
theorem dB.bf {n:Nat} (h:dB n l):1<=Go.Proofs.YtenmibfmhccmiaaGreat.W.bf l/\Go.Proofs.YtenmibfmhccmiaaGreat.W.bf l<=n:=by
 obtain ⟨h1,I,J⟩:=h;unfold Go.Proofs.YtenmibfmhccmiaaGreat.W.bf;split<;>omega
theorem dB.bd {n:Nat} (h:dB n l) (hn:n<=1048576): -1048576<=l/\l<=1048576:=by
 obtain ⟨h1,J,I⟩:=h;omega
theorem dB.neg {n:Nat} (h:dB n l):dB n (-l):=by
 obtain ⟨h1,I,J⟩:=h;exact ⟨by omega,by omega,by omega⟩
theorem rX {n:Nat} (h:dB n l):aA l<2* (n+1):=by
 obtain ⟨h1,I,J⟩:=h;unfold aA;split<;>omega
theorem fV (hl: -1048576<=l/\l<=1048576) (w:World):Calls prog il.id #[.int .i64 l] w fun e w'=>e= .returned (.int .i64 (bf l))/\w'=w:=by
 refine il.ak ?_;have e:imax l (i64.wrap (0 - l))=bf l:=by
  rw [aD (by omega) (by omega)];unfold imax bf;split<;>split<;>omega
 exact ⟨by rw [e],rfl⟩
theorem fW (hl: -1048576<=l/\l<=1048576) (w:World):Calls prog mR.id #[.int .i64 l] w fun e w'=>e= .returned (.int .i64 (aA l))/\w'=w:=by
 refine mR.ak ?_;refine aj (fun s=> ?_) (fun s=> ?_)
 . have s:l<0:=by simpa using s
   have e:i64.wrap (i64.wrap ((-2)*l)+1)=((aA l:Nat):Int):=by
    rw [aD (x:=(-2)*l) (by omega) (by omega),aD (by omega) (by omega)];unfold aA;rw [if_pos s];omega
   exact ⟨by rw [e],rfl⟩
 . have s: ¬l<0:=by simpa using s
   have e:i64.wrap (2*l)=((aA l:Nat):Int):=by
    rw [aD (by omega) (by omega)];unfold aA;rw [if_neg s];omega
   exact ⟨by rw [e],rfl⟩
theorem FI {x:Int} (h1: -128<=x) (I:x<128):IntKind.i8.wrap x=x:=by
 simp only [IntKind.wrap,IntKind.bits,IntKind.signed];simp only [Int.reducePow,Nat.reduceSub,Bool.true_and,decide_eq_true_eq,ge_iff_le];split<;>omega
theorem aH.pw (k:Wf s) (l:Int):s.val l=0\/s.val l=1\/s.val l= -1:=by
 unfold aH.val;split
 . rcases k.vb (-l).toNat with h|h|h<;>rw [h]<;>simp
 . exact k.vb l.toNat
theorem mH (h:PM w b H s) (k:Wf s) (hl:dB s.vars l):Calls prog gM.id #[bL b,.int .i64 l] w fun e w'=>e= .returned (.int .i8 (s.val l))/\w'=w:=by
 have hb:=hl.bd k.dS;obtain ⟨h1,O,J⟩:=hl;refine gM.ak ?_;refine aj (fun r=> ?_) (fun r=> ?_)
 . have r:l<0:=by simpa using r
   have e:i64.wrap (0 - l)= -l:=by rw [aD (by omega) (by omega)];omega
   rw [show i64.wrap (0 - l)= -l from e];refine ⟨_,rfl,_,_,_,ae h.st rfl,h.vJ (x:= .va) rfl (by omega) rfl (by rw [k.va];omega) fun a ha I=> ⟨_,I,?_,rfl⟩⟩;have:=k.vb (-l).toNat;rw [FI (by omega) (by omega)];unfold aH.val;rw [if_pos r];simp
 . have r: ¬l<0:=by simpa using r
   refine ⟨_,rfl,_,_,_,ae h.st rfl,h.vJ (x:= .va) rfl (by omega) rfl (by rw [k.va];omega) fun a ha I=> ⟨_,I,?_,rfl⟩⟩;unfold aH.val;rw [if_neg r]
theorem IS (h:PM w b H s) (k:Wf s) (hl:dB s.vars l):Calls prog fz.id #[bL b,.int .i64 l] w fun e w'=>e= .returned (.int .i64 (s.rk l))/\ky w w':=by
 have hb:=hl.bd k.dS;have ha:=hl.bf;refine fz.ak ?_;refine (mH h k hl).mono ?_;rintro e w1 ⟨rfl,rfl⟩;refine ⟨_,rfl,aj (fun r=> ⟨?_,ky.refl _⟩) (fun r=> ?_)⟩
 . unfold aH.rk;rw [if_pos (by simpa using r)]
 . refine ⟨(·=w1.drew),rfl,_,rfl,_,_,_,dW (ae h.st rfl),(fV hb _).mono ?_⟩;rintro e w2 ⟨rfl,rfl⟩;refine ⟨_,rfl,rfl,h.drew.vJ (x:= .le) rfl (by omega) rfl (by rw [k.le];omega) fun a ha I=> ⟨_,dW I,?_,(ky.refl _).drew⟩⟩;unfold aH.rk;rw [if_neg (by simpa using r)];rfl
end
section
variable {w w' w2 w3:World} {b:Nat} {H H' H2:Pt->Sl} {s t u:aH} {l:Int}
structure Pw (w w':World) (b:Nat) (H H':Pt->Sl) (s':aH):Prop where
 pm:PM w' b H' s'
 mod:aF (fun k=> ∃x,own b H x=some k) w w'
 ft: ∀x k,own b H' x=some k->(∃y,own b H y=some k)\/w.heap.size<=k
theorem Pw.refl (h:PM w' b H s) (g:ao w w'):Pw w w' b H H s:=⟨h,g.mono fun _ _ e=>e.elim,fun x _ I=> .inl ⟨x,I⟩⟩
theorem Pw.trans (h:Pw w w2 b H H2 t) (k:Pw w2 w3 b H2 H' u):Pw w w3 b H H' u:=by
 refine ⟨k.pm,h.mod.then k.mod fun j I ⟨x,e⟩=> ?_,fun x j I=> ?_⟩
 . rcases h.ft x j e with e|e
   . exact e
   . omega
 . rcases k.ft x j I with ⟨y,e⟩|e
   . exact h.ft y j e
   . exact .inr (Nat.le_trans h.mod.size e)
theorem Pw.grow (h:Pw w w2 b H H' t) (g:ao w2 w3):Pw w w3 b H H' t:=h.trans (.refl (h.pm.grow g) g)
theorem Pw.drew (h:Pw w w2 b H H' t):Pw w w2.drew b H H' t:=h.grow (aF.refl _).drew
theorem Pw.cM {w0:World} (g:ao w0 w) (h:Pw w w2 b H H' t):Pw w0 w2 b H H' t:=
 ⟨h.pm,(g.mono fun _ _ e=>e.elim).trans h.mod,fun x k I=> (h.ft x k I).imp id fun e=>Nat.le_trans g.size e⟩
theorem Pw.row (h:PM w' b H t) {x:Pt} (J:x.row=true) (m:aF (fun k=>aJ (H x).p=some k) w w'):Pw w w' b H H t:=
 ⟨h,m.mono fun k _ e=> ⟨x,by rw [bM (cY J).1];exact e⟩,fun x _ I=> .inl ⟨x,I⟩⟩
theorem Pw.head {x z:Pt} {q:Sl} (J:x≠ .st) (h:PM w3 b (bh H x q) t) (m:aF (fun k=>aJ (H x).p=some k) w w2) (m2:aF (fun k=>own b H z=some k) w2 w3)
 (hp: ∀k,aJ q.p=some k->aJ (H x).p=some k\/w.heap.size<=k):Pw w w3 b H (bh H x q) t:=by
 refine ⟨h,(m.mono fun k _ e=> ⟨x,by rw [bM J];exact e⟩).trans (m2.mono fun k _ e=> ⟨z,e⟩),fun y k I=> ?_⟩;by_cases e:y=x
 . subst e;rw [bM J,aX] at I;rcases hp k I with e|e
   . exact .inl ⟨y,by rw [bM J];exact e⟩
   . exact .inr e
 . refine .inl ⟨y,?_⟩;cases y<;>first|exact I| (simp only [own] at I ⊢;rwa [aM e] at I)
theorem Ah (h:PM w b H s) {J:Option Addr} {x:Pt} {w1:World} (g:w.heap.size<=w1.heap.size) (hp:J=(H x).p\/J=some ⟨w1.heap.size,0,none⟩):
 (∀k,aJ J=some k->aJ (H x).p=some k\/∀y,own b H y≠some k)/\(∀k,aJ J=some k->aJ (H x).p=some k\/w.heap.size<=k):=by
 rcases hp with rfl|rfl
 . exact ⟨fun k I=> .inl I,fun k I=> .inl I⟩
 . exact ⟨fun k I=> .inr (h.bV (by have:=aO I;omega)),fun k I=> .inr (by have:=aO I;omega)⟩
theorem PM.mF (h:PM w b H s) {x:Pt} (I:x.field=true) (y:Int) (hlen:(s.R x).length<=4000000) {n:Nat} (hn:n=(H x).n) {K:World->Prop}
 (J: ∀w3 q,PM w3 b (bh H x q) (s.set x (s.R x++ [y]))->Pw w w3 b H (bh H x q) (s.set x (s.R x++ [y]))->K w3):
 ∀V w1,aY (.cells #[.int .i64 y] aC) w V w1->∃w2,∃ (U:Option Addr) (n' c':Nat),(Builtin.append_ #[aI,aI] aI #[.slice (H x).p n (H x).c,.slice (some (Addr.mk V 0 none)) 1 1]).run prog w1= .ok (.slice U n' c') w2/\
  ∃a:Addr,(some ⟨b,0,none⟩:Option Addr)=some a/\∃w3,ah (a.add x.off) 0 [.slice U n' c'] w2 w3/\K w3:=by
 intro V w1 h1;have hr:=qe I;have X:x.f=Value.int .i64:=by cases x<;>simp [Pt.field] at I<;>rfl
 have Y:x.T=aC:=by cases x<;>simp [Pt.field] at I<;>rfl
 have Q:=h.grow h1.mod;have o:da aC w1 (H x).p (H x).c (s.R x):=by have:=Q.row x hr;rw [X,Y] at this;exact this
 refine o.mF c4 y h1.has rfl (by rw [hn,h.len x hr]) eV (by omega) fun w2 U c' o2 m2 O ac=> ⟨_,rfl,?_⟩
 have g1:=h1.mod.size;obtain ⟨f1,f2⟩:=Ah h (x:=x) g1 O;refine Q.head I (c':=c') (l':=s.R x++ [y]) (by rw [X,Y];exact o2) (Q.Fh hr m2) (fun k J=> (f1 k J)) (by simp) fun w3 Z m3=>J w3 _ Z (Pw.head (z:= .st) (cY hr).1 Z ((h1.mod.mono fun _ _ e=>e.elim).trans m2) (m3.mono fun k _ e=>by rw [e];rfl) f2)
def aH.put (s:aH) (l r:Int):aH:=
 (((s.set .va ((s.R .va).set (bf l).toNat (if l<0 then -1 else 1))).set .le ((s.R .le).set (bf l).toNat (s.R .be).length)).set .re ((s.R .re).set (bf l).toNat r)).set .tr (s.R .tr++ [l])
theorem Cu (h:PM w b H s) (k:Wf s) (hl:dB s.vars l) (r:Int):Calls prog gI.id #[bL b,.int .i64 l,.int .i64 r] w fun e w'=>e= .returned (.tuple #[])/\∃q,Pw w w' b H (bh H .tr q) (s.put l r):=by
 have hb:=hl.bd k.dS;have ha:=hl.bf;have b':=hl;obtain ⟨l1,l2,l3⟩:=b';have sz: ∀x,x≠Pt.va->∀V,(s.set .va V).R x=s.R x:=fun x hx V=>aM hx;have tail: ∀Q:World,PM Q b H (s.set .va ((s.R .va).set (bf l).toNat (if l<0 then -1 else 1)))->Pw w.drew Q b H H (s.set .va ((s.R .va).set (bf l).toNat (if l<0 then -1 else 1)))->
  (∃I:World->Prop,I Q.drew/\
  ∃bc,(some ⟨b,0,none⟩:Option Addr)=some bc/\∃ad aa ay,iH I (bc.add 4) (.slice ad aa ay)/\
  Calls prog il.id #[.int .i64 l] Q.drew fun e bk=> ∃aw,e= .returned (.int .i64 aw)/\
  I bk/\∃ax,(some ⟨b,0,none⟩:Option Addr)=some ax/\∃Y ag a_,iH I (ax.add 5) (.slice Y ag a_)/\
  Calls prog il.id #[.int .i64 l] bk fun e bb=> ∃b3,e= .returned (.int .i64 b3)/\
  I bb/\∃bv,(some ⟨b,0,none⟩:Option Addr)=some bv/\∃a6 ap bx,iH I (bv.add 7) (.slice a6 ap bx)/\
  aP ad aa aw 1 fun a46=>
  ∃aT,ah a46 0 [.int .i64 (ap:Int)] bb aT/\
  aP Y ag b3 1 fun b6=>
  ∃av,ah b6 0 [.int .i64 r] aT av/\
  ∃a50,(some ⟨b,0,none⟩:Option Addr)=some a50/\∃O U ac,av.cell? (a50.add 6)=some (.slice O U ac)/\
  ∀az bY,aY (.cells #[.int .i64 l] aC) av az bY->
  ∃a7 an Z X,(Builtin.append_ #[aI,aI] aI #[.slice O U ac,.slice (some (Addr.mk az 0 none)) 1 1]).run prog bY= .ok (.slice an Z X) a7/\
  ∃bu,(some ⟨b,0,none⟩:Option Addr)=some bu/\∃b4,ah (bu.add 6) 0 [.slice an Z X] a7 b4/\
  ((Ending.returned (.tuple #[])= .returned (.tuple #[]))/\∃q,Pw w b4 b H (bh H .tr q) (s.put l r))):=by
  intro Q J p7;generalize hV:(s.R .va).set (bf l).toNat (if l<0 then -1 else 1)=V at J p7;refine ⟨(·=Q.drew),rfl,_,rfl,_,_,_,dW (ae J.drew.st rfl),(fV hb _).mono ?_⟩;rintro e w8 ⟨rfl,rfl⟩;refine ⟨_,rfl,rfl,_,rfl,_,_,_,dW (ae J.drew.st rfl),(fV hb _).mono ?_⟩;rintro e w9 ⟨rfl,rfl⟩;refine ⟨_,rfl,rfl,_,rfl,_,_,_,dW (ae J.drew.st rfl),J.drew.FB (x:= .le) rfl (by omega) rfl (by rw [sz _ (by simp),k.le];omega) (y:=(s.R .be).length) (by rw [h.len .be rfl];rfl) rfl fun ce a' cc=> ?_⟩;refine a'.FB (x:= .re) rfl (by omega) rfl (by simp [aH.set,bh,k.re];omega) (y:=r) rfl rfl fun cg ar b_=> ?_;have b7:=(p7.drew.trans (Pw.row a' (x:= .le) rfl cc)).trans (Pw.row ar (x:= .re) rfl b_);refine ⟨_,rfl,_,_,_,ae ar.st rfl,?_⟩;refine ar.mF (x:= .tr) rfl l (by have:=k.tr;simp [aH.set,bh];omega) rfl fun cT q c0 cb=> ?_;refine ⟨rfl,q,?_⟩;have b8:s.put l r=((((s.set .va V).set .le (((s.set .va V).R .le).set (bf l).toNat ((s.R .be).length))).set .re ((((s.set .va V).set .le (((s.set .va V).R .le).set (bf l).toNat ((s.R .be).length))).R .re).set (bf l).toNat r)).set .tr
   ((((s.set .va V).set .le (((s.set .va V).R .le).set (bf l).toNat ((s.R .be).length))).set .re ((((s.set .va V).set .le (((s.set .va V).R .le).set (bf l).toNat ((s.R .be).length))).R .re).set (bf l).toNat r)).R .tr++ [l])):=by
   simp [aH.put,<- hV,aH.set,bh]
  rw [b8];exact (b7.trans cb).cM (aF.refl w).drew
 refine gI.ak ?_;refine ⟨(·=w.drew),rfl,_,rfl,_,_,_,dW (ae h.drew.st rfl),(fV hb _).mono ?_⟩;rintro e w1 ⟨rfl,rfl⟩;refine ⟨_,rfl,rfl,h.drew.FB (x:= .va) rfl (by omega) rfl (by rw [k.va];omega) (y:=1) rfl rfl fun w3 h3 m3=>aj (fun r=> ?_) (fun r=> ?_)⟩
 . have r:l<0:=by simpa using r
   have e:i64.wrap (0 - l)=bf l:=by rw [aD (by omega) (by omega)];unfold bf;rw [if_pos r];omega
   rw [e];refine ⟨_,rfl,_,_,_,ae h3.st rfl,h3.FB (x:= .va) rfl (by omega) rfl (by simp [aH.set,aX,k.va];omega) (y:= -1) rfl rfl fun Q J m7=> ?_⟩;have e7:(s.set .va ((s.R .va).set (bf l).toNat 1)).set .va (((s.set .va ((s.R .va).set (bf l).toNat 1)).R .va).set (bf l).toNat (-1))=s.set .va ((s.R .va).set (bf l).toNat (if l<0 then -1 else 1)):=by
    rw [if_pos r];simp only [aH.set,aX,List.set_set];congr 1;funext y;simp only [bh];split<;>rfl
   rw [e7] at J;have p7:=(Pw.row h3 (x:= .va) rfl m3).trans (Pw.row J (x:= .va) rfl m7);exact tail Q J p7
 . have r: ¬l<0:=by simpa using r
   have p3:=Pw.row h3 (x:= .va) rfl m3;refine tail w3 ?_ ?_
   . rw [if_neg r];exact h3
   . rw [if_neg r];exact p3
end
section
variable {w w' w2 w3:World} {b:Nat} {H H' H2:Pt->Sl} {s t u:aH} {l:Int}
def xC (n:Nat) (l:Int):Bool:=bq l && decide (bf l<=n)
theorem ir {n:Nat} (hn:n<=1048576):xC n l=true↔dB n l:=by
 unfold xC bq dB bf;simp only [Bool.and_eq_true,decide_eq_true_eq];split<;>omega
theorem zJ (h:PM w b H s) (k:Wf s): ∃a,(H .va).p=some a:=by
 rcases (h.row .va rfl).un with ⟨_,_,e⟩| ⟨g,_,e,_⟩
 . have:=k.va;rw [e] at this;simp at this
 . exact ⟨_,e⟩
theorem tG (h:PM w b H s) (k:Wf s) (l:Int):Calls prog jh.id #[bL b,.int .i64 l] w fun e w'=>e= .returned (.bool (xC s.vars l))/\ao w w':=by
 refine jh.ak ?_;obtain ⟨Y,J⟩:=zJ h k;refine ⟨fun u=>ao w u,(aF.refl w).drew,cu rfl ⟨_,rfl,_,_,_,fun u g=>ae (h.grow g).st rfl,?_⟩⟩;rw [J];refine cu rfl ?_;intro X w1 h1;have Q:ao w w1:=(aF.refl w).drew.trans h1.mod;have v1:Vw (Value.int .i64) w1 (some ⟨X,0,none⟩) [l]:=by
  intro j O;have O:j=0:=by simpa using O
  subst O;exact ⟨_,rfl,ae h1.has rfl⟩
 refine ⟨Q,(fR v1 rfl (by simp [maxLen])).mono ?_⟩;rintro e w2 ⟨rfl,U⟩;have I:=Q.trans U;have V:iy [l]=bq l:=by simp [iy]
 refine ⟨_,rfl,I,?_⟩;rw [V];cases hl:bq l with
 |false=>exact bm rfl ⟨by simp [xC,hl],I⟩
 |true=>
  refine cu rfl ((fV (cx hl).2 _).mono ?_);rintro e w3 ⟨rfl,rfl⟩;exact ⟨_,rfl,I,_,rfl,_,fun u g=>ae (h.grow g).st rfl,by simp [xC,hl],I⟩
def aH.value (s:aH) (l:Int):Int:=if xC s.vars l then s.val l else 0
def aH.lP (s:aH) (l:Int):Int:=if xC s.vars l && s.val l !=0 then s.bi l else -1
def aH.dY (s:aH) (l:Int):Int:=if xC s.vars l && s.val l !=0 then s.kG l else -1
theorem An (h:PM w b H s) (k:Wf s) (l:Int):Calls prog eB.id #[bL b,.int .i64 l] w fun e w'=>e= .returned (.int .i64 (s.value l))/\ao w w':=by
 refine eB.ak ((tG h k l).mono ?_);rintro e w1 ⟨rfl,I⟩;refine ⟨_,rfl,?_⟩;cases hi:xC s.vars l with
 |false=>exact cu rfl ⟨by simp [aH.value,hi],I⟩
 |true=>
  refine bm rfl ((mH (h.grow I) k ((ir k.dS).1 hi)).mono ?_);rintro e w2 ⟨rfl,rfl⟩;refine ⟨_,rfl,?_,I⟩;have:=aH.pw k l;rw [aD (by omega) (by omega)];simp [aH.value,hi]
theorem E0 (h:PM w b H s) (k:Wf s) (l:Int):Calls prog eo.id #[bL b,.int .i64 l] w fun e w'=>e= .returned (.int .i64 (s.lP l))/\ao w w':=by
 refine eo.ak ((tG h k l).mono ?_);rintro e w1 ⟨rfl,I⟩;refine ⟨_,rfl,?_⟩;cases hi:xC s.vars l with
 |false=>exact cu rfl ⟨by simp [aH.lP,hi],I⟩
 |true=>
  have hv:=(ir k.dS).1 hi;have ha:=hv.bf;have h1:=h.grow I;refine bm rfl ((mH h1 k hv).mono ?_);rintro e w2 ⟨rfl,rfl⟩;refine ⟨_,rfl,aj (fun r=> ⟨by simp at r;simp [aH.lP,r],I⟩) (fun r=> ?_)⟩;refine ⟨(·=w2.drew),rfl,_,rfl,_,_,_,dW (ae h1.drew.st rfl),(fV (hv.bd k.dS) _).mono ?_⟩;rintro e w3 ⟨rfl,rfl⟩;refine ⟨_,rfl,rfl,h1.drew.vJ (x:= .le) rfl (by omega) rfl (by rw [k.le];omega) fun a _ J=> ⟨_,dW J,?_,I.drew⟩⟩;simp at r;simp [aH.lP,hi,r,aH.bi]
theorem EM (h:PM w b H s) (k:Wf s) (l:Int):Calls prog dE.id #[bL b,.int .i64 l] w fun e w'=>e= .returned (.int .i64 (s.dY l))/\ao w w':=by
 refine dE.ak ((tG h k l).mono ?_);rintro e w1 ⟨rfl,I⟩;refine ⟨_,rfl,?_⟩;cases hi:xC s.vars l with
 |false=>exact cu rfl ⟨by simp [aH.dY,hi],I⟩
 |true=>
  have hv:=(ir k.dS).1 hi;have ha:=hv.bf;have h1:=h.grow I;refine bm rfl ((mH h1 k hv).mono ?_);rintro e w2 ⟨rfl,rfl⟩;refine ⟨_,rfl,aj (fun r=> ⟨by simp at r;simp [aH.dY,r],I⟩) (fun r=> ?_)⟩;refine ⟨(·=w2.drew),rfl,_,rfl,_,_,_,dW (ae h1.drew.st rfl),(fV (hv.bd k.dS) _).mono ?_⟩;rintro e w3 ⟨rfl,rfl⟩;refine ⟨_,rfl,rfl,h1.drew.vJ (x:= .re) rfl (by omega) rfl (by rw [k.re];omega) fun a _ J=> ⟨_,dW J,?_,I.drew⟩⟩;simp at r;simp [aH.dY,hi,r,aH.kG]
theorem EQ (h:PM w b H s):Calls prog fx.id #[bL b] w fun e w'=>e= .returned (.int .i64 (s.R .be).length)/\w'=w:=by
 refine fx.ak (bm rfl ⟨_,rfl,_,_,_,ae h.st rfl,?_,rfl⟩);rw [h.len .be rfl]
theorem uz (h:PM w b H s) (ht:(s.R .tr).length<=1000000):Calls prog eD.id #[bL b] w fun e w'=> ∃ (q:Option Addr) (d:Nat),e= .returned (.slice q (s.R .tr).length d)/\da aC w' q d (s.R .tr)/\ao w w'/\(∀b,aJ q=some b->w.heap.size<=b):=by
 refine eD.ak (bm rfl ⟨_,rfl,_,_,_,ae h.st rfl,?_⟩);refine (iO (h.row .tr rfl).vw (h.len .tr rfl) (by rw [h.len .tr rfl];exact ht)).mono ?_;rintro e w1 ⟨q,d,rfl,o,g,f⟩;exact ⟨_,_,_,rfl,q,d,rfl,o,g,f⟩
def aH.is (s:aH) (i:Int):Bool:=decide (0<=i/\i<s.nc) && !s.gone i.toNat
theorem AS (h:PM w b H s) (i:Int):Calls prog gq.id #[bL b,.int .i64 i] w fun e w'=>e= .returned (.bool (s.is i))/\w'=w:=by
 refine gq.ak (cu rfl (aj (fun r=> ?_) fun r=> ?_))
 . have r:0<=i:=by simpa using r
   refine ⟨_,rfl,_,_,_,ae h.st rfl,aj (fun I=> ?_) fun I=> ?_⟩
   . have I:i<s.nc:=by rw [h.cn] at I;simpa using I
     refine ⟨_,rfl,_,_,_,ae h.st rfl,h.Kh (i:=i.toNat) (by omega) rfl (by omega) fun a J=> ⟨_,J.get 2 _ rfl,?_,rfl⟩⟩;simp [aH.is,r,I]
   . have I: ¬i<s.nc:=by rw [h.cn] at I;simpa using I
     exact ⟨by simp [aH.is,I],rfl⟩
 . have r: ¬0<=i:=by simpa using r
   exact ⟨by simp [aH.is,r],rfl⟩
theorem Ei (h:PM w b H s) (i:Int) (ha: ∀i,(s.R (.a i)).length<=1000000):Calls prog dF.id #[bL b,.int .i64 i] w fun e w'=>
 ∃ (q:Option Addr) (d:Nat),e= .returned (.tuple #[.slice q (if s.is i then s.R (.a i.toNat) else []).length d,.bool (s.is i)])/\da aC w' q d (if s.is i then s.R (.a i.toNat) else [])/\ao w w'/\(∀b,aJ q=some b->w.heap.size<=b):=by
 refine dF.ak ((AS h i).mono ?_);rintro e w1 ⟨rfl,rfl⟩;refine ⟨_,rfl,?_⟩;cases hi:s.is i with
 |false=>exact cu rfl ⟨none,0,rfl,Ow.nil _ _ _,aF.refl _,fun b e=>by simp [aJ] at e⟩
 |true=>
  have I:0<=i/\i<s.nc:=by simp [aH.is] at hi;exact hi.1
  refine bm rfl ⟨_,rfl,_,_,_,ae h.st rfl,h.Kh (i:=i.toNat) (by omega) rfl (by omega) fun a J=> ⟨_,_,_,J.get 0 _ rfl,?_⟩⟩;refine (iO (h.row (.a i.toNat) rfl).vw (h.len _ rfl) (by rw [h.len _ rfl];exact ha _)).mono ?_;rintro e w1 ⟨q,d,rfl,o,g,f⟩;exact ⟨_,_,_,rfl,q,d,rfl,o,g,f⟩
theorem MW {i:Int} {I:Nat} (h:bA w I #[.int .i64 i]) (x:Int):Calls prog cH.id #[.int .i64 x,.pointer (some ⟨I,0,none⟩)] w fun e w'=>e= .returned (.bool (x==i))/\ao w w':=
 cH.ak ⟨_,aQ h rfl,rfl,aF.refl _⟩
theorem NB {i:Int} {I:Nat} (h:bA w I #[.int .i64 i]) (x:Int):Calls prog dH.id #[.int .i64 x,.pointer (some ⟨I,0,none⟩)] w fun e w'=>e= .returned (.bool (x==i))/\ao w w':=
 dH.ak ⟨_,aQ h rfl,rfl,aF.refl _⟩
theorem Fa:fX prog cH.id=true:=by kernel_rfl
theorem Ex:fX prog dH.id=true:=by kernel_rfl
theorem LL (h:PM w b H s) (k:Wf s) {I:Nat} (h1:bA w I #[bL b]) {x:Int} (J:dB s.vars x):Calls prog cI.id #[.int .i64 x,.pointer (some ⟨I,0,none⟩)] w fun e w'=>e= .returned (.bool (decide (s.val x<0)))/\ao w w':=by
 refine cI.ak ⟨_,aQ h1 rfl,(mH h k J).mono ?_⟩;rintro e w1 ⟨rfl,rfl⟩;exact ⟨_,rfl,rfl,aF.refl _⟩
theorem Dt:fX prog cI.id=true:=by kernel_rfl
theorem Oq (h:PM w b H s) (k:Wf s) {I:Nat} (h1:bA w I #[bL b]) (x:Int):Calls prog d_.id #[.int .i64 x,.pointer (some ⟨I,0,none⟩)] w fun e w'=>e= .returned (.bool (!xC s.vars x))/\ao w w':=by
 refine d_.ak ⟨_,aQ h1 rfl,(tG h k x).mono ?_⟩;rintro e w1 ⟨rfl,g⟩;exact ⟨_,rfl,rfl,g⟩
theorem F3:fX prog d_.id=true:=by kernel_rfl
end
section
variable {w w' w0 w2 w3 wA:World} {b:Nat} {H H' H2:Pt->Sl} {s t u:aH} {l:Int}
theorem Wf.set {x:Pt} (k:Wf s) (h1:x≠ .va) (O:x≠ .le) (I:x≠ .re) (J:x≠ .be) (h5:x≠ .tr) (l:List Int):Wf (s.set x l):=
 ⟨k.dS,by simp only [aH.set,aM (Ne.symm h1)];exact k.va,by simp only [aH.set,aM (Ne.symm h1)];exact k.vb,by simp only [aH.set,aM (Ne.symm O)];exact k.le,by simp only [aH.set,aM (Ne.symm I)];exact k.re,
   by simp only [aH.set,aM (Ne.symm J)];exact k.be,by simp only [aH.set,aM (Ne.symm h5)];exact k.tr,k.nc⟩
theorem iX (e:t.R .va=s.R .va) (l:Int):t.val l=s.val l:=by unfold aH.val;rw [e]
theorem Ia (e:t.R .va=s.R .va) (I:t.R .le=s.R .le) (l:Int):t.rk l=s.rk l:=by unfold aH.rk aH.bi;rw [iX e,I]
theorem aq {x y:Pt} {l:List Int} (h:y≠x):(s.set x l).R y=s.R y:=aM h
theorem aK {x:Pt} {l:List Int}:(s.set x l).R x=l:=aX
theorem set_set {x:Pt} {l m:List Int}:(s.set x l).set x m=s.set x m:=by
 simp only [aH.set];congr 1;funext y;simp only [bh];split<;>rfl
theorem d7 {x:Pt}:s.set x (s.R x)=s:=by
 unfold aH.set;congr 1;funext y;simp only [bh];split
 . rename_i e;rw [e]
 . rfl
theorem PM.Eg (h:PM w0 b H t) {j:Nat} (hj:j<2* (t.vars+1)) (g:ao w0 wA) {n:Nat} {i:Int} (hb:bA wA n #[.int .i64 i]) (hlen:(t.R (.w j)).length<=4000000) {K:World->Prop}
 (U: ∀w3 q,Pw w0 w3 b H (bh H (.w j) q) (t.set (.w j) (t.R (.w j)++ [i]))->K w3) {I:Int} (X:I=j):
 ∃w2,∃ (O:Option Addr) (n' c':Nat),(Builtin.append_ #[aI,aI] aI #[.slice (H (.w j)).p (H (.w j)).n (H (.w j)).c,.slice (some (Addr.mk n 0 none)) 1 1]).run prog wA= .ok (.slice O n' c') w2/\
  aF (fun k=>aJ (H (.w j)).p=some k) w0 w2/\aP (H .wa).p (H .wa).n I 1 fun a=> ∃w3,ah a 0 [.slice O n' c'] w2 w3/\K w3:=by
 have Q:=h.grow g;have o:da aC wA (H (.w j)).p (H (.w j)).c (t.R (.w j)):=Q.row (.w j) rfl;refine o.mF c4 i hb rfl (h.len (.w j) rfl) eV (by omega) fun w2 O c' o2 m2 J V=> ?_;have m:aF (fun k=>aJ (H (.w j)).p=some k) w0 w2:=(g.mono fun _ _ e=>e.elim).trans m2;obtain ⟨Z,f2⟩:=Ah h (x:= .w j) g.size J;refine ⟨m,Q.DW hj o2 (Q.Fh rfl m2) Z (by simp) h.wn X fun w3 Y m3=>U w3 _ (Pw.head (z:= .wa) (by simp) Y m m3 f2)⟩
def wF (i:Int) (t:aH) (I:List Int):aH:=I.foldl (fun t x=>t.set (.w (aA x)) (t.R (.w (aA x))++ [i])) t
theorem Ez (i:Int) (t:aH) (I:List Int) (x:Int):wF i t (I++ [x])=(wF i t I).set (.w (aA x)) ((wF i t I).R (.w (aA x))++ [i]):=by simp [wF]
theorem pC (i:Int) {y:Pt} (J: ∀j,y≠ .w j): ∀ (I:List Int) (t:aH),(wF i t I).R y=t.R y
 | [],_=>rfl
 |_::I,_=> (pC i J I _).trans (aq (J _))
theorem nQ (i:Int): ∀ (I:List Int) (t:aH),(wF i t I).vars=t.vars/\(wF i t I).nc=t.nc/\(wF i t I).gone=t.gone/\(wF i t I).done=t.done
 | [],_=> ⟨rfl,rfl,rfl,rfl⟩
 |x::I,t=>nQ i I (t.set (.w (aA x)) (t.R (.w (aA x))++ [i]))
theorem Gr (i:Int) (j:Nat): ∀ (I:List Int) (t:aH),((wF i t I).R (.w j)).length<=(t.R (.w j)).length+I.length
 | [],_=>Nat.le_refl _
 |x::I,t=>by
  have:=Gr i j I (t.set (.w (aA x)) (t.R (.w (aA x))++ [i]));refine Nat.le_trans this ?_;by_cases e:aA x=j
  . subst e;rw [aK];simp;omega
  . rw [aq (fun h=>e (by injection h with h;exact h.symm))];simp
def xc (rk:Int->Int) (n:Nat) (l:List Int):Prop:= ∀t,t<n->∀j,t<=j->j<l.length->rk (l.getD j 0)<=rk (l.getD t 0)
def jX (s:aH) (i:Nat) (l':List Int):aH:=
 let u:=wF i (s.set (.l i) l') (l'.take 2)
 if l'.length<2\/s.val (l'.getD 1 0)<0 then u.set .lo (s.R .lo++ [(i:Int)]) else u
def qt (H H':Pt->Sl):Prop:= ∀x,(∀j,x≠ .w j)->x≠ .lo->H' x=H x
theorem qt.refl:qt H H:=fun _ _ _=>rfl
theorem qt.wt (h:qt H H') {j:Nat} {q:Sl}:qt H (bh H' (.w j) q):=fun x h1 I=>by rw [aM (h1 j)];exact h x h1 I
set_option linter.unusedVariables false in
theorem yj (h:PM w b H s) (k:Wf s) {i:Nat} (hi:i<s.nc) (hl: ∀x∈s.R (.l i),dB s.vars x) (hn:(s.R (.l i)).length<=100000) (hw: ∀j,(s.R (.w j)).length+2<=4000000) (fi:(s.R .lo).length<=4000000):
 Calls prog dG.id #[bL b,.int .i64 i] w fun e w'=>e= .returned (.tuple #[])/\∃l' H',xc s.rk 2 l'/\l'.Perm (s.R (.l i))/\Pw w w' b H H' (jX s i l')/\qt H H'/\(2<=l'.length->0<=s.val (l'.getD 1 0)->H' .lo=H .lo):=by
 have nc:=k.nc;refine dG.ak ?_;refine ⟨_,rfl,_,_,_,ae h.st rfl,h.Kh hi rfl rfl fun a3 dc=> ⟨_,_,_,dc.get 1 _ rfl,?_⟩⟩;have ay:(H (.l i)).n=(s.R (.l i)).length:=h.len (.l i) rfl;generalize hN:(s.R (.l i)).length=N at*
 refine ⟨fun K u m=> ∃ (t:Nat) (l':List Int),K=t/\t<=2/\t<=N/\m=2 - t/\l'.Perm (s.R (.l i))/\xc s.rk t l'/\Pw w u b H H (s.set (.l i) l'),
  ⟨_,0,s.R (.l i),rfl,Nat.zero_le _,Nat.zero_le _,rfl,List.Perm.refl _,fun t ht=>by omega,by rw [d7];exact Pw.refl h (aF.refl w)⟩,?_⟩
 rintro K w9 m _ ⟨t,l',rfl,ht,e8,rfl,pm,hb,P9⟩;have hlen:l'.length=N:=by rw [pm.length_eq,hN]
 have bc: ∀x∈l',dB s.vars x:=fun x hx=>hl x (pm.mem_iff.1 hx);have e2: ∀y,y≠Pt.l i->∀L,(s.set (.l i) L).R y=s.R y:=fun y hy L=>aq hy;have d4:ka 2 ((H (.l i)).n:Int)=((min 2 N:Nat):Int):=by rw [ay];unfold ka;split<;>omega
 rw [d4];refine aj (fun r=> ?_) (fun r=> ?_)
 . have r:t<min 2 N:=by simp at r;omega
   have h9:=P9.pm;have k9:Wf (s.set (.l i) l'):=k.set (by simp) (by simp) (by simp) (by simp) (by simp) l';refine ⟨fun B J u m=> ∃ (B' J':Nat),B=B'/\J=J'/\t<=B'/\B'<N/\B'<J'/\J'<=N/\m=N - J'/\(∀x,t<=x->x<J'->s.rk (l'.getD x 0)<=s.rk (l'.getD B' 0))/\ao w9 u,
    ⟨_,t,t+1,rfl,wN (by omega) (by omega),Nat.le_refl _,by omega,by omega,by omega,rfl,fun x x1 x2=> (by rw [show x=t by omega];exact Int.le_refl _),aF.refl _⟩,?_⟩
   rintro B J b' m _ ⟨B,J,rfl,rfl,tB,BN,BJ,JN,rfl,aa,ad⟩;refine aj (fun Q=> ?_) (fun Q=> ?_)
   . have Q:J<N:=by rw [ay] at Q;simpa using Q
     have ag:=h9.grow ad;have hr: ∀ {u:World} {X:Nat},ao w9 u->X<N->Calls prog fz.id #[bL b,.int .i64 (l'.getD X 0)] u fun e w'=>e= .returned (.int .i64 (s.rk (l'.getD X 0)))/\ao u w':=by
      intro u X g hX;refine (IS (h9.grow g) k9 (bc _ (bo (by omega)))).mono ?_;rintro e w' ⟨rfl,sm⟩;rw [Ia (s:=s) (aq (by simp)) (aq (by simp))];exact ⟨rfl,sm.mod⟩
     refine ⟨fun u=>ao b' u,(aF.refl _).drew,ag.vJ (x:= .l i) rfl (by omega) rfl (by rw [aK];omega) fun e7 _ b3=> ⟨_,fun u g=>dZ g b3 id,?_⟩⟩;rw [aK,Int.toNat_natCast];refine (hr ad.drew Q).mono ?_;rintro e et ⟨rfl,du⟩;have a7:=((aF.refl b').drew).trans du;refine ⟨_,rfl,a7,ag.vJ (x:= .l i) rfl (by omega) rfl (by rw [aK];omega) fun eH _ cc=> ⟨_,fun u g=>dZ g cc id,?_⟩⟩;rw [aK,Int.toNat_natCast];refine (hr (ad.trans a7) BN).mono ?_;rintro e e9 ⟨rfl,d9⟩;have b7:=ad.trans (a7.trans d9);refine ⟨_,rfl,aj (fun r3=> ?_) (fun r3=> ?_)⟩
     . have r3:s.rk (l'.getD B 0)<s.rk (l'.getD J 0):=by simpa using r3
       refine ⟨_,?_,J,J+1,rfl,wN (by omega) (by omega),by omega,Q,by omega,by omega,rfl,fun x x1 x2=> ?_,b7⟩
       . omega
       . by_cases e:x=J
         . rw [e];exact Int.le_refl _
         . have:=aa x x1 (by omega);omega
     . have r3:s.rk (l'.getD J 0)<=s.rk (l'.getD B 0):=by simpa using r3
       refine ⟨_,?_,B,J+1,rfl,wN (by omega) (by omega),tB,BN,by omega,by omega,rfl,fun x x1 x2=> ?_,b7⟩
       . omega
       . by_cases e:x=J
         . rw [e];exact r3
         . exact aa x x1 (by omega)
   . have Q:J=N:=by rw [ay] at Q;simp at Q;omega
     subst Q;have ag:=(h9.grow ad).drew;refine ag.vJ (x:= .l i) rfl (by omega) rfl (by rw [aK];omega) fun a25 _ cb=> ⟨_,cb,ag.vJ (x:= .l i) rfl (by omega) rfl (by rw [aK];omega) fun fv _ b4=> ⟨_,b4,?_⟩⟩
     rw [aK,Int.toNat_natCast,Int.toNat_natCast];refine ag.FB (x:= .l i) rfl (by omega) rfl (by rw [aK];omega) (y:=l'.getD B 0) rfl rfl fun e4 ed dk=>ed.FB (x:= .l i) rfl (by omega) rfl (by simp [aK];omega) (y:=l'.getD t 0) rfl rfl fun d' a_ dw=> ?_;rw [aK,Int.toNat_natCast,Int.toNat_natCast,set_set,aK,set_set] at a_;have dd:(l'.set t (l'.getD B 0)).set B (l'.getD t 0)=qI l' t B:=rfl;rw [dd] at a_;have ef:Pw w d' b H H (s.set (.l i) (qI l' t B)):=(P9.grow ad.drew).trans ⟨a_,(dk.mono fun k _ e=> ⟨.l i,e⟩).trans (dw.mono fun k _ e=> ⟨.l i,e⟩),fun x _ hk=> .inl ⟨x,hk⟩⟩;refine ⟨_,?_,t+1,_,wN (by omega) (by omega),by omega,by omega,rfl,(wI (by omega) (by omega)).trans pm,?_,ef⟩
     . omega
     . intro y hy j az hj;rw [rE] at hj;rw [kL (by omega) (by omega),kL (by omega) (by omega)];by_cases e:y=t
       . subst e;have ec:s.rk (l'.getD y 0)<=s.rk (l'.getD B 0):=aa y (Nat.le_refl _) (by omega);have e5:(if y=B then l'.getD y 0 else if y=y then l'.getD B 0 else l'.getD y 0)=l'.getD B 0:=by
          split
          . rename_i e;rw [<- e]
          . rw [if_pos rfl]
         rw [e5];split
         . exact ec
         . split
           . exact Int.le_refl _
           . exact aa j az (by omega)
       . rw [if_neg (show y≠B by omega),if_neg e];have a8:y<t:=by omega
         split
         . exact hb y a8 t (by omega) (by omega)
         . split
           . exact hb y a8 B (by omega) (by omega)
           . exact hb y a8 j az (by omega)
 . have r:t=min 2 N:=by simp at r;omega
   have h9:=P9.pm;have ce:xc s.rk 2 l':=fun y hy j az hj=>hb y (by omega) j az hj;have er:N<=(H (.l i)).c:=by
    rcases (h9.row (.l i) rfl).un with ⟨_,e1,e2⟩| ⟨_,_,_,_,e,_⟩
    . rw [aK] at e2;rw [e2] at hlen;simp at hlen;omega
    . rw [aK] at e;omega
   refine fe 0 (min 2 N) (H (.l i)).c rfl rfl rfl (Nat.le_refl _) (by omega) (Nat.zero_le _) ?_;have ep:(if (H (.l i)).c=0 then (H (.l i)).p else (H (.l i)).p.map (·.add (0*1)))=(H (.l i)).p:=by rw [IU];split<;>rfl
   rw [ep,Nat.sub_zero];refine ⟨fun V u m=> ∃ (v:Nat) (H':Pt->Sl),V=v/\v<=min 2 N/\m=min 2 N - v/\Pw w u b H H' (wF i (s.set (.l i) l') (l'.take v))/\qt H H'/\H' .lo=H .lo,
    ⟨_,0,H,rfl,Nat.zero_le _,rfl,P9,qt.refl,rfl⟩,?_⟩
   rintro V U m _ ⟨v,H',rfl,hv,rfl,av,kh,a6⟩;have O:=av.pm;have eL:H' (.l i)=H (.l i):=kh _ (by simp) (by simp);have I:(wF i (s.set (.l i) l') (l'.take v)).vars=s.vars:=(nQ i _ _).1;have ar:(wF i (s.set (.l i) l') (l'.take v)).R (.l i)=l':=by rw [pC i (by simp),aK]
   refine aj (fun Q=> ?_) (fun Q=> ?_)
   . have Q:v<min 2 N:=by simpa using Q
     rw [<- eL];have hx:=bc _ (bo (l:=l') (t:=v) (by omega));have an:=hx.bd k.dS;have d5:=rX hx;refine O.Jy (x:= .l i) rfl (n:=min 2 N) (by omega) (by rw [ar];omega) (by omega) fun a39 _ b6=> ⟨_,b6,?_⟩
     rw [ar,Int.toNat_natCast];have h0:=O.drew;generalize hT:wF i (s.set (.l i) l') (l'.take v)=T at*
     generalize hX:l'.getD v 0=X at*
     have Y:(T.R (.w (aA X))).length<=4000000:=by
      have:=Gr i (aA X) (l'.take v) (s.set (.l i) l');rw [hT,aq (by simp)] at this;have h2:=hw (aA X);have h3:(l'.take v).length<=2:=by simp;omega
      omega
     have Z:aA X<2* (T.vars+1):=by rw [I];exact d5
     have dV: ∀w3 q,Pw U.drew w3 b H' (bh H' (.w (aA X)) q) (T.set (.w (aA X)) (T.R (.w (aA X))++ [(i:Int)]))->
      ∃b8,b8<min 2 N - v/\∃ (v':Nat) (H2:Pt->Sl),i64.wrap ((v:Int)+1)=v'/\v'<=min 2 N/\b8=min 2 N - v'/\Pw w w3 b H H2 (wF i (s.set (.l i) l') (l'.take v'))/\qt H H2/\H2 .lo=H .lo:=by
      intro w3 q P;refine ⟨_,?_,v+1,_,wN (by omega) (by omega),by omega,rfl,?_,kh.wt (q:=q) (j:=aA X),by rw [aM (by simp)];exact a6⟩
      . omega
      . have:l'.take (v+1)=l'.take v++ [X]:=by
         rw [List.take_add_one,<- hX];simp [List.getD,show v<l'.length by omega]
        rw [this,Ez,hT];exact av.drew.trans P
     have aw: ∀ {a:Addr} {u:Value},U.drew.cell? a=some u->a.block≠0\/True->¬aJ (H' (.w (aA X))).p=some a.block->iH (aF (fun k=>aJ (H' (.w (aA X))).p=some k) U.drew) a u:=fun hc _ di u' g=>dZ g hc di;have cT: ¬aJ (H' (.w (aA X))).p=some b:=h0.iL (x:= .w (aA X)) (by simp) (y:= .st) (by simp) rfl;refine ⟨aF (fun k=>aJ (H' (.w (aA X))).p=some k) U.drew,aF.refl _,_,rfl,_,_,_,aw (ae h0.st rfl) (.inr trivial) (by rw [cy];exact cT),_,rfl,_,_,_,aw (ae h0.st rfl) (.inr trivial) (by rw [cy];exact cT),?_⟩;have rd: ∀ {n:Nat} {w1 w2:World},aY (.cells #[.int .i64 (i:Int)] aC) w1 n w2->ao w1 w2/\bA w2 n #[.int .i64 (i:Int)]:=fun h=> ⟨h.mod,h.has⟩
     have gm: ∀ {w1:World},ao U.drew w1->aF (fun k=>aJ (H' (.w (aA X))).p=some k) U.drew w1:=fun g=>g.mono fun _ _ e=>e.elim;have cA: ∀ {K:Addr->Prop},(∀a,iH (aF (fun k=>aJ (H' (.w (aA X))).p=some k) U.drew) a (H' (.w (aA X))).v->K a)->aP (H' .wa).p (H' .wa).n (aA X:Int) 1 K:=fun hk=>
      h0.NK Z rfl rfl fun a hb hc=>hk a (aw hc (.inr trivial) fun e=>h0.iL (x:= .w (aA X)) (by simp) (y:= .wa) (by simp) hb e)
     refine ⟨(fW an _).mono ?_,?_⟩
     . rintro e e3 ⟨rfl,rfl⟩;refine ⟨_,rfl,aF.refl _,(fW an _).mono ?_,?_⟩
       . rintro e fq ⟨rfl,rfl⟩;exact ⟨_,rfl,aF.refl _,cA fun a50 ha=> ⟨_,_,_,ha,fun ey fm bb=> ⟨gm bb.mod,h0.Eg Z bb.mod bb.has Y dV rfl⟩⟩⟩
       . intro fj eT ax;refine ⟨gm ax.mod,(fW an _).mono ?_⟩;rintro e fA ⟨rfl,rfl⟩;exact ⟨_,rfl,gm ax.mod,cA fun eN ha=> ⟨_,_,_,ha,h0.Eg Z ax.mod ax.has Y dV rfl⟩⟩
     . intro fb fo ap;refine ⟨gm ap.mod,(fW an _).mono ?_⟩;rintro e fu ⟨rfl,rfl⟩;refine ⟨_,rfl,gm ap.mod,(fW an _).mono ?_⟩;rintro e eu ⟨rfl,rfl⟩;exact ⟨_,rfl,gm ap.mod,cA fun fa ha=> ⟨_,_,_,ha,h0.Eg Z ap.mod ap.has Y dV rfl⟩⟩
   . have Q:v=min 2 N:=by simp at Q;omega
     subst Q;have dT:l'.take (min 2 N)=l'.take 2:=by
      rw [<- hlen];by_cases e:2<=l'.length
      . rw [Nat.min_eq_left e]
      . rw [Nat.min_eq_right (by omega),List.take_length,List.take_of_length_le (by omega)]
     rw [dT] at av O I ar;have kT:Wf (wF i (s.set (.l i) l') (l'.take 2)):=by
      have hR: ∀y,(∀j,y≠Pt.w j)->y≠ .l i->(wF i (s.set (.l i) l') (l'.take 2)).R y=s.R y:=fun y h1 h2=>by rw [pC i h1,aq h2]
      exact ⟨by rw [I];exact k.dS,by rw [hR _ (by simp) (by simp),I];exact k.va,by rw [hR _ (by simp) (by simp)];exact k.vb,by rw [hR _ (by simp) (by simp),I];exact k.le,by rw [hR _ (by simp) (by simp),I];exact k.re,
       by rw [hR _ (by simp) (by simp)];exact k.be,by rw [hR _ (by simp) (by simp)];exact k.tr,by rw [(nQ i _ _).2.1];exact k.nc⟩
     have ea:(wF i (s.set (.l i) l') (l'.take 2)).R .va=s.R .va:=by rw [pC i (by simp),aq (by simp)]
     have a':(wF i (s.set (.l i) l') (l'.take 2)).R .lo=s.R .lo:=by rw [pC i (by simp),aq (by simp)]
     have loose:(l'.length<2\/s.val (l'.getD 1 0)<0)->∀ {u:World},ao U u->∀w3 q,PM w3 b (bh H' .lo q) ((wF i (s.set (.l i) l') (l'.take 2)).set .lo ((wF i (s.set (.l i) l') (l'.take 2)).R .lo++ [(i:Int)]))->
      Pw u w3 b H' (bh H' .lo q) ((wF i (s.set (.l i) l') (l'.take 2)).set .lo ((wF i (s.set (.l i) l') (l'.take 2)).R .lo++ [(i:Int)]))->
      Ending.returned (.tuple #[])= .returned (.tuple #[])/\∃l' H',xc s.rk 2 l'/\l'.Perm (s.R (.l i))/\Pw w w3 b H H' (jX s i l')/\qt H H'/\(2<=l'.length->0<=s.val (l'.getD 1 0)->H' .lo=H .lo):=by
      intro hc u gu w3 q _ P;refine ⟨rfl,l',bh H' .lo q,ce,pm,?_,fun x h1 h2=>by rw [aM h2];exact kh x h1 h2,fun h1 h2=>by omega⟩;unfold jX;simp only [if_pos hc];rw [a'] at P;exact (av.grow gu).trans P
     rw [ay];refine aj (fun r3=> ?_) (fun r3=> ?_)
     . have eA:(N:Int)<2:=by simpa using r3
       have r3:l'.length<2:=by rw [hlen];omega
       refine ⟨_,rfl,_,_,_,ae O.st rfl,?_⟩;exact O.mF (x:= .lo) rfl (i:Int) (by rw [a'];omega) rfl fun w3 q p P=>loose (.inl r3) (aF.refl _) w3 q p P
     . have r3:2<=l'.length:=by rw [hlen];simp at r3;omega
       rw [<- eL];refine O.Jy (x:= .l i) rfl (by omega) (by rw [ar];omega) (by omega) fun e6 _ b5=> ⟨_,b5,?_⟩
       rw [ar];have hx:=bc _ (bo (l:=l') (t:=1) (by omega));refine (mH O kT (by rw [I];exact hx)).mono ?_;rintro e fk ⟨rfl,rfl⟩;rw [iX ea];refine ⟨_,rfl,aj (fun r4=> ?_) (fun r4=> ?_)⟩
       . have r4:s.val (l'.getD 1 0)<0:=by simpa using r4
         refine ⟨_,rfl,_,_,_,ae O.st rfl,?_⟩;exact O.mF (x:= .lo) rfl (i:Int) (by rw [a'];omega) rfl fun w3 q p P=>loose (.inr r4) (aF.refl _) w3 q p P
       . have r4: ¬s.val (l'.getD 1 0)<0:=by simpa using r4
         refine ⟨rfl,l',H',ce,pm,?_,kh,fun _ _=>a6⟩;unfold jX;simp only [if_neg (show ¬(l'.length<2\/s.val (l'.getD 1 0)<0) by omega)];exact av
end
section
variable {w w' w0 w2 w3 wA:World} {b:Nat} {H H' H2:Pt->Sl} {s t u:aH} {l:Int}
def lV (i:Int) (t:aH) (I:List Int):aH:=I.foldl (fun t x=>t.set (.w (aA x)) ((t.R (.w (aA x))).filter fun k=> !(k==i))) t
theorem Dm (i:Int) (t:aH) (I:List Int) (x:Int):lV i t (I++ [x])=(lV i t I).set (.w (aA x)) (((lV i t I).R (.w (aA x))).filter fun k=> !(k==i)):=by simp [lV]
theorem iB (i:Int) {y:Pt} (J: ∀j,y≠ .w j): ∀ (I:List Int) (t:aH),(lV i t I).R y=t.R y
 | [],_=>rfl
 |_::I,_=> (iB i J I _).trans (aq (J _))
theorem gZ (i:Int): ∀ (I:List Int) (t:aH),(lV i t I).vars=t.vars/\(lV i t I).nc=t.nc/\(lV i t I).gone=t.gone/\(lV i t I).done=t.done
 | [],_=> ⟨rfl,rfl,rfl,rfl⟩
 |x::I,t=>gZ i I (t.set (.w (aA x)) ((t.R (.w (aA x))).filter fun k=> !(k==i)))
theorem zY (i:Int) (j:Nat): ∀ (I:List Int) (t:aH),((lV i t I).R (.w j)).length<=(t.R (.w j)).length
 | [],_=>Nat.le_refl _
 |x::I,t=>by
  have:=zY i j I (t.set (.w (aA x)) ((t.R (.w (aA x))).filter fun k=> !(k==i)));refine Nat.le_trans this ?_;by_cases e:aA x=j
  . subst e;rw [aK];exact List.length_filter_le _ _
  . rw [aq (fun h=>e (by injection h with h;exact h.symm))];exact Nat.le_refl _
def lG (H H':Pt->Sl):Prop:= ∀x,(∀j,x≠ .w j)->H' x=H x
theorem lG.refl:lG H H:=fun _ _=>rfl
theorem lG.wt (h:lG H H') {j:Nat} {q:Sl}:lG H (bh H' (.w j) q):=fun x h1=>by rw [aM (h1 j)];exact h x h1
theorem lG.trans (h:lG H H2) (k:lG H2 H'):lG H H':=fun x I=> (k x I).trans (h x I)
theorem EL (h:PM w b H s) {i:Nat} (hn:(s.R (.l i)).length<=100000):(s.R (.l i)).length<=(H (.l i)).c/\ka 2 ((H (.l i)).n:Int)=((min 2 (s.R (.l i)).length:Nat):Int):=by
 have I:=h.len (.l i) rfl;refine ⟨?_,by rw [I];unfold ka;split<;>omega⟩;rcases (h.row (.l i) rfl).un with ⟨_,_,J⟩| ⟨_,_,_,_,e,_⟩
 . rw [J];exact Nat.zero_le _
 . exact e
theorem uV (h:PM w b H s) (hv:s.vars<=1048576) {i:Nat} (hi:i<s.nc) (hl: ∀x∈s.R (.l i),dB s.vars x) (hn:(s.R (.l i)).length<=100000) (hw: ∀j,(s.R (.w j)).length<=1000000):
 Calls prog eF.id #[bL b,.int .i64 i] w fun e w'=>e= .returned (.tuple #[])/\∃H',Pw w w' b H H' (lV i s ((s.R (.l i)).take 2))/\lG H H':=by
 refine eF.ak ?_;intro n1 w1 h1;have hA:=(h.grow h1.mod)
 obtain ⟨b4,bb⟩:=EL h hn;refine ⟨_,rfl,_,_,_,ae hA.drew.st rfl,_,aQ h1.has.drew rfl,hA.drew.Kh hi rfl rfl fun a6 bv=> ⟨_,_,_,bv.get 1 _ rfl,?_⟩⟩;rw [bb];generalize hN:(s.R (.l i)).length=N at*
 refine fe 0 (min 2 N) (H (.l i)).c rfl rfl rfl (Nat.le_refl _) (by omega) (Nat.zero_le _) ?_;have ep:(if (H (.l i)).c=0 then (H (.l i)).p else (H (.l i)).p.map (·.add (0*1)))=(H (.l i)).p:=by rw [IU];split<;>rfl
 rw [ep,Nat.sub_zero];have Q: ∀x,¬own b H x=some n1:=fun x e=>by have:=h.lt x n1 e;have:=h1.num;omega
 refine ⟨fun V u m=> ∃ (v:Nat) (H':Pt->Sl),V=v/\v<=min 2 N/\m=min 2 N - v/\Pw w1 u b H H' (lV i s ((s.R (.l i)).take v))/\lG H H',
  ⟨_,0,H,rfl,Nat.zero_le _,rfl,Pw.refl hA.drew (aF.refl w1).drew,lG.refl⟩,?_⟩
 rintro V J m _ ⟨v,H',rfl,cT,rfl,I,kh⟩;have qz:=I.pm;have eL:H' (.l i)=H (.l i):=kh _ (by simp);have aa:(lV i s ((s.R (.l i)).take v)).vars=s.vars:=(gZ i _ _).1;have ad:(lV i s ((s.R (.l i)).take v)).R (.l i)=s.R (.l i):=iB i (by simp) _ _;refine aj (fun r2=> ?_) (fun r2=> ?_)
 . have r2:v<min 2 N:=by simpa using r2
   rw [<- eL];have hx:=hl _ (bo (l:=s.R (.l i)) (t:=v) (by omega));have ag:=hx.bd hv;have bu:=rX hx;refine qz.Jy (x:= .l i) rfl (n:=min 2 N) (by omega) (by rw [ad];omega) (by omega) fun b5 _ ap=> ⟨_,ap,?_⟩
   rw [ad,Int.toNat_natCast];have av:bA J n1 #[.int .i64 (i:Int)]:=h1.has.keep I.mod fun ⟨x,e⟩=>Q x e;generalize hT:lV i s ((s.R (.l i)).take v)=T at*
   generalize hX:(s.R (.l i)).getD v 0=X at*
   have Y:(T.R (.w (aA X))).length<=1000000:=by
    have:=zY i (aA X) ((s.R (.l i)).take v) s;rw [hT] at this;exact Nat.le_trans this (hw _)
   have U:aA X<2* (T.vars+1):=by rw [aa];exact bu
   refine ⟨(·=J.drew),rfl,_,rfl,_,_,_,dW (ae qz.drew.st rfl),(fW ag _).mono ?_⟩;rintro e b6 ⟨rfl,rfl⟩;refine ⟨_,rfl,rfl,qz.drew.NK U rfl rfl fun b_ _ an=> ⟨_,_,_,dW an,?_⟩⟩;have O:=qz.drew.drew;have aw: ∀ {a:Addr} {u:Value},J.drew.drew.cell? a=some u->¬aJ (H' (.w (aA X))).p=some a.block->iH (aF (fun k=>aJ (H' (.w (aA X))).p=some k) J.drew.drew) a u:=fun hc a8 u' g=>dZ g hc a8;have bk: ¬aJ (H' (.w (aA X))).p=some b:=O.iL (x:= .w (aA X)) (by simp) (y:= .st) (by simp) rfl;have az: ¬aJ (H' (.w (aA X))).p=some n1:=fun e=>by
    rcases I.ft (.w (aA X)) n1 e with ⟨y,e2⟩|e2
    . exact Q y e2
    . have:=h1.has.lt;omega
   refine ⟨aF (fun k=>aJ (H' (.w (aA X))).p=some k) J.drew.drew,aF.refl _,_,rfl,_,_,_,aw (ae O.st rfl) (by rw [cy];exact bk),(fW ag _).mono ?_⟩;rintro e cb ⟨rfl,rfl⟩;have o:da aC J.drew.drew (H' (.w (aA X))).p (H' (.w (aA X))).c (T.R (.w (aA X))):=O.row (.w (aA X)) rfl;refine ⟨_,rfl,aF.refl _,(si o (O.len (.w (aA X)) rfl) (by rw [O.len (.w (aA X)) rfl];exact Y) Fa (fun x=>x==(i:Int)) fun x _ w' g=> ?_).mono ?_⟩
   . rw [zO];exact MW (av.drew.drew.keep g az) x
   rintro e cp ⟨rfl,bc,Z⟩;refine ⟨_,_,_,rfl,Z,?_⟩;refine O.DW U bc (O.Fh rfl Z) (fun k hk=> .inl hk) rfl O.wn rfl fun b7 a_ ay=> ?_;refine ⟨_,?_,v+1,bh H' (.w (aA X)) ⟨(H' (.w (aA X))).p,((T.R (.w (aA X))).filter fun x=> !(x==(i:Int))).length,(H' (.w (aA X))).c⟩,wN (by omega) (by omega),by omega,rfl,?_,kh.wt⟩
   . omega
   . have:(s.R (.l i)).take (v+1)=(s.R (.l i)).take v++ [X]:=by
      rw [List.take_add_one,<- hX];simp [List.getD,show v< (s.R (.l i)).length by omega]
     rw [this,Dm,hT];exact I.drew.drew.trans (Pw.head (z:= .wa) (by simp) a_ Z ay fun k hk=> .inl hk)
 . have r2:v=min 2 N:=by simp at r2;omega
   subst r2;refine ⟨rfl,H',?_,kh⟩;have a':(s.R (.l i)).take (min 2 N)=(s.R (.l i)).take 2:=by
    rw [<- hN];by_cases e:2<=(s.R (.l i)).length
    . rw [Nat.min_eq_left e]
    . rw [Nat.min_eq_right (by omega),List.take_length,List.take_of_length_le (by omega)]
   rw [a'] at I;exact I.cM h1.mod
theorem xc.aE {l':List Int} (hb:xc s.rk 2 l') (I: ∀x∈l',s.val x<0->s.bi x<1048577) {m:List Int} (pm:l'.Perm m) (h2:2<=(m.filter fun x=> !decide (s.val x<0)).length):
 2<=l'.length/\0<=s.val (l'.getD 1 0)/\0<=s.val (l'.getD 0 0):=by
 have hf:(l'.filter fun x=> !decide (s.val x<0)).length=(m.filter fun x=> !decide (s.val x<0)).length:=(pm.filter _).length_eq;have Q:2<=l'.length:=by have:=List.length_filter_le (fun x=> !decide (s.val x<0)) l';omega
 match l',Q with
 |x::y::r,_=>
  have key:0<=s.val y:=by
   rcases Int.lt_or_le (s.val y) 0 with J|J
   . exfalso;have O:s.rk y<1048577:=by unfold aH.rk;rw [if_neg (by omega)];exact I y (by simp) J
     have: ∀z∈y::r,s.val z<0:=by
      intro z V;obtain ⟨j,Y,e⟩:=List.mem_iff_getElem.1 V;have:=hb 1 (by omega) (j+1) (by omega) (by simpa using Y);have Z:(x::y::r).getD (j+1) 0=z:=by
       show (y::r).getD j 0=z;rw [<- e,List.getD_eq_getElem?_getD,List.getElem?_eq_getElem Y];rfl
      rw [Z] at this;have U:(x::y::r).getD 1 0=y:=rfl;rw [U] at this;rcases Int.lt_or_le (s.val z) 0 with h|h
      . exact h
      . unfold aH.rk at this O;rw [if_pos (show s.val z>=0 from h)] at this;omega
     have e0:((y::r).filter fun x=> !decide (s.val x<0))= []:=by
      rw [List.filter_eq_nil_iff];intro z V;simp [this z V]
     rw [List.filter_cons,e0] at hf;split at hf<;>simp at hf<;>omega
   . exact J
  refine ⟨by simp,key,?_⟩;have:=hb 0 (by omega) 1 (by omega) (by simp);have U:(x::y::r).getD 1 0=y:=rfl;have X:(x::y::r).getD 0 0=x:=rfl;rw [U,X] at this;rw [X];rcases Int.lt_or_le (s.val x) 0 with h|h
  . unfold aH.rk at this;rw [if_pos (show s.val y>=0 from key),if_neg (show ¬s.val x>=0 by omega)] at this;have:=I x (by simp) h;omega
  . exact h
theorem BS {i:Nat} {l':List Int} (h1:2<=l'.length) (I:0<=s.val (l'.getD 1 0)):jX s i l'=wF i (s.set (.l i) l') (l'.take 2):=by
 unfold jX;simp only [if_neg (show ¬(l'.length<2\/s.val (l'.getD 1 0)<0) by omega)]
theorem FJ (h:PM w b H s) (k:Wf s) {i:Nat} (hi:i<s.nc) (hl: ∀x∈s.R (.l i),dB s.vars x) (hn:(s.R (.l i)).length<=100000) (hw: ∀j,(s.R (.w j)).length+2<=4000000) (V:(s.R .lo).length<=4000000)
 (J: ∀x∈s.R (.l i),s.val x<0->s.bi x<1048577) (h2:2<=((s.R (.l i)).filter fun x=> !decide (s.val x<0)).length):
 Calls prog gk.id #[bL b,.int .i64 i] w fun e w'=>e= .returned (.tuple #[])/\∃l' H',xc s.rk 2 l'/\l'.Perm (s.R (.l i))/\2<=l'.length/\0<=s.val (l'.getD 1 0)/\0<=s.val (l'.getD 0 0)/\Pw w w' b H H' (wF i (s.set (.l i) l') (l'.take 2))/\lG H H':=by
 refine gk.ak ?_;refine ⟨_,rfl,_,_,_,ae h.st rfl,(yj h k hi hl hn hw V).mono ?_⟩;rintro e w3 ⟨rfl,l',H',hb,pm,X,kh,O⟩;obtain ⟨b1,b2,b3⟩:=hb.aE (fun x Y=>J x (pm.mem_iff.1 Y)) pm h2;rw [BS b1 b2] at X;have Q:=O b1 b2;have I:=X.pm;refine ⟨rfl,_,rfl,?_⟩;have o:=I.row .lo rfl;rw [Q] at o;have:=I.head (x:= .lo) rfl o ⟨I.st,I.c,I.wa,fun y Z _=>I.row y Z⟩ (fun k U=> .inl (by rw [Q];exact U)) (n':=(H .lo).n) (by rw [<- Q];exact I.len .lo rfl) (K:=fun w'=>Ending.returned (.tuple #[])= .returned (.tuple #[])/\∃l' H',xc s.rk 2 l'/\l'.Perm (s.R (.l i))/\2<=l'.length/\0<=s.val (l'.getD 1 0)/\0<=s.val (l'.getD 0 0)/\Pw w w' b H H' (wF i (s.set (.l i) l') (l'.take 2))/\lG H H') ?_
 . exact this
 . intro w5 h5 m5;have eH:bh H' .lo ⟨(H .lo).p,(H .lo).n,(H .lo).c⟩=H':=by
    funext y;simp only [bh];split
    . rename_i e;rw [e,Q]
    . rfl
   rw [eH,d7] at h5;refine ⟨rfl,l',H',hb,pm,b1,b2,b3,X.trans ⟨h5,m5.mono fun k _ e=> ⟨.st,by rw [e];rfl⟩,fun x k U=> .inl ⟨x,U⟩⟩,fun x Y=> ?_⟩;by_cases e:x= .lo
   . rw [e,Q]
   . exact kh x Y e
end
section
variable {w w' w0 w2 w3 wA:World} {b:Nat} {H H' H2:Pt->Sl} {s t u:aH} {l:Int}
def ja (l:List Int) (f:Int):List Int:=if l.getD 0 0=f/\1<l.length then qI l 0 1 else l
theorem xW (l:List Int) (f:Int):(ja l f).length=l.length:=by unfold ja;split<;>simp [rE]
theorem nT (l:List Int) (f:Int):(ja l f).Perm l:=by
 unfold ja;split
 . rename_i h;exact wI (by omega) h.2
 . exact List.Perm.refl _
inductive sS (s:aH) (i:Nat) (m:List Int):aH->Bool->Bool->Prop
 |Ms:0<s.val (m.getD 0 0)->sS s i m (s.set (.l i) m) true false
 |AP (k:Nat): ¬0<s.val (m.getD 0 0)->2<=k->k<m.length->0<=s.val (m.getD k 0)->
   sS s i m ((s.set (.l i) (qI m 1 k)).set (.w (aA (m.getD k 0))) (s.R (.w (aA (m.getD k 0)))++ [(i:Int)])) false false
 |oC:s.val (m.getD 0 0)<0->(∀k,2<=k->k<m.length->s.val (m.getD k 0)<0)->sS s i m (s.set (.l i) m) true true
 |unit:s.val (m.getD 0 0)=0->(∀k,2<=k->k<m.length->s.val (m.getD k 0)<0)->sS s i m ((s.set (.l i) m).put (m.getD 0 0) i) true false
def HX (s:aH) (H H':Pt->Sl):Prop:= ∀x,x≠ .tr->(∀z,dB s.vars z->0<=s.val z->x≠ .w (aA z))->H' x=H x
theorem GF (h:PM w b H s) (k:Wf s) {i:Nat} (hi:i<s.nc) (hl: ∀x∈s.R (.l i),dB s.vars x) (hn:(s.R (.l i)).length<=100000) (hw: ∀j,(s.R (.w j)).length<=1000000) (h2:2<=(s.R (.l i)).length) (f:Int):
 Calls prog gh.id #[bL b,.int .i64 i,.int .i64 f] w fun e w'=> ∃st br,e= .returned (.tuple #[.bool st,.bool br])/\∃s' H',sS s i (ja (s.R (.l i)) f) s' st br/\Pw w w' b H H' s'/\HX s H H':=by
 have bY:=h.len (.l i) rfl;refine gh.ak ?_;refine ⟨_,rfl,_,_,_,ae h.st rfl,h.Kh hi rfl rfl fun a3 cg=> ⟨_,_,_,cg.get 1 _ rfl,?_⟩⟩;generalize hm:ja (s.R (.l i)) f=m at*
 have ej:m.length=(s.R (.l i)).length:=by rw [<- hm,xW]
 have dk:m.Perm (s.R (.l i)):=by rw [<- hm];exact nT _ _
 have bb: ∀x∈m,dB s.vars x:=fun x hx=>hl x (dk.mem_iff.1 hx);generalize hN:(s.R (.l i)).length=N at*
 have P0:=Pw.refl h (aF.refl w);refine ⟨fun u=>Pw w u b H H (s.set (.l i) m),?_,?_⟩
 . refine h.vJ (x:= .l i) rfl (by omega) rfl (by omega) fun a6 _ dc=> ⟨_,dc,aj (fun r=>aj (fun Y=> ?_) fun Y=> ?_) fun r=> ?_⟩
   . have r:(s.R (.l i)).getD 0 0=f:=by simpa using r
     have em:m=qI (s.R (.l i)) 0 1:=by rw [<- hm];unfold ja;rw [if_pos ⟨r,by omega⟩]
     have O:=h.drew;refine O.vJ (x:= .l i) rfl (by omega) rfl (by omega) fun a8 _ dT=> ⟨_,dT,O.vJ (x:= .l i) rfl (by omega) rfl (by omega) fun eA _ b6=> ⟨_,b6,?_⟩⟩
     refine O.FB (x:= .l i) rfl (by omega) rfl (by omega) (y:=(s.R (.l i)).getD 1 0) rfl rfl fun e4 qz di=>qz.FB (x:= .l i) rfl (by omega) rfl (by simp [aK];omega) (y:=(s.R (.l i)).getD 0 0) rfl rfl fun ey b' dw=> ?_;rw [aK,set_set] at b';rw [em];exact P0.drew.trans ⟨b',(di.mono fun k _ e=> ⟨.l i,e⟩).trans (dw.mono fun k _ e=> ⟨.l i,e⟩),fun x _ hk=> .inl ⟨x,hk⟩⟩
   . simp at Y;omega
   . have r: ¬(s.R (.l i)).getD 0 0=f:=by simpa using r
     have em:m=s.R (.l i):=by rw [<- hm];unfold ja;rw [if_neg (fun e=>r e.1)]
     rw [em,d7];exact P0
 intro aT _ ag;have az:=ag.pm;have b7:Wf (s.set (.l i) m):=k.set (by simp) (by simp) (by simp) (by simp) (by simp) m;have ev: ∀x,(s.set (.l i) m).val x=s.val x:=fun x=>iX (aq (by simp)) x;have kv:HX s H H:=fun _ _ _=>rfl;have cA: ∀ {I:Int} (j:Nat),I=j->j<N->∀ {K:Addr->Prop},(∀a,aT.cell? a=some (.int .i64 (m.getD j 0))->K a)->aP (H (.l i)).p (H (.l i)).n I 1 K:=fun {I} j hI hj {K} hk=>by
  subst hI;refine az.vJ (x:= .l i) rfl (by omega) rfl (by rw [aK];omega) fun a _ hc=>hk a ?_;rw [aK,Int.toNat_natCast] at hc;exact hc
 have a_: ∀j,j<N->Calls prog gM.id #[bL b,.int .i64 (m.getD j 0)] aT fun e w'=>e= .returned (.int .i8 (s.val (m.getD j 0)))/\w'=aT:=fun j hj=>by
  have:=mH az b7 (l:=m.getD j 0) (bb _ (bo (by omega)));rw [ev] at this;exact this
 refine cA 0 rfl (by omega) fun eu bu=> ⟨_,bu,(a_ 0 (by omega)).mono ?_⟩
 rintro e cp ⟨rfl,rfl⟩;refine ⟨_,rfl,aj (fun r=> ⟨true,false,rfl,_,H,.Ms (by simpa using r),ag,kv⟩) fun r=> ?_⟩;have r: ¬0<s.val (m.getD 0 0):=by simpa using r
 refine ⟨fun K u z=> ∃j:Nat,K=j/\2<=j/\j<=N/\z=N - j/\u=cp/\∀y,2<=y->y<j->s.val (m.getD y 0)<0,⟨_,2,rfl,Nat.le_refl _,h2,rfl,rfl,fun y y1 y2=>by omega⟩,?_⟩;rintro K u z _ ⟨j,rfl,j2,jN,rfl,rfl,ap⟩;refine aj (fun Y=> ?_) (fun Y=> ?_)
 . have Y:j<N:=by rw [bY] at Y;simpa using Y
   refine cA j rfl Y fun ed b3=> ⟨_,b3,(a_ j Y).mono ?_⟩
   rintro e et ⟨rfl,rfl⟩;refine ⟨_,rfl,aj (fun r3=> ?_) (fun r3=> ?_)⟩
   . have r3:0<=s.val (m.getD j 0):=by simpa using r3
     have O:=az.drew;refine O.vJ (x:= .l i) rfl (by omega) rfl (by rw [aK];omega) fun ep _ bx=> ⟨_,bx,O.vJ (x:= .l i) rfl (by omega) rfl (by rw [aK];omega) fun es _ b4=> ⟨_,b4,?_⟩⟩
     rw [aK,Int.toNat_natCast];refine O.FB (x:= .l i) rfl (by omega) rfl (by rw [aK];omega) (y:=m.getD j 0) rfl rfl fun en c0 du=>c0.FB (x:= .l i) rfl (by omega) rfl (by simp [aK];omega) (y:=m.getD 1 0) rfl rfl fun J ay dd=> ?_;rw [aK,set_set,aK,Int.toNat_natCast,set_set] at ay;have cT:(m.set (Int.toNat 1) (m.getD j 0)).set j (m.getD 1 0)=qI m 1 j:=rfl;rw [cT] at ay;have dp:Pw w J b H H (s.set (.l i) (qI m 1 j)):=ag.drew.trans ⟨ay,(du.mono fun k _ e=> ⟨.l i,e⟩).trans (dd.mono fun k _ e=> ⟨.l i,e⟩),fun x _ hk=> .inl ⟨x,hk⟩⟩;generalize hX:m.getD j 0=X at*
     have hx:dB s.vars X:=by rw [<- hX];exact bb _ (bo (by omega))
     have ac:=hx.bd k.dS;have c7:=rX hx;have O:=ay.drew;have e1:(qI m 1 j).getD 1 0=X:=by
      rw [kL (by omega) (by omega)];by_cases e:1=j
      . omega
      . rw [if_neg e,if_pos rfl,hX]
     have U:((s.set (.l i) (qI m 1 j)).R (.w (aA X))).length<=4000000:=by rw [aq (by simp)];have:=hw (aA X);omega
     have Z:aA X<2* ((s.set (.l i) (qI m 1 j)).vars+1):=c7;have dV: ∀w3 q,Pw J.drew w3 b H (bh H (.w (aA X)) q) ((s.set (.l i) (qI m 1 j)).set (.w (aA X)) ((s.set (.l i) (qI m 1 j)).R (.w (aA X))++ [(i:Int)]))->
      ∃st br,Ending.returned (.tuple #[.bool false,.bool false])= .returned (.tuple #[.bool st,.bool br])/\∃s' H',sS s i m s' st br/\Pw w w3 b H H' s'/\HX s H H':=by
      intro w3 q P;have V:=sS.AP (s:=s) (i:=i) (m:=m) j r j2 (by omega) (by rw [hX];exact r3);rw [hX] at V;rw [aq (by simp)] at P;refine ⟨_,_,rfl,_,_,V,dp.drew.trans P,fun x eg c2=> ?_⟩;exact aM (c2 X hx r3)
     have aw: ∀ {a:Addr} {u:Value},J.drew.cell? a=some u->¬aJ (H (.w (aA X))).p=some a.block->iH (aF (fun k=>aJ (H (.w (aA X))).p=some k) J.drew) a u:=fun hc c1 u' g=>dZ g hc c1;have cb: ¬aJ (H (.w (aA X))).p=some b:=O.iL (x:= .w (aA X)) (by simp) (y:= .st) (by simp) rfl;have gm: ∀ {w1:World},ao J.drew w1->aF (fun k=>aJ (H (.w (aA X))).p=some k) J.drew w1:=fun g=>g.mono fun _ _ e=>e.elim;have Q: ∀ {K:Addr->Prop},(∀a,iH (aF (fun k=>aJ (H (.w (aA X))).p=some k) J.drew) a (H (.w (aA X))).v->K a)->aP (H .wa).p (H .wa).n (aA X:Int) 1 K:=fun hk=>
      O.NK Z rfl rfl fun a hb hc=>hk a (aw hc fun e=>O.iL (x:= .w (aA X)) (by simp) (y:= .wa) (by simp) hb e)
     have ad: ∀ {K:Addr->Prop},(∀a,iH (aF (fun k=>aJ (H (.w (aA X))).p=some k) J.drew) a (.int .i64 X)->K a)->aP (H (.l i)).p (H (.l i)).n 1 1 K:=fun hk=>by
      refine O.vJ (x:= .l i) rfl (by omega) rfl (by rw [aK,rE];omega) fun a hb hc=>hk a ?_;rw [aK] at hc;have e2:(qI m 1 j).getD (Int.toNat 1) 0=X:=e1;rw [e2] at hc;exact aw hc fun e=>O.iL (x:= .w (aA X)) (by simp) (y:= .l i) (by simp) hb e
     refine ⟨aF (fun k=>aJ (H (.w (aA X))).p=some k) J.drew,aF.refl _,_,rfl,_,_,_,aw (ae O.st rfl) (by rw [cy];exact cb),ad fun e5 b_=> ⟨_,b_,_,rfl,_,_,_,aw (ae O.st rfl) (by rw [cy];exact cb),ad fun a45 b8=> ⟨_,b8,?_⟩⟩⟩;refine ⟨(fW ac _).mono ?_,?_⟩
     . rintro e el ⟨rfl,rfl⟩;refine ⟨_,rfl,aF.refl _,(fW ac _).mono ?_,?_⟩
       . rintro e e8 ⟨rfl,rfl⟩;exact ⟨_,rfl,aF.refl _,Q fun a50 ha=> ⟨_,_,_,ha,fun ea e6 a'=> ⟨gm a'.mod,O.Eg Z a'.mod a'.has U dV rfl⟩⟩⟩
       . intro eT ei ax;refine ⟨gm ax.mod,(fW ac _).mono ?_⟩;rintro e e' ⟨rfl,rfl⟩;exact ⟨_,rfl,gm ax.mod,Q fun ef ha=> ⟨_,_,_,ha,O.Eg Z ax.mod ax.has U dV rfl⟩⟩
     . intro eL e7 an;refine ⟨gm an.mod,(fW ac _).mono ?_⟩;rintro e e9 ⟨rfl,rfl⟩;refine ⟨_,rfl,gm an.mod,(fW ac _).mono ?_⟩;rintro e d' ⟨rfl,rfl⟩;exact ⟨_,rfl,gm an.mod,Q fun ez ha=> ⟨_,_,_,ha,O.Eg Z an.mod an.has U dV rfl⟩⟩
   . have r3:s.val (m.getD j 0)<0:=by simpa using r3
     refine ⟨_,?_,j+1,wN (by omega) (by omega),by omega,Y,rfl,rfl,fun y y1 y2=> ?_⟩
     . omega
     . by_cases e:y=j
       . rw [e];exact r3
       . exact ap y y1 (by omega)
 . have Y:j=N:=by rw [bY] at Y;simp at Y;omega
   subst Y;refine cA 0 rfl (by omega) fun ek bv=> ⟨_,bv,(a_ 0 (by omega)).mono ?_⟩
   rintro e d9 ⟨rfl,rfl⟩;refine ⟨_,rfl,aj (fun r3=> ⟨true,true,rfl,_,H,.oC (by simpa using r3) (fun y y1 y2=>ap y y1 (by omega)),ag,kv⟩) fun r3=> ?_⟩;have r3:0<=s.val (m.getD 0 0):=by simpa using r3
   refine cA 0 rfl (by omega) fun eH b5=> ⟨_,b5,(Cu az b7 (l:=m.getD 0 0) (bb _ (bo (by omega))) i).mono ?_⟩
   rintro e ec ⟨rfl,q,cm⟩;exact ⟨rfl,true,false,rfl,_,_,.unit (by omega) (fun y y1 y2=>ap y y1 (by omega)),ag.trans cm,fun x hx _=>aM hx⟩
end
section
variable {s t u:aH} {l x y:Int}
def aH.aN (s:aH) (i:Nat):Prop:=i<s.nc/\s.gone i=false
def W1 (s:aH) (i D:Nat) (t:List Int):Prop:= ∀x∈(s.R (.l i)).take 2,∀y∈(s.R (.l i)).take 2,x≠y-> -x∈(s.R .tr).take D->y∈t
structure aL (s:aH):Prop where
 dS:s.vars<=1048576
 FE:s.nc<=262144
 va:(s.R .va).length=s.vars+1
 vb: ∀i,(s.R .va).getD i 0=0\/(s.R .va).getD i 0=1\/(s.R .va).getD i 0= -1
 le:(s.R .le).length=s.vars+1
 rl:(s.R .re).length=s.vars+1
 tv: ∀x∈s.R .tr,dB s.vars x
 nd:((s.R .tr).map bf).Nodup
 v1: ∀x,dB s.vars x->(s.val x=1↔x∈s.R .tr)
 bl: ∀j,j< (s.R .be).length->0<=(s.R .be).getD j 0/\(s.R .be).getD j 0< (s.R .tr).length
 bs: ∀i j,i<j->j< (s.R .be).length->(s.R .be).getD i 0< (s.R .be).getD j 0
 dl:(s.R .ds).length=(s.R .be).length
 db: ∀j,j< (s.R .be).length->0<=(s.R .ds).getD j 0/\(s.R .ds).getD j 0<=(s.R .be).getD j 0
 lv: ∀p,p< (s.R .tr).length->s.bi ((s.R .tr).getD p 0)=((s.R .be).countP fun e=>decide (e<=(p:Int)):Nat)
 Ly: ∀p,p< (s.R .tr).length->(p:Int)∈s.R .be->s.kG ((s.R .tr).getD p 0)= -1
 Kw: ∀p,p< (s.R .tr).length->(p:Int) ∉ s.R .be->∃i:Nat,s.kG ((s.R .tr).getD p 0)=i/\s.aN i/\(s.R .tr).getD p 0∈s.R (.l i)/\∀x∈s.R (.l i),x≠(s.R .tr).getD p 0-> -x∈(s.R .tr).take p
 dn:s.done<=(s.R .tr).length
 cv: ∀i,s.aN i->∀x∈s.R (.l i),dB s.vars x
 cn: ∀i,s.aN i->(s.R (.l i)).Nodup
 cl: ∀i,s.aN i->(s.R (.l i)).length<=4096
 ca: ∀i,s.aN i->∀x,x∈s.R (.l i)↔x∈s.R (.a i)
 al: ∀i,(s.R (.a i)).length<=4096
 w1: ∀j,∀c∈s.R (.w j),∃i:Nat,c=i/\s.aN i/\∃x∈(s.R (.l i)).take 2,aA x=j
 w2: ∀i,s.aN i->∀x∈(s.R (.l i)).take 2,(i:Int)∈s.R (.w (aA x))
 w3: ∀j,(s.R (.w j)).Nodup
 o1: ∀c∈s.R .lo,∃i:Nat,c=i/\s.aN i
 o2: ∀i,s.aN i->(s.R (.l i)).length<2->(i:Int)∈s.R .lo
 o3:(s.R .lo).Nodup
 wd: ∀i,s.aN i->(i:Int) ∉ s.R .lo->W1 s i s.done (s.R .tr)
 wj: ∀j,j< (s.R .be).length->∀i,s.aN i->(i:Int) ∉ s.R .lo->W1 s i ((s.R .ds).getD j 0).toNat ((s.R .tr).take ((s.R .be).getD j 0).toNat)
theorem oe {n:Nat} (h:dB n l):s.val (-l)= -s.val l:=by
 obtain ⟨h1,_,_⟩:=h;unfold aH.val;by_cases e:l<0
 . rw [if_pos e,if_neg (by omega)];omega
 . rw [if_neg e,if_pos (by omega),Int.neg_neg]
theorem zR (h:bf x=bf y):x=y\/x= -y:=by
 unfold bf at h;split at h<;>split at h<;>omega
theorem p9 (x:Int):bf (-x)=bf x:=by unfold bf;split<;>split<;>omega
theorem mV {n:Nat} {l:List Int} (Q:l.Nodup) (h: ∀x∈l,0<=x/\x<n):l.length<=n:=by
 have inj:(l.map Int.toNat).Nodup:=by
  refine List.pairwise_map.2 (List.Pairwise.imp_of_mem (fun {x y} I J O e=> ?_) Q);have:=h x I;have:=h y J;exact O (by omega)
 have:=List.Nodup.length_le_of_subset inj (l₂:=List.range n) fun y J=>by
  obtain ⟨x,I,rfl⟩:=List.mem_map.1 J;have:=h x I;exact List.mem_range.2 (by omega)
 simpa using this
theorem aL.yL (g:aL s):(s.R .tr).length<=s.vars:=by
 have h:=mV (n:=s.vars+1) (l:=0::(s.R .tr).map bf) (List.nodup_cons.2 ⟨fun h=>by
  obtain ⟨x,I,e⟩:=List.mem_map.1 h;have:=(g.tv x I).bf;omega,g.nd⟩) fun x I=>by
   rcases List.mem_cons.1 I with rfl|I
   . omega
   . obtain ⟨y,J,rfl⟩:=List.mem_map.1 I;have:=(g.tv y J).bf;omega
 simpa using h
theorem aL.Kq (g:aL s):(s.R .be).length<=(s.R .tr).length:=by
 refine mV ?_ fun x O=> ?_
 . rw [List.nodup_iff_pairwise_ne,List.pairwise_iff_getElem];intro i j hi I J;have:=g.bs i j J I;simp only [List.getD,List.getElem?_eq_getElem hi,List.getElem?_eq_getElem I,Option.getD_some] at this;omega
 . obtain ⟨j,I,e⟩:=List.mem_iff_getElem.1 O;have:=g.bl j I;simp only [List.getD,List.getElem?_eq_getElem I,Option.getD_some,e] at this;exact this
theorem aL.wf (g:aL s):Wf s:=⟨g.dS,g.va,g.vb,g.le,g.rl,by have:=g.yL;have:=g.Kq;have:=g.dS;omega,by have:=g.yL;have:=g.dS;omega,g.FE⟩
theorem aL.wl (g:aL s) (j:Nat):(s.R (.w j)).length<=262144:=by
 refine Nat.le_trans (mV (n:=s.nc) (g.w3 j) fun x I=> ?_) g.FE;obtain ⟨i,rfl,⟨hi,_⟩,_⟩:=g.w1 j x I;omega
theorem aL.N9 (g:aL s):(s.R .lo).length<=262144:=by
 refine Nat.le_trans (mV (n:=s.nc) g.o3 fun x I=> ?_) g.FE;obtain ⟨i,rfl,⟨hi,_⟩⟩:=g.o1 x I;omega
theorem aL.vm (g:aL s) (h:dB s.vars x):s.val x= -1↔ -x∈s.R .tr:=by
 rw [<- g.v1 _ h.neg,oe h];omega
theorem aL.v0 (g:aL s) (h:dB s.vars x):s.val x=0↔x ∉ s.R .tr/\ -x ∉ s.R .tr:=by
 have h1:=g.v1 x h;have I:=g.vm h;have:=aH.pw g.wf x;constructor
 . intro e;exact ⟨fun m=>by have:=h1.2 m;omega,fun m=>by have:=I.2 m;omega⟩
 . rintro ⟨a,b⟩;rcases this with e|e|e
   . exact e
   . exact absurd (h1.1 e) a
   . exact absurd (I.1 e) b
theorem aL.GJ (g:aL s) (h:dB s.vars x):s.val x<0↔ -x∈s.R .tr:=by
 rw [<- g.vm h];have:=aH.pw g.wf x;omega
theorem aL.Of (g:aL s) (h:dB s.vars x):0<s.val x↔x∈s.R .tr:=by
 rw [<- g.v1 x h];have:=aH.pw g.wf x;omega
theorem aL.cons (g:aL s) (h:x∈s.R .tr): -x ∉ s.R .tr:=fun e=>by
 have hv:=g.tv x h;have:=(g.v1 x hv).2 h;have:=(g.vm hv).2 e;omega
theorem aL.Ns (g:aL s) {x:Int} (h:dB s.vars x) (I:s.val x<0):s.bi x<1048577:=by
 have hm:=(g.GJ h).1 I;obtain ⟨p,hp,e⟩:=List.mem_iff_getElem.1 hm;have O:=g.lv p hp;have J:(s.R .tr).getD p 0= -x:=by simp [List.getD,hp,e]
 rw [J] at O;have Q:s.bi (-x)=s.bi x:=by unfold aH.bi;rw [p9]
 have U:=List.countP_le_length (p:=fun e=>decide (e<=(p:Int))) (l:=s.R .be);have:=g.Kq;have:=g.yL;have:=g.dS;omega
theorem iZ {r:Int} {y:Pt} (h1:y≠ .va) (J:y≠ .le) (O:y≠ .re) (I:y≠ .tr):(s.put l r).R y=s.R y:=by
 unfold aH.put;rw [aq I,aq O,aq J,aq h1]
theorem pO {r:Int}:(s.put l r).R .tr=s.R .tr++ [l]:=by unfold aH.put;rw [aK]
theorem C1 {r:Int}:(s.put l r).R .va=(s.R .va).set (bf l).toNat (if l<0 then -1 else 1):=by
 unfold aH.put;rw [aq (by simp),aq (by simp),aq (by simp),aK]
theorem Hd {r:Int}:(s.put l r).R .le=(s.R .le).set (bf l).toNat (s.R .be).length:=by
 unfold aH.put;rw [aq (by simp),aq (by simp),aK]
theorem GZ {r:Int}:(s.put l r).R .re=(s.R .re).set (bf l).toNat r:=by
 unfold aH.put;rw [aq (by simp),aK]
theorem Jw (g:(s.R .va).length=s.vars+1) {r:Int} (hl:dB s.vars l) (J:dB s.vars y):(s.put l r).val y=if bf y=bf l then (if y=l then 1 else -1) else s.val y:=by
 have a1:=hl.bf;have a2:=J.bf;obtain ⟨Q,_,_⟩:=J;obtain ⟨l0,_,_⟩:=hl;unfold aH.val;rw [C1];by_cases e:y<0
 . have O:bf y= -y:=by unfold bf;rw [if_pos e]
   rw [if_pos e,if_pos e,jc (by omega)];by_cases I:bf y=bf l
   . rw [if_pos (show (-y).toNat=(bf l).toNat by omega),if_pos I];unfold bf at I;rw [if_pos e] at I;split at I
     . rename_i h;rw [if_pos h,if_pos (by omega)];rfl
     . rename_i h;rw [if_neg h,if_neg (by omega)]
   . rw [if_neg (show ¬(-y).toNat=(bf l).toNat by omega),if_neg I]
 . have O:bf y=y:=by unfold bf;rw [if_neg e]
   rw [if_neg e,if_neg e,jc (by omega)];by_cases I:bf y=bf l
   . rw [if_pos (show y.toNat=(bf l).toNat by omega),if_pos I];unfold bf at I;rw [if_neg e] at I;split at I
     . rename_i h;rw [if_pos h,if_neg (by omega)]
     . rename_i h;rw [if_neg h,if_pos (by omega)]
   . rw [if_neg (show ¬y.toNat=(bf l).toNat by omega),if_neg I]
theorem bg {l:List Int} {p:Nat} (h:p<l.length):l.getD p 0∈l:=by simp [List.getD,h]
theorem bC {l m:List Int} {p:Nat} (h:p<l.length):(l++m).getD p 0=l.getD p 0:=by
 simp only [List.getD_eq_getElem?_getD];rw [List.getElem?_append_left h]
theorem cz {l:List Int} {x:Int}:(l++ [x]).getD l.length 0=x:=by simp [List.getD]
end
section
variable {s t u:aH} {l x y:Int}
theorem CF {l:List Int} {p:Int->Bool} (h: ∀x∈l,p x=true):l.countP p=l.length:=List.countP_eq_length.2 h
theorem uS (g:aL s) (hl:dB s.vars l) (h0:s.val l=0) (ht: ∀y,y≠ .be->y≠ .ds->t.R y=s.R y) (hv:t.vars=s.vars) (hn:t.nc=s.nc) (hg:t.gone=s.gone) (hd:t.done=s.done) {r:Int}
 (hb:(t.R .be=s.R .be/\t.R .ds=s.R .ds/\∃i:Nat,r=i/\s.aN i/\l∈s.R (.l i)/\∀x∈s.R (.l i),x≠l-> -x∈s.R .tr)\/(t.R .be=s.R .be++ [((s.R .tr).length:Int)]/\t.R .ds=s.R .ds++ [(s.done:Int)]/\r= -1)):
 aL (t.put l r):=by
 have eR: ∀y,y≠ .va->y≠ .le->y≠ .re->y≠ .tr->y≠ .be->y≠ .ds->(t.put l r).R y=s.R y:=fun y a1 a2 a3 a4 a5 a6=>by rw [iZ a1 a2 a3 a4,ht y a5 a6]
 have U:(t.put l r).R .tr=s.R .tr++ [l]:=by rw [pO,ht _ (by simp) (by simp)]
 have V:(t.put l r).R .be=t.R .be:=iZ (by simp) (by simp) (by simp) (by simp);have av:(t.put l r).R .ds=t.R .ds:=iZ (by simp) (by simp) (by simp) (by simp);have Z: ∀i,(t.put l r).R (.l i)=s.R (.l i):=fun i=>eR _ (by simp) (by simp) (by simp) (by simp) (by simp) (by simp);have ea: ∀i,(t.put l r).R (.a i)=s.R (.a i):=fun i=>eR _ (by simp) (by simp) (by simp) (by simp) (by simp) (by simp);have ew: ∀i,(t.put l r).R (.w i)=s.R (.w i):=fun i=>eR _ (by simp) (by simp) (by simp) (by simp) (by simp) (by simp);have ac:(t.put l r).R .lo=s.R .lo:=eR _ (by simp) (by simp) (by simp) (by simp) (by simp) (by simp);have O: ∀i,(t.put l r).aN i↔s.aN i:=fun i=>by show (i<t.nc/\t.gone i=false)↔_;rw [hn,hg];exact Iff.rfl
 have Y:(t.put l r).vars=s.vars:=hv;have bY:=hl.bf;have a8:(t.R .va).length=t.vars+1:=by rw [ht _ (by simp) (by simp),hv];exact g.va
 have eval: ∀y,dB s.vars y->(t.put l r).val y=if bf y=bf l then (if y=l then 1 else -1) else s.val y:=fun y hy=>by
  rw [Jw a8 (by rw [hv];exact hl) (by rw [hv];exact hy),iX (s:=s) (ht _ (by simp) (by simp))]
 have az:=(g.v0 hl).1 h0;have fr: ∀x∈s.R .tr,bf x≠bf l:=fun x I e=>by
  rcases zR e with rfl|rfl
  . exact az.1 I
  . exact az.2 I
 have aT: ∀x,(t.put l r).bi x=if (bf x).toNat=(bf l).toNat then ((t.R .be).length:Int) else s.bi x:=fun x=>by
  unfold aH.bi;rw [Hd,ht .le (by simp) (by simp),jc (by rw [g.le];omega)]
 have an: ∀x,(t.put l r).kG x=if (bf x).toNat=(bf l).toNat then r else s.kG x:=fun x=>by
  unfold aH.kG;rw [GZ,ht .re (by simp) (by simp),jc (by rw [g.rl];omega)]
 have sI: ∀p,p< (s.R .tr).length->¬(bf ((s.R .tr).getD p 0)).toNat=(bf l).toNat:=fun p hp e=>by
  have:=g.tv _ (bg hp);have h2:=this.bf;exact fr _ (bg hp) (by omega)
 have b3:(t.R .be).length<=(s.R .be).length+1:=by rcases hb with ⟨e,_⟩| ⟨e,_⟩<;>rw [e]<;>simp
 have ap: ∀ {i D:Nat} {T T':List Int},W1 s i D T->D<=(s.R .tr).length->(∀y∈T,y∈T')->W1 (t.put l r) i D T':=fun {i D T T'} h hD hT x I y hy aa hm=>by
  rw [Z] at I hy;rw [U,List.take_append_of_le_length hD] at hm;exact hT y (h x I y hy aa hm)
 refine ⟨by rw [Y];exact g.dS,by show t.nc<=_;rw [hn];exact g.FE,by rw [C1,List.length_set,Y,a8,hv],?_,by rw [Hd,List.length_set,Y,ht _ (by simp) (by simp)];exact g.le,by rw [GZ,List.length_set,Y,ht _ (by simp) (by simp)];exact g.rl,
  ?_,?_,?_,?_,?_,?_,?_,?_,?_,?_,?_,?_,?_,?_,?_,?_,?_,?_,?_,?_,?_,?_,?_,?_⟩
 . intro i;rw [C1,ht _ (by simp) (by simp)];rw [jc (by rw [g.va];omega)];split
   . split<;>simp
   . exact g.vb i
 . intro x I;rw [U,List.mem_append,List.mem_singleton] at I;rw [Y];rcases I with I|rfl
   . exact g.tv x I
   . exact hl
 . rw [U,List.map_append,List.nodup_append];refine ⟨g.nd,by simp,fun a ha c hc e=> ?_⟩;obtain ⟨x,I,rfl⟩:=List.mem_map.1 ha;simp at hc;rw [hc] at e;exact fr x I e
 . intro x I;rw [Y] at I;rw [eval x I,U,List.mem_append,List.mem_singleton];by_cases e:bf x=bf l
   . rw [if_pos e];by_cases Q:x=l
     . rw [if_pos Q];simp [Q]
     . rw [if_neg Q];constructor
       . intro h;omega
       . rintro (h|h)
         . exact absurd e (fr x h)
         . exact absurd h Q
   . rw [if_neg e,g.v1 x I];constructor
     . intro h;exact .inl h
     . rintro (h|h)
       . exact h
       . rw [h] at e;exact absurd rfl e
 . intro j J;rw [V] at J ⊢;rw [U,List.length_append];rcases hb with ⟨e,_⟩| ⟨e,_⟩
   . rw [e] at J ⊢;have:=g.bl j J;simp only [List.length_cons,List.length_nil];omega
   . rw [e] at J ⊢;by_cases h:j< (s.R .be).length
     . rw [bC h];have:=g.bl j h;simp only [List.length_cons,List.length_nil];omega
     . have:j=(s.R .be).length:=by simp at J;omega
       rw [this,cz];simp;omega
 . intro i j ay J;rw [V] at J ⊢;rcases hb with ⟨e,_⟩| ⟨e,_⟩
   . rw [e] at J ⊢;exact g.bs i j ay J
   . rw [e] at J ⊢;by_cases h:j< (s.R .be).length
     . rw [bC h,bC (by omega)];exact g.bs i j ay h
     . have:j=(s.R .be).length:=by simp at J;omega
       rw [this,cz,bC (by omega)];have:=g.bl i (by omega);omega
 . rw [V,av];rcases hb with ⟨e,Q,_⟩| ⟨e,Q,_⟩
   . rw [e,Q];exact g.dl
   . rw [e,Q];simp [g.dl]
 . intro j J;rw [V] at J ⊢;rw [av];have gl:=g.dl;rcases hb with ⟨e,Q,_⟩| ⟨e,Q,_⟩
   . rw [e] at J ⊢;rw [Q];exact g.db j J
   . rw [e] at J ⊢;rw [Q];by_cases h:j< (s.R .be).length
     . rw [bC h,bC (by omega)];exact g.db j h
     . have:j=(s.R .be).length:=by simp at J;omega
       rw [this,cz];rw [<- gl,cz];have:=g.dn;omega
 . intro p hp;rw [U] at hp ⊢;rw [V,aT];by_cases h:p< (s.R .tr).length
   . rw [bC h,if_neg (sI p h),g.lv p h];rcases hb with ⟨e,_⟩| ⟨e,_⟩
     . rw [e]
     . have e9: [((s.R .tr).length:Int)].countP (fun e=>decide (e<=(p:Int)))=0:=List.countP_eq_zero.2 fun x I=>by
        rw [List.mem_singleton] at I;rw [decide_eq_true_eq];omega
       rw [e,List.countP_append,e9,Nat.add_zero]
   . have X:p=(s.R .tr).length:=by simp at hp;omega
     rw [X,cz,if_pos rfl,CF];intro x I;rw [decide_eq_true_eq];have key: ∀x∈s.R .be,x< ((s.R .tr).length:Int):=fun x I=>by
      obtain ⟨j,J,e⟩:=List.mem_iff_getElem.1 I;have:=(g.bl j J).2;simp only [List.getD,List.getElem?_eq_getElem J,Option.getD_some,e] at this;exact this
     rcases hb with ⟨e,_⟩| ⟨e,_⟩
     . rw [e] at I;have:=key x I;omega
     . rw [e,List.mem_append,List.mem_singleton] at I;rcases I with I|rfl
       . have:=key x I;omega
       . exact Int.le_refl _
 . intro p hp hm;rw [U] at hp ⊢;rw [V] at hm;rw [an];by_cases h:p< (s.R .tr).length
   . rw [bC h,if_neg (sI p h)];refine g.Ly p h ?_;rcases hb with ⟨e,_⟩| ⟨e,_⟩
     . rw [e] at hm;exact hm
     . rw [e,List.mem_append,List.mem_singleton] at hm;rcases hm with hm|hm
       . exact hm
       . omega
   . have X:p=(s.R .tr).length:=by simp at hp;omega
     rw [X,cz,if_pos rfl];rw [X] at hm;rcases hb with ⟨e,_⟩| ⟨e,_,e3⟩
     . exfalso;rw [e] at hm;obtain ⟨j,J,e⟩:=List.mem_iff_getElem.1 hm;have:=(g.bl j J).2;simp only [List.getD,List.getElem?_eq_getElem J,Option.getD_some,e] at this;omega
     . exact e3
 . intro p hp hm;rw [U] at hp ⊢;rw [V] at hm;rw [an];by_cases h:p< (s.R .tr).length
   . rw [bC h,if_neg (sI p h)];have bk:(p:Int) ∉ s.R .be:=by
      rcases hb with ⟨e,_⟩| ⟨e,_⟩
      . rw [e] at hm;exact hm
      . rw [e] at hm;exact fun h2=>hm (List.mem_append_left _ h2)
     obtain ⟨i,e1,Q,e3,e4⟩:=g.Kw p h bk;refine ⟨i,e1,(O i).2 Q,by rw [Z];exact e3,fun x I aa=> ?_⟩;rw [Z] at I;rw [List.take_append_of_le_length (by omega)];exact e4 x I aa
   . have X:p=(s.R .tr).length:=by simp at hp;omega
     rw [X,cz,if_pos rfl];rw [X] at hm;rcases hb with ⟨e,_,i,e1,Q,e3,e4⟩| ⟨e,_⟩
     . refine ⟨i,e1,(O i).2 Q,by rw [Z];exact e3,fun x I aa=> ?_⟩;rw [Z] at I;rw [List.take_append_of_le_length (Nat.le_refl _),List.take_length];exact e4 x I aa
     . rw [e] at hm;exact absurd (List.mem_append_right _ (by simp)) hm
 . show t.done<=_;rw [hd,U,List.length_append];have:=g.dn;omega
 . intro i hi x I;rw [Z] at I;rw [Y];exact g.cv i ((O i).1 hi) x I
 . intro i hi;rw [Z];exact g.cn i ((O i).1 hi)
 . intro i hi;rw [Z];exact g.cl i ((O i).1 hi)
 . intro i hi;rw [Z,ea];exact g.ca i ((O i).1 hi)
 . intro i;rw [ea];exact g.al i
 . intro j c hc;rw [ew] at hc;obtain ⟨i,e1,Q,e3⟩:=g.w1 j c hc;exact ⟨i,e1,(O i).2 Q,by rw [Z];exact e3⟩
 . intro i hi x I;rw [Z] at I;rw [ew];exact g.w2 i ((O i).1 hi) x I
 . intro j;rw [ew];exact g.w3 j
 . intro c hc;rw [ac] at hc;obtain ⟨i,e1,Q⟩:=g.o1 c hc;exact ⟨i,e1,(O i).2 Q⟩
 . intro i hi h;rw [Z] at h;rw [ac];exact g.o2 i ((O i).1 hi) h
 . rw [ac];exact g.o3
 . intro i hi h;rw [ac] at h;show W1 (t.put l r) i t.done _;rw [hd,U];exact ap (g.wd i ((O i).1 hi) h) g.dn fun y hy=>List.mem_append_left _ hy
 . intro j J i hi h;rw [ac] at h;rw [V] at J ⊢;rw [av,U];have gl:=g.dl;have a7: ∀j,j< (s.R .be).length->W1 (t.put l r) i ((s.R .ds).getD j 0).toNat ((s.R .tr++ [l]).take ((s.R .be).getD j 0).toNat):=fun j J=>by
    have h1:=g.bl j J;have h2:=g.db j J;rw [List.take_append_of_le_length (by omega)];exact ap (g.wj j J i ((O i).1 hi) h) (by omega) fun y hy=>hy
   rcases hb with ⟨e,Q,_⟩| ⟨e,Q,_⟩
   . rw [e] at J ⊢;rw [Q];exact a7 j J
   . rw [e] at J ⊢;rw [Q];by_cases h2:j< (s.R .be).length
     . rw [bC h2,bC (by omega)];exact a7 j h2
     . have:j=(s.R .be).length:=by simp at J;omega
       rw [this,cz,<- gl,cz,Int.toNat_natCast,Int.toNat_natCast,List.take_append_of_le_length (Nat.le_refl _),List.take_length];exact ap (g.wd i ((O i).1 hi) h) g.dn fun y hy=>hy
end
section
variable {s t u:aH} {l x y:Int}
theorem kZ (h:aA x=aA y):x=y:=by
 unfold aA at h;split at h<;>split at h<;>omega
theorem iq {l:List Int}:x∈l.take 2↔(0<l.length/\x=l.getD 0 0)\/(1<l.length/\x=l.getD 1 0):=by
 match l with
 | []=>simp
 | [a]=>simp [List.getD]
 |a::b::r=>simp [List.getD]
theorem nR (g:aL s) (hs: ∀y,(∀i,y≠Pt.l i)->(∀j,y≠Pt.w j)->y≠ .lo->t.R y=s.R y) (hv:t.vars=s.vars) (hn:t.nc=s.nc) (hg:t.gone=s.gone) (hd:t.done=s.done)
 (pm: ∀i,s.aN i->(t.R (.l i)).Perm (s.R (.l i)))
 (wm: ∀j c,c∈t.R (.w j)↔∃i:Nat,c=i/\s.aN i/\∃x∈(t.R (.l i)).take 2,aA x=j) (wn: ∀j,(t.R (.w j)).Nodup)
 (o1: ∀c∈t.R .lo,∃i:Nat,c=i/\s.aN i) (o2: ∀i,s.aN i->(s.R (.l i)).length<2->(i:Int)∈t.R .lo) (o3:(t.R .lo).Nodup)
 (wz: ∀i,s.aN i->(i:Int) ∉ t.R .lo->((i:Int) ∉ s.R .lo/\∀x,x∈(t.R (.l i)).take 2↔x∈(s.R (.l i)).take 2)\/
   ∀x∈(t.R (.l i)).take 2,-x ∉ (s.R .tr).take s.done/\∀j,j< (s.R .be).length-> -x ∉ (s.R .tr).take ((s.R .ds).getD j 0).toNat):aL t:=by
 have e: ∀y,(∀i,y≠Pt.l i)->(∀j,y≠Pt.w j)->y≠ .lo->t.R y=s.R y:=hs;have J:t.R .tr=s.R .tr:=e _ (by simp) (by simp) (by simp);have O:t.R .be=s.R .be:=e _ (by simp) (by simp) (by simp);have Z:t.R .ds=s.R .ds:=e _ (by simp) (by simp) (by simp);have X:t.R .va=s.R .va:=e _ (by simp) (by simp) (by simp);have aa:t.R .le=s.R .le:=e _ (by simp) (by simp) (by simp);have ac:t.R .re=s.R .re:=e _ (by simp) (by simp) (by simp);have ea: ∀i,t.R (.a i)=s.R (.a i):=fun i=>e _ (by simp) (by simp) (by simp);have I: ∀i,t.aN i↔s.aN i:=fun i=>by show (i<t.nc/\t.gone i=false)↔_;rw [hn,hg];exact Iff.rfl
 have ev: ∀x,t.val x=s.val x:=fun x=>iX X x;have ag: ∀x,t.bi x=s.bi x:=fun x=>by unfold aH.bi;rw [aa]
 have V: ∀x,t.kG x=s.kG x:=fun x=>by unfold aH.kG;rw [ac]
 refine ⟨by rw [hv];exact g.dS,by rw [hn];exact g.FE,by rw [X,hv];exact g.va,by rw [X];exact g.vb,by rw [aa,hv];exact g.le,by rw [ac,hv];exact g.rl,by rw [J,hv];exact g.tv,by rw [J];exact g.nd,fun x Q=>by rw [ev,J];exact g.v1 x (by rw [hv] at Q;exact Q),
  by rw [O,J];exact g.bl,by rw [O];exact g.bs,by rw [Z,O];exact g.dl,by rw [O,Z];exact g.db,fun p hp=>by rw [J] at hp ⊢;rw [ag,O];exact g.lv p hp,fun p hp hm=>by rw [J] at hp ⊢;rw [V];rw [O] at hm;exact g.Ly p hp hm,
  fun p hp hm=> ?_,by rw [hd,J];exact g.dn,fun i hi x Q=>by rw [hv];exact g.cv i ((I i).1 hi) x ((pm i ((I i).1 hi)).mem_iff.1 Q),fun i hi=> (pm i ((I i).1 hi)).nodup_iff.2 (g.cn i ((I i).1 hi)),
  fun i hi=>by rw [(pm i ((I i).1 hi)).length_eq];exact g.cl i ((I i).1 hi),fun i hi x=>by rw [(pm i ((I i).1 hi)).mem_iff,ea];exact g.ca i ((I i).1 hi) x,fun i=>by rw [ea];exact g.al i,
  fun j c hc=> ?_,fun i hi x Q=> ?_,wn,fun c hc=> ?_,fun i hi h=> ?_,o3,fun i hi h=> ?_,fun j hj i hi h=> ?_⟩
 . rw [J] at hp ⊢;rw [O] at hm;obtain ⟨i,e1,Y,e3,e4⟩:=g.Kw p hp hm;exact ⟨i,by rw [V];exact e1,(I i).2 Y,(pm i Y).mem_iff.2 e3,fun x Q U=>e4 x ((pm i Y).mem_iff.1 Q) U⟩
 . obtain ⟨i,e1,Y,e3⟩:=(wm j c).1 hc;exact ⟨i,e1,(I i).2 Y,e3⟩
 . exact (wm _ _).2 ⟨i,rfl,(I i).1 hi,x,Q,rfl⟩
 . obtain ⟨i,e1,Y⟩:=o1 c hc;exact ⟨i,e1,(I i).2 Y⟩
 . rw [(pm i ((I i).1 hi)).length_eq] at h;exact o2 i ((I i).1 hi) h
 . intro x Q y hy U hm;rw [J,hd] at hm;rw [J];rcases wz i ((I i).1 hi) h with ⟨h1,h2⟩|h1
   . exact g.wd i ((I i).1 hi) h1 x ((h2 x).1 Q) y ((h2 y).1 hy) U hm
   . exact absurd hm (h1 x Q).1
 . intro x Q y hy U hm;rw [O] at hj;rw [J,Z] at hm;rw [J,O];rcases wz i ((I i).1 hi) h with ⟨h1,h2⟩|h1
   . exact g.wj j hj i ((I i).1 hi) h1 x ((h2 x).1 Q) y ((h2 y).1 hy) U hm
   . exact absurd hm ((h1 x Q).2 j hj)
theorem aL.wm (g:aL s) (j:Nat) (c:Int):c∈s.R (.w j)↔∃i:Nat,c=i/\s.aN i/\∃x∈(s.R (.l i)).take 2,aA x=j:=
 ⟨g.w1 j c,fun ⟨i,I,Q,x,J,O⟩=>by subst I O;exact g.w2 i Q x J⟩
theorem t6 (i:Int) (j:Nat) (c:Int): ∀ (J:List Int) (t:aH),c∈(lV i t J).R (.w j)↔c∈t.R (.w j)/\(c≠i\/∀x∈J,aA x≠j)
 | [],t=>by simp [lV]
 |z::J,t=>by
  show c∈(lV i (t.set (.w (aA z)) ((t.R (.w (aA z))).filter fun k=> !(k==i))) J).R (.w j)↔_;rw [t6 i j c J];by_cases e:aA z=j
  . subst e;rw [aK,List.mem_filter];simp only [List.mem_cons,Bool.not_eq_true',beq_eq_false_iff_ne,ne_eq];constructor
    . rintro ⟨⟨h1,I⟩,_⟩;exact ⟨h1,.inl I⟩
    . rintro ⟨h1,I|I⟩
      . exact ⟨⟨h1,I⟩,.inl I⟩
      . exact absurd rfl (I z (.inl rfl))
  . rw [aq (fun h=>e (by injection h with h;exact h.symm))];simp only [List.mem_cons,ne_eq];constructor
    . rintro ⟨h1,I|I⟩
      . exact ⟨h1,.inl I⟩
      . refine ⟨h1,.inr fun x O=> ?_⟩;rcases O with rfl|O
        . exact e
        . exact I x O
    . rintro ⟨h1,I|I⟩
      . exact ⟨h1,.inl I⟩
      . exact ⟨h1,.inr fun x O=>I x (.inr O)⟩
theorem sj (i:Int) (j:Nat): ∀ (I:List Int) (t:aH),(t.R (.w j)).Nodup->((lV i t I).R (.w j)).Nodup
 | [],_,h=>h
 |z::I,t,h=>by
  refine sj i j I _ ?_;by_cases e:aA z=j
  . subst e;rw [aK];exact h.filter _
  . rw [aq (fun h=>e (by injection h with h;exact h.symm))];exact h
theorem CL (i:Int) (j:Nat) (c:Int): ∀ (O:List Int) (t:aH),c∈(wF i t O).R (.w j)↔c∈t.R (.w j)\/(c=i/\∃x∈O,aA x=j)
 | [],t=>by simp [wF]
 |z::O,t=>by
  show c∈(wF i (t.set (.w (aA z)) (t.R (.w (aA z))++ [i])) O).R (.w j)↔_;rw [CL i j c O];by_cases e:aA z=j
  . subst e;rw [aK,List.mem_append,List.mem_singleton];constructor
    . rintro ((h|h)| ⟨h,x,J,I⟩)
      . exact .inl h
      . exact .inr ⟨h,z,List.mem_cons_self ..,rfl⟩
      . exact .inr ⟨h,x,List.mem_cons_of_mem _ J,I⟩
    . rintro (h| ⟨h,_⟩)
      . exact .inl (.inl h)
      . exact .inl (.inr h)
  . rw [aq (fun h=>e (by injection h with h;exact h.symm))];constructor
    . rintro (h| ⟨h,x,J,I⟩)
      . exact .inl h
      . exact .inr ⟨h,x,List.mem_cons_of_mem _ J,I⟩
    . rintro (h| ⟨h,x,J,I⟩)
      . exact .inl h
      . rcases List.mem_cons.1 J with rfl|J
        . exact absurd I e
        . exact .inr ⟨h,x,J,I⟩
theorem qT {l:List Int} {a:Int} (h:l.Nodup) (ha:a ∉ l):(l++ [a]).Nodup:=by
 rw [List.nodup_append];refine ⟨h,by simp,fun x I y J e=> ?_⟩;rw [List.mem_singleton] at J;rw [e,J] at I;exact ha I
theorem rj (i:Int) (j:Nat): ∀ (O:List Int) (t:aH),O.Nodup->(t.R (.w j)).Nodup->((∃x∈O,aA x=j)->i ∉ t.R (.w j))->((wF i t O).R (.w j)).Nodup
 | [],_,_,h,_=>h
 |z::O,t,hx,h,hi=>by
  obtain ⟨U,Q⟩:=List.nodup_cons.1 hx;by_cases e:aA z=j
  . subst e;refine rj i _ O _ Q ?_ ?_
    . rw [aK];exact qT h (hi ⟨z,List.mem_cons_self ..,rfl⟩)
    . rintro ⟨x,I,J⟩;rw [kZ J] at I;exact absurd I U
  . refine rj i j O _ Q ?_ ?_
    . rw [aq (fun h=>e (by injection h with h;exact h.symm))];exact h
    . rintro ⟨x,I,J⟩;rw [aq (fun h=>e (by injection h with h;exact h.symm))];exact hi ⟨x,List.mem_cons_of_mem _ I,J⟩
theorem tE {l:List Int} (h:l.Nodup):(l.take 2).Nodup:=(List.take_sublist 2 l).nodup h
end
section
variable {s t u s':aH} {l x y:Int} {i:Nat}
structure iM (s s':aH):Prop where
 v:s'.vars=s.vars
 n:s'.nc=s.nc
 g:s'.gone=s.gone
 a: ∀i,s'.R (.a i)=s.R (.a i)
 be:s'.R .be=s.R .be
 ds:s'.R .ds=s.R .ds
 tr: ∃e,s'.R .tr=s.R .tr++e
theorem iM.refl (s:aH):iM s s:=⟨rfl,rfl,rfl,fun _=>rfl,rfl,rfl,[],by simp⟩
theorem iM.trans (h:iM s t) (k:iM t u):iM s u:=by
 obtain ⟨e,he⟩:=h.tr;obtain ⟨J,I⟩:=k.tr;exact ⟨k.v.trans h.v,k.n.trans h.n,k.g.trans h.g,fun i=> (k.a i).trans (h.a i),k.be.trans h.be,k.ds.trans h.ds,e++J,by rw [I,he,List.append_assoc]⟩
theorem iM.mem (h:iM s t) (I:x∈s.R .tr):x∈t.R .tr:=by
 obtain ⟨e,he⟩:=h.tr;rw [he];exact List.mem_append_left _ I
theorem iM.ni (h:iM s t):t.aN i↔s.aN i:=by
 show (i<t.nc/\t.gone i=false)↔_;rw [h.n,h.g];exact Iff.rfl
theorem iM.set {x:Pt} (h1: ∀i,x≠ .a i) (O:x≠ .be) (I:x≠ .ds) (J:x≠ .tr) {l:List Int}:iM s (s.set x l):=
 ⟨rfl,rfl,rfl,fun i=>aq (fun e=>h1 i e.symm),aq (Ne.symm O),aq (Ne.symm I),[],by rw [aq (Ne.symm J)];simp⟩
theorem iM.put {r:Int}:iM s (s.put l r):=
 ⟨rfl,rfl,rfl,fun _=>iZ (by simp) (by simp) (by simp) (by simp),iZ (by simp) (by simp) (by simp) (by simp),iZ (by simp) (by simp) (by simp) (by simp),[l],pO⟩
theorem iM.wF {c:Int} {I:List Int}:iM s (wF c s I):=by
 obtain ⟨h1,O,J,_⟩:=nQ c I s;exact ⟨h1,O,J,fun _=>pC c (by simp) _ _,pC c (by simp) _ _,pC c (by simp) _ _,[],by rw [pC c (by simp)];simp⟩
theorem iM.lV {c:Int} {I:List Int}:iM s (lV c s I):=by
 obtain ⟨h1,O,J,_⟩:=gZ c I s;exact ⟨h1,O,J,fun _=>iB c (by simp) _ _,iB c (by simp) _ _,iB c (by simp) _ _,[],by rw [iB c (by simp)];simp⟩
theorem tq {l:List Int} {f:Int}:x∈(ja l f).take 2↔x∈l.take 2:=by
 unfold ja;split
 . rename_i h;rw [iq,iq,rE,kL (by omega) h.2,kL (by omega) h.2];simp only [if_pos,if_neg (show (0:Nat)≠1 by omega),if_neg (show (1:Nat)≠0 by omega)];constructor
   . rintro (⟨a,b⟩| ⟨a,b⟩)
     . exact .inr ⟨h.2,b⟩
     . exact .inl ⟨by omega,b⟩
   . rintro (⟨a,b⟩| ⟨a,b⟩)
     . exact .inr ⟨h.2,b⟩
     . exact .inl ⟨by omega,b⟩
 . exact Iff.rfl
theorem En {l:List Int} {f:Int} (I:2<=l.length) (hf:f∈l.take 2):(ja l f).getD 1 0=f:=by
 unfold ja;rcases iq.1 hf with ⟨_,e⟩| ⟨_,e⟩
 . rw [if_pos ⟨e.symm,by omega⟩,kL (by omega) (by omega),if_pos rfl,e]
 . split
   . rename_i h;rw [kL (by omega) (by omega),if_pos rfl,h.1]
   . exact e.symm
theorem C_ (g:aL s) (i:Nat) (f:Int):aL (s.set (.l i) (ja (s.R (.l i)) f)):=by
 have V: ∀k,(s.set (.l i) (ja (s.R (.l i)) f)).R (.l k)=if k=i then ja (s.R (.l i)) f else s.R (.l k):=fun k=>by
  by_cases e:k=i
  . rw [if_pos e,e,aK]
  . rw [if_neg e,aq (by simpa using e)]
 have U: ∀k x,x∈((s.set (.l i) (ja (s.R (.l i)) f)).R (.l k)).take 2↔x∈(s.R (.l k)).take 2:=fun k x=>by
  rw [V];split
  . rename_i e;rw [e];exact tq
  . exact Iff.rfl
 refine nR g (fun y h1 _ _=>aq (h1 i)) rfl rfl rfl rfl (fun k _=> ?_) (fun j c=> ?_) (fun j=>by rw [aq (by simp)];exact g.w3 j) (by rw [aq (by simp)];exact g.o1) (by rw [aq (by simp)];exact g.o2) (by rw [aq (by simp)];exact g.o3)
  (fun k _ h=> .inl ⟨by rw [aq (by simp)] at h;exact h,U k⟩)
 . rw [V];split
   . rename_i e;rw [e];exact nT _ _
   . exact List.Perm.refl _
 . rw [aq (by simp),g.wm];constructor
   . rintro ⟨k,J,I,x,O,Q⟩;exact ⟨k,J,I,x,(U k x).2 O,Q⟩
   . rintro ⟨k,J,I,x,O,Q⟩;exact ⟨k,J,I,x,(U k x).1 O,Q⟩
def Pg (s:aH) (i:Nat):Prop:=(i:Int) ∉ s.R .lo->W1 s i (s.done+1) (s.R .tr)
theorem fg {l:List Int} {n:Nat} (h:n<l.length):x∈l.take (n+1)↔x∈l.take n\/x=l.getD n 0:=cW h
theorem LP {r:Int} (h:Pg s i) (U:s.done< (s.R .tr).length):Pg (s.put l r) i:=by
 intro I x O y Q J hm;rw [iZ (by simp) (by simp) (by simp) (by simp)] at I O Q;rw [pO] at hm ⊢;have hm: -x∈(s.R .tr++ [l]).take (s.done+1):=hm;rw [List.take_append_of_le_length (show s.done+1<=_ from U)] at hm;exact List.mem_append_left _ (h I x O y Q J hm)
theorem u6 (g:aL s) (hi:s.aN i) (h2:2<=(s.R (.l i)).length) {f:Int} (hf:f∈(s.R (.l i)).take 2) (hd:s.done< (s.R .tr).length) (hp:(s.R .tr).getD s.done 0= -f) {st br:Bool} (V:sS s i (ja (s.R (.l i)) f) s' st br)
 {r:List Int} (b3:st=true->r=s.R (.w (aA f))) (b_:st=false->(∀c,c∈r↔c∈s.R (.w (aA f))/\c≠(i:Int))/\r.Nodup):
 aL (s'.set (.w (aA f)) r)/\(br=false->Pg (s'.set (.w (aA f)) r) i)/\(∀k,k≠i->Pg s k->Pg (s'.set (.w (aA f)) r) k)/\iM s (s'.set (.w (aA f)) r)/\(br=true->∀x∈s.R (.l i),-x∈s.R .tr)/\
  s'.R .lo=s.R .lo/\s'.done=s.done/\(∀j,j≠aA f->∀c,c∈s.R (.w j)->c∈s'.R (.w j))/\(∀k,k≠i->s'.R (.l k)=s.R (.l k))/\(∀x,x∈s'.R (.l i)↔x∈s.R (.l i)):=by
 have cc:f∈s.R (.l i):=List.mem_of_mem_take hf;have ce:=g.cv i hi f cc;have av: -f∈s.R .tr:=by rw [<- hp];exact bg hd
 have b8:f ∉ s.R .tr:=fun e=>g.cons e av;have aw:=En h2 hf;have c2:=xW (s.R (.l i)) f;have U:=nT (s.R (.l i)) f;have ax: ∀x,x∈(ja (s.R (.l i)) f).take 2↔x∈(s.R (.l i)).take 2:=fun x=>tq;have gm:=C_ g i f;generalize ja (s.R (.l i)) f=m at*
 have bb:m.Nodup:=U.nodup_iff.2 (g.cn i hi);have a8:m.getD 0 0≠f:=fun e=>by
  have:=(List.getElem_inj (h₀:=show 0<m.length by omega) (h₁:=show 1<m.length by omega) bb).1 (by
   have e0:m.getD 0 0=m[0]:=by simp [List.getD,show 0<m.length by omega]
   have e1:m.getD 1 0=m[1]:=by simp [List.getD,show 1<m.length by omega]
   rw [<- e0,<- e1,e,aw])
  omega
 have bu:m.getD 0 0∈m:=bg (by omega);have bc:dB s.vars (m.getD 0 0):=g.cv i hi _ (U.mem_iff.1 bu);have same:st=true->s'.R (.w (aA f))=s.R (.w (aA f))->s'.set (.w (aA f)) r=s':=fun h e=>by rw [b3 h,<- e,d7]
 have tm: ∀x,x∈m.take 2↔x=m.getD 0 0\/x=f:=fun x=>by
  rw [iq,aw];exact ⟨fun h=>h.elim (fun h=> .inl h.2) fun h=> .inr h.2,fun h=>h.elim (fun h=> .inl ⟨by omega,h⟩) fun h=> .inr ⟨by omega,h⟩⟩
 have ac: ∀k,k≠i->Pg s k->Pg (s.set (.l i) m) k:=fun k hk h J x I y Z O hm=>by
  rw [aq (by simp)] at J;rw [aq (by simpa using hk)] at I Z;rw [aq (by simp)] at hm ⊢;exact h J x I y Z O hm
 cases V with
 |Ms h=>
  have e:(s.set (.l i) m).R (.w (aA f))=s.R (.w (aA f)):=aq (by simp);rw [same rfl e];have ag:=(g.Of bc).1 h;refine ⟨gm,fun _ J x I y Z O hm=> ?_,ac,iM.set (by simp) (by simp) (by simp) (by simp),fun h=> (by cases h),aq (by simp),rfl,fun j _ c hc=> (by rw [aq (by simp)];exact hc),fun k hk=>aq (by simpa using hk),fun x=>by rw [aK];exact U.mem_iff⟩;rw [aK] at I Z;rw [aq (by simp)] at hm ⊢;rcases (tm x).1 I with rfl|rfl
  . exact absurd (List.mem_of_mem_take hm) (g.cons ag)
  . rcases (tm y).1 Z with rfl|rfl
    . exact ag
    . exact absurd rfl O
 |oC h ad=>
  have e:(s.set (.l i) m).R (.w (aA f))=s.R (.w (aA f)):=aq (by simp);rw [same rfl e];refine ⟨gm,fun h=> (by cases h),ac,iM.set (by simp) (by simp) (by simp) (by simp),fun _ x I=> ?_,aq (by simp),rfl,fun j _ c hc=> (by rw [aq (by simp)];exact hc),fun k hk=>aq (by simpa using hk),fun x=>by rw [aK];exact U.mem_iff⟩;have cb:=U.mem_iff.2 I;obtain ⟨j,hj,e⟩:=List.mem_iff_getElem.1 cb;have Y:m.getD j 0=x:=by simp [List.getD,hj,e]
  have ar:=g.cv i hi x I
  match j,Y with
  |0,Y=>rw [Y] at h;exact (g.GJ ar).1 h
  |1,Y=>rw [aw] at Y;rw [<- Y];exact av
  |j+2,Y=>have:=ad (j+2) (by omega) hj;rw [Y] at this;exact (g.GJ ar).1 this
 |unit h ad=>
  have e:((s.set (.l i) m).put (m.getD 0 0) i).R (.w (aA f))=s.R (.w (aA f)):=by rw [iZ (by simp) (by simp) (by simp) (by simp),aq (by simp)]
  rw [same rfl e];have ev:(s.set (.l i) m).val (m.getD 0 0)=0:=by rw [iX (s:=s) (aq (by simp))];exact h
  have cp: ∀x∈m,x≠m.getD 0 0-> -x∈s.R .tr:=fun x I O=>by
   obtain ⟨j,hj,e⟩:=List.mem_iff_getElem.1 I;have Y:m.getD j 0=x:=by simp [List.getD,hj,e]
   have ar:=g.cv i hi x (U.mem_iff.1 I)
   match j,Y with
   |0,Y=>exact absurd Y.symm O
   |1,Y=>rw [aw] at Y;rw [<- Y];exact av
   |j+2,Y=>have:=ad (j+2) (by omega) hj;rw [Y] at this;exact (g.GJ ar).1 this
  have gp:aL ((s.set (.l i) m).put (m.getD 0 0) i):=uS gm bc ev (fun _ _ _=>rfl) rfl rfl rfl rfl (.inl ⟨rfl,rfl,i,rfl,hi,by rw [aK];exact bu,fun x I O=>by
   rw [aK] at I;rw [aq (by simp)];exact cp x I O⟩)
  have xt:iM s ((s.set (.l i) m).put (m.getD 0 0) i):=(iM.set (by simp) (by simp) (by simp) (by simp)).trans iM.put;refine ⟨gp,fun _ J x I y Z O hm=> ?_,fun k hk h=>LP (ac k hk h) (by rw [aq (by simp)];exact hd),xt,fun h=> (by cases h),by rw [iZ (by simp) (by simp) (by simp) (by simp),aq (by simp)],rfl,
   fun j _ c hc=> (by rw [iZ (by simp) (by simp) (by simp) (by simp),aq (by simp)];exact hc),fun k hk=>by rw [iZ (by simp) (by simp) (by simp) (by simp)];exact aq (by simpa using hk),fun x=>by rw [iZ (by simp) (by simp) (by simp) (by simp),aK];exact U.mem_iff⟩
  rw [iZ (by simp) (by simp) (by simp) (by simp),aK] at I Z;have ag:m.getD 0 0∈((s.set (.l i) m).put (m.getD 0 0) i).R .tr:=by rw [pO];simp
  rcases (tm x).1 I with rfl|rfl
  . exact absurd (List.mem_of_mem_take hm) (gp.cons ag)
  . rcases (tm y).1 Z with rfl|rfl
    . exact ag
    . exact absurd rfl O
 |AP k hn k2 kl hk=>
  obtain ⟨hr,bY⟩:=b_ rfl;have b7:m.getD k 0∈m:=bg kl;generalize hz:m.getD k 0=z at*
  have b6:=g.cv i hi z (U.mem_iff.1 b7);have bv:z≠f:=fun e=>by
   have:=(g.GJ ce).2 av;rw [<- e] at this;omega
  have b':z ∉ m.take 2:=fun e=>by
   rcases (tm z).1 e with e|e
   . have:=(List.getElem_inj (h₀:=show 0<m.length by omega) (h₁:=kl) bb).1 (by
      have e0:m.getD 0 0=m[0]:=by simp [List.getD,show 0<m.length by omega]
      have e1:m.getD k 0=m[k]:=by simp [List.getD,kl]
      rw [<- e0,<- e1,hz,e])
     omega
   . exact bv e
  have b4:aA z≠aA f:=fun e=>bv (kZ e);have t2: ∀x,x∈(qI m 1 k).take 2↔x=m.getD 0 0\/x=z:=fun x=>by
   have e0:(qI m 1 k).getD 0 0=m.getD 0 0:=by rw [kL (by omega) (by omega),if_neg (by omega),if_neg (by omega)]
   have e1:(qI m 1 k).getD 1 0=z:=by rw [kL (by omega) (by omega),if_neg (by omega),if_pos rfl,hz]
   rw [iq,rE,e0,e1];exact ⟨fun h=>h.elim (fun h=> .inl h.2) fun h=> .inr h.2,fun h=>h.elim (fun h=> .inl ⟨by omega,h⟩) fun h=> .inr ⟨by omega,h⟩⟩
  have bk:(qI m 1 k).Perm (s.R (.l i)):=(wI (by omega) kl).trans U;have a6: -z ∉ s.R .tr:=fun e=>by have:=(g.GJ b6).2 e;omega
  have Q: ∀y,(∀i,y≠Pt.l i)->(∀j,y≠Pt.w j)->(((s.set (.l i) (qI m 1 k)).set (.w (aA z)) (s.R (.w (aA z))++ [(i:Int)])).set (.w (aA f)) r).R y=s.R y:=fun y h1 h2=>by
   rw [aq (h2 _),aq (h2 _),aq (h1 _)]
  have el: ∀q,(((s.set (.l i) (qI m 1 k)).set (.w (aA z)) (s.R (.w (aA z))++ [(i:Int)])).set (.w (aA f)) r).R (.l q)=if q=i then qI m 1 k else s.R (.l q):=fun q=>by
   rw [aq (by simp),aq (by simp)];by_cases e:q=i
   . rw [if_pos e,e,aK]
   . rw [if_neg e,aq (by simpa using e)]
  have ew: ∀j c,c∈(((s.set (.l i) (qI m 1 k)).set (.w (aA z)) (s.R (.w (aA z))++ [(i:Int)])).set (.w (aA f)) r).R (.w j)↔(c∈s.R (.w j)/\(j=aA f->c≠(i:Int)))\/(j=aA z/\c=(i:Int)):=fun j c=>by
   by_cases e:j=aA f
   . subst e;rw [aK,hr];exact ⟨fun h=> .inl ⟨h.1,fun _=>h.2⟩,fun h=>h.elim (fun h=> ⟨h.1,h.2 rfl⟩) fun h=>absurd h.1.symm b4⟩
   . rw [aq (by simpa using e)];by_cases X:j=aA z
     . subst X;rw [aK,List.mem_append,List.mem_singleton];exact ⟨fun h=>h.elim (fun h=> .inl ⟨h,fun h=>absurd h e⟩) fun h=> .inr ⟨rfl,h⟩,fun h=>h.elim (fun h=> .inl h.1) fun h=> .inr h.2⟩
     . rw [aq (by simpa using X),aq (by simp)];exact ⟨fun h=> .inl ⟨h,fun h=>absurd h e⟩,fun h=>h.elim (fun h=>h.1) fun h=>absurd h.1 X⟩
  have b5:(i:Int) ∉ s.R (.w (aA z)):=fun e=>by
   obtain ⟨q,e1,X,x,I,e3⟩:=g.w1 _ _ e;have:q=i:=by omega
   subst this;rw [kZ e3] at I;exact b' ((ax z).2 I)
  have iL:(i:Int) ∉ s.R .lo->(∀D,(∀x∈(s.R (.l i)).take 2,∀y∈(s.R (.l i)).take 2,x≠y-> -x∈(s.R .tr).take D->y∈s.R .tr)-> -(m.getD 0 0) ∉ (s.R .tr).take D):=fun _ D h hm=>by
   have:=h (m.getD 0 0) ((ax _).1 ((tm _).2 (.inl rfl))) f hf a8 hm;exact b8 this
  have G':aL (((s.set (.l i) (qI m 1 k)).set (.w (aA z)) (s.R (.w (aA z))++ [(i:Int)])).set (.w (aA f)) r):=by
   refine nR g (fun y h1 h2 _=>Q y h1 h2) rfl rfl rfl rfl (fun q _=> ?_) (fun j c=> ?_) (fun j=> ?_) (by rw [Q _ (by simp) (by simp)];exact g.o1) (by rw [Q _ (by simp) (by simp)];exact g.o2) (by rw [Q _ (by simp) (by simp)];exact g.o3) (fun q hq J=> ?_)
   . rw [el];split
     . rename_i e;rw [e];exact bk
     . exact List.Perm.refl _
   . rw [ew,g.wm];constructor
     . rintro (⟨⟨q,e1,X,x,I,e3⟩,h⟩| ⟨e1,X⟩)
       . refine ⟨q,e1,X,?_⟩;rw [el];by_cases e:q=i
         . subst e;rw [if_pos rfl];rcases (tm x).1 ((ax x).2 I) with rfl|rfl
           . exact ⟨_,(t2 _).2 (.inl rfl),e3⟩
           . exact absurd e1 (h e3.symm)
         . rw [if_neg e];exact ⟨x,I,e3⟩
       . exact ⟨i,X,hi,z,by rw [el,if_pos rfl];exact (t2 _).2 (.inr rfl),e1.symm⟩
     . rintro ⟨q,e1,X,x,I,e3⟩;rw [el] at I;by_cases e:q=i
       . subst e;rw [if_pos rfl] at I;rcases (t2 x).1 I with rfl|rfl
         . refine .inl ⟨⟨q,e1,X,_,(ax _).1 ((tm _).2 (.inl rfl)),e3⟩,fun h=> ?_⟩;exact absurd (kZ (e3.trans h)) a8
         . exact .inr ⟨e3.symm,e1⟩
       . rw [if_neg e] at I;exact .inl ⟨⟨q,e1,X,x,I,e3⟩,fun _ h=>e (by omega)⟩
   . by_cases e:j=aA f
     . subst e;rw [aK];exact bY
     . rw [aq (by simpa using e)];by_cases X:j=aA z
       . subst X;rw [aK];exact qT (g.w3 _) b5
       . rw [aq (by simpa using X),aq (by simp)];exact g.w3 j
   . rw [Q _ (by simp) (by simp)] at J;rw [el];by_cases e:q=i
     . subst e;rw [if_pos rfl];refine .inr fun x I=> ?_;rcases (t2 x).1 I with rfl|rfl
       . exact ⟨iL J _ (g.wd q hi J),fun j hj=>iL J _ fun x I y Z O hm=>List.mem_of_mem_take (g.wj j hj q hi J x I y Z O hm)⟩
       . exact ⟨fun h=>a6 (List.mem_of_mem_take h),fun j _ h=>a6 (List.mem_of_mem_take h)⟩
     . rw [if_neg e];exact .inl ⟨J,fun _=>Iff.rfl⟩
  refine ⟨G',fun _ J x I y Z O hm=> ?_,fun q hq h J x I y Z O hm=> ?_,?_,fun h=> (by cases h),by rw [aq (by simp),aq (by simp)],rfl,fun j hj c hc=> ?_,fun q hq=>by rw [aq (by simp),aq (by simpa using hq)],fun x=>by rw [aq (by simp),aK];exact bk.mem_iff⟩
  . rw [Q _ (by simp) (by simp)] at J hm ⊢;rw [el,if_pos rfl] at I Z;have hm: -x∈(s.R .tr).take (s.done+1):=hm;exfalso;rcases (t2 x).1 I with rfl|rfl
    . rcases (fg hd).1 hm with hm|hm
      . exact iL J _ (g.wd i hi J) hm
      . rw [hp] at hm;exact a8 (by omega)
    . exact a6 (List.mem_of_mem_take hm)
  . rw [Q _ (by simp) (by simp)] at J hm ⊢;rw [el,if_neg hq] at I Z;exact h J x I y Z O hm
  . exact ⟨rfl,rfl,rfl,fun q=>Q _ (by simp) (by simp),Q _ (by simp) (by simp),Q _ (by simp) (by simp),[],by rw [Q _ (by simp) (by simp)];simp⟩
  . by_cases X:j=aA z
    . subst X;rw [aK];exact List.mem_append_left _ hc
    . rw [aq (by simpa using X),aq (by simp)];exact hc
theorem Cc (g:aL s) (hi:s.aN i) {keep rest:List Int} (X:s.R .lo=keep++ (i:Int)::rest) {l':List Int} (pm:l'.Perm (s.R (.l i))) (J:2<=l'.length) (v0:0<=s.val (l'.getD 0 0)) (v1:0<=s.val (l'.getD 1 0)):
 aL ((wF i ((lV i s ((s.R (.l i)).take 2)).set (.l i) l') (l'.take 2)).set .lo (keep++rest)):=by
 have eR: ∀y,(∀i,y≠Pt.l i)->(∀j,y≠Pt.w j)->y≠ .lo->((wF i ((lV i s ((s.R (.l i)).take 2)).set (.l i) l') (l'.take 2)).set .lo (keep++rest)).R y=s.R y:=fun y h1 J h3=>by
  rw [aq h3,pC _ J,aq (h1 _),iB _ J]
 have Y: ∀q,((wF i ((lV i s ((s.R (.l i)).take 2)).set (.l i) l') (l'.take 2)).set .lo (keep++rest)).R (.l q)=if q=i then l' else s.R (.l q):=fun q=>by
  rw [aq (by simp),pC _ (by simp)];by_cases e:q=i
  . rw [if_pos e,e,aK]
  . rw [if_neg e,aq (by simpa using e),iB _ (by simp)]
 have ew: ∀j c,c∈((wF i ((lV i s ((s.R (.l i)).take 2)).set (.l i) l') (l'.take 2)).set .lo (keep++rest)).R (.w j)↔(c∈s.R (.w j)/\c≠(i:Int))\/(c=(i:Int)/\∃x∈l'.take 2,aA x=j):=fun j c=>by
  rw [aq (by simp),CL,aq (by simp),t6];constructor
  . rintro (⟨h1,J|J⟩|h)
    . exact .inl ⟨h1,J⟩
    . refine .inl ⟨h1,fun e=> ?_⟩;subst e;obtain ⟨q,Q,Z,x,I,O⟩:=g.w1 _ _ h1;have:q=i:=by omega
      subst this;exact J x I O
    . exact .inr h
  . rintro (⟨h1,J⟩|h)
    . exact .inl ⟨h1,.inl J⟩
    . exact .inr h
 obtain ⟨d1,d2,d3,d4⟩:=nQ i (l'.take 2) ((lV i s ((s.R (.l i)).take 2)).set (.l i) l');obtain ⟨u1,u2,u3,u4⟩:=gZ i ((s.R (.l i)).take 2) s;have nl:=g.o3;rw [X] at nl;have U:(keep++rest).Sublist (keep++ (i:Int)::rest):=List.Sublist.append (List.Sublist.refl _) (List.sublist_cons_self _ _);have V: ∀c,c∈s.R .lo->c≠(i:Int)->c∈keep++rest:=fun c hc ad=>by
  rw [X,List.mem_append,List.mem_cons] at hc;rw [List.mem_append];rcases hc with h|h|h
  . exact .inl h
  . exact absurd h ad
  . exact .inr h
 have ac: ∀x∈l',dB s.vars x:=fun x I=>g.cv i hi x (pm.mem_iff.1 I);refine nR g eR (d1.trans u1) (d2.trans u2) (d3.trans u3) (d4.trans u4) (fun q _=> ?_) (fun j c=> ?_) (fun j=> ?_) (by rw [aK];exact fun c hc=>g.o1 c (by rw [X];exact U.mem hc)) (fun q hq h=> ?_) (by rw [aK];exact U.nodup nl) (fun q hq h=> ?_)
 . rw [Y];split
   . rename_i e;rw [e];exact pm
   . exact List.Perm.refl _
 . rw [ew,g.wm];constructor
   . rintro (⟨⟨q,Q,Z,x,I,O⟩,h⟩| ⟨Q,x,I,O⟩)
     . exact ⟨q,Q,Z,x,by rw [Y,if_neg (fun e=>h (by rw [Q,e]))];exact I,O⟩
     . exact ⟨i,Q,hi,x,by rw [Y,if_pos rfl];exact I,O⟩
   . rintro ⟨q,Q,Z,x,I,O⟩;rw [Y] at I;by_cases e:q=i
     . subst e;rw [if_pos rfl] at I;exact .inr ⟨Q,x,I,O⟩
     . rw [if_neg e] at I;exact .inl ⟨⟨q,Q,Z,x,I,O⟩,fun h=>e (by omega)⟩
 . rw [aq (by simp)];refine rj i j _ _ (tE (pm.nodup_iff.2 (g.cn i hi))) (by rw [aq (by simp)];exact sj i j _ _ (g.w3 j)) fun _=> ?_;rw [aq (by simp),t6];rintro ⟨h1,J|J⟩
   . exact J rfl
   . obtain ⟨q,Q,Z,x,I,O⟩:=g.w1 _ _ h1;have:q=i:=by omega
     subst this;exact J x I O
 . rw [aK];refine V _ (g.o2 q hq h) fun e=> ?_;have:q=i:=by omega
   subst this;rw [pm.length_eq] at J;omega
 . rw [aK] at h;rw [Y];by_cases e:q=i
   . subst e;rw [if_pos rfl];refine .inr fun x I=> ?_;have ar:0<=s.val x:=by
      rcases iq.1 I with ⟨_,e⟩| ⟨_,e⟩<;>rw [e]<;>assumption
     have: -x ∉ s.R .tr:=fun e=>by
      have:=(g.GJ (ac x (List.mem_of_mem_take I))).2 e;omega
     exact ⟨fun h=>this (List.mem_of_mem_take h),fun j _ h=>this (List.mem_of_mem_take h)⟩
   . rw [if_neg e];exact .inl ⟨fun J=>h (V _ J fun h3=>e (by omega)),fun _=>Iff.rfl⟩
end
section
variable {w w' w0 w2 w3:World} {b:Nat} {H H' H2:Pt->Sl} {s t u s' T:aH} {l x y:Int} {i:Nat}
theorem dj {x y:Pt} (h:x≠y) {l m:List Int}:(s.set x l).set y m=(s.set y m).set x l:=by
 simp only [aH.set];congr 1;funext z;simp only [bh];by_cases e:z=x
 . subst e;rw [if_neg h,if_pos rfl,if_pos rfl]
 . by_cases I:z=y
   . subst I;rw [if_pos rfl,if_neg e,if_pos rfl]
   . rw [if_neg I,if_neg e,if_neg e,if_neg I]
theorem Kk (c:Int) {L:List Int}: ∀ (I:List Int) (t:aH),wF c (t.set .lo L) I=(wF c t I).set .lo L
 | [],_=>rfl
 |x::I,t=>by
  show wF c ((t.set .lo L).set (.w (aA x)) ((t.set .lo L).R (.w (aA x))++ [c])) I=_;rw [aq (by simp),dj (by simp),Kk c I];rfl
theorem Ic (c:Int) {L:List Int}: ∀ (I:List Int) (t:aH),lV c (t.set .lo L) I=(lV c t I).set .lo L
 | [],_=>rfl
 |x::I,t=>by
  show lV c ((t.set .lo L).set (.w (aA x)) (((t.set .lo L).R (.w (aA x))).filter fun k=> !(k==c))) I=_;rw [aq (by simp),dj (by simp),Ic c I];rfl
theorem K9 {L:List Int} {r:Int}:(t.set .lo L).put l r=(t.put l r).set .lo L:=by
 unfold aH.put;simp only [aq (s:=t) (x:= .lo) (l:=L) (y:= .va) (by simp),aq (s:=t) (x:= .lo) (l:=L) (y:= .le) (by simp),aq (s:=t) (x:= .lo) (l:=L) (y:= .re) (by simp),aq (s:=t) (x:= .lo) (l:=L) (y:= .be) (by simp),aq (s:=t) (x:= .lo) (l:=L) (y:= .tr) (by simp)];rw [dj (x:= .lo) (y:= .va) (by simp),dj (x:= .lo) (y:= .le) (by simp),dj (x:= .lo) (y:= .re) (by simp),dj (x:= .lo) (y:= .tr) (by simp)]
theorem Pw.MG {S:Nat->Prop} (h:Pw w w2 b H H' t) (m:aF S w2 w3) (J: ∀k,S k->w.heap.size<=k/\∀x,own b H' x≠some k):Pw w w3 b H H' t:=
 ⟨h.pm.keep m fun x k I hs=> (J k hs).2 x I,h.mod.then m fun k I hs=>by have:=(J k hs).1;omega,h.ft⟩
def JT (s:aH):Prop:= ∀i,s.aN i->(i:Int)∈s.R .lo->∃x∈s.R (.a i),x∈s.R .tr
def t7 (s:aH) (i:Nat):Prop:=s.aN i/\∀x∈s.R (.a i),-x∈s.R .tr
theorem t7.ext (h:t7 s i) (e:iM s t):t7 t i:=⟨e.ni.2 h.1,fun x I=>e.mem (h.2 x (by rw [<- e.a];exact I))⟩
theorem Dd (h:PM w b H s) (g:aL s):Calls prog eP.id #[bL b] w fun e w'=> ∃r:Int,e= .returned (.int .i64 r)/\∃s' H',Pw w w' b H H' s'/\aL s'/\iM s s'/\s'.done=s.done/\((r= -1/\JT s')\/∃i:Nat,r=i/\t7 s' i):=by
 refine eP.ak ?_;intro n1 w1 h1;have hA:=h.grow h1.mod;have z1:=h1.size;have e1:=h1.num;have a8: ∀x,¬own b H x=some n1:=fun x e=>by have:=h.lt x n1 e;omega
 refine ⟨_,aQ h1.has rfl,_,rfl,_,_,_,ae hA.st rfl,?_⟩;have hN:=h.len .lo rfl;generalize hL:s.R .lo=L at*
 have gz:L.length<=262144:=by rw [<- hL];exact g.N9
 refine ⟨fun P N C B V u m=> ∃ (v:Nat) (T:aH) (H':Pt->Sl) (keep:List Int),V=v/\v<=L.length/\m=L.length - v/\N=keep.length/\Pw w1 u b H H' T/\da aC u P C keep/\(∀k,aJ P=some k->w1.heap.size<=k/\∀x,own b H' x≠some k)/\
  T.R .lo=L/\H' .lo=H .lo/\keep.length<=v/\aL (T.set .lo (keep++L.drop v))/\iM s T/\T.done=s.done/\
  ((B= -1/\∀c∈keep,∃i:Nat,c=i/\∃x∈T.R (.a i),x∈T.R .tr)\/∃i:Nat,B=i/\t7 T i),
  ⟨_,0,s,H,[],rfl,Nat.zero_le _,rfl,rfl,Pw.refl hA (aF.refl w1),Ow.nil _ _ _,fun k I=>by simp [aJ] at I,hL,rfl,Nat.le_refl _,by rw [List.nil_append,List.drop_zero,<- hL,d7];exact g,iM.refl s,rfl,.inl ⟨rfl,fun c J=>by simp at J⟩⟩,?_⟩
 rintro P N C B V u m _ ⟨v,T,H',keep,rfl,hv,rfl,rfl,Pu,ok,fr,Y,ag,kl,gV,xT,dT,hB⟩;have hT:=Pu.pm;have b4:bA u n1 #[bL b]:=h1.has.keep Pu.mod fun ⟨x,e⟩=>a8 x e;have eN: ∀x,own b H' x≠some n1:=fun x e=>by
  rcases Pu.ft x n1 e with ⟨y,e2⟩|e2
  . exact a8 y e2
  . omega
 refine aj (fun r=> ?_) (fun r=> ?_)
 . have r:v<L.length:=by rw [hN] at r;simpa using r
   have av: ∀ {u':World},Pw w1 u' b H H' T->∀ {K:Addr->Prop},(∀a,u'.cell? a=some (.int .i64 (L.getD v 0))->K a)->aP (H .lo).p (H .lo).n (v:Int) 1 K:=fun {u'} P K I=>by
    rw [<- ag];refine P.pm.vJ (x:= .lo) rfl (by omega) rfl (by rw [Y];omega) fun a _ J=>I a ?_;rw [Y,Int.toNat_natCast] at J;exact J
   have ac:L.drop v=L.getD v 0::L.drop (v+1):=by
    rw [List.drop_eq_getElem_cons r];simp [List.getD,r]
   have eA:L.getD v 0∈(T.set .lo (keep++L.drop v)).R .lo:=by rw [aK,ac];simp
   obtain ⟨i,ei,U⟩:=gV.o1 _ eA;have U:T.aN i:=U;have dk:i<T.nc:=U.1;refine av Pu fun fT d9=> ⟨_,d9,?_⟩
   rw [ei];have mN: ∀ {u':World} {T':aH} {H2:Pt->Sl},Pw w1 u' b H H2 T'->da aC u' P C keep->(∀k,aJ P=some k->w1.heap.size<=k/\∀x,own b H2 x≠some k)->
    ∀ {K:World->Option Addr->Nat->Nat->Prop},(∀w2 p' c',Pw w1 w2 b H H2 T'->da aC w2 p' c' (keep++ [(i:Int)])->(∀k,aJ p'=some k->w1.heap.size<=k/\∀x,own b H2 x≠some k)->aF (fun k=>aJ P=some k) u' w2->K w2 p' (keep.length+1) c')->
    ∀n20 cm,aY (.cells #[.int .i64 (i:Int)] aC) u' n20 cm->∃dc,∃ (p':Option Addr) (n' c':Nat),(Builtin.append_ #[aI,aI] aI #[.slice P keep.length C,.slice (some (Addr.mk n20 0 none)) 1 1]).run prog cm= .ok (.slice p' n' c') dc/\K dc p' n' c':=by
    intro u' T' H2 P' o' f' K I n20 cm bu;have c1:=P'.grow bu.mod;refine (o'.grow bu.mod).mF c4 (i:Int) bu.has rfl rfl eV (by omega) fun w2 p' c' o2 m2 az gv=> ?_;refine I w2 p' c' (c1.MG m2 fun k I=>f' k I) o2 (fun k bv=> ?_) ((bu.mod.mono fun _ _ e=>e.elim).trans m2);rcases az with az|az
    . rw [az] at bv;exact f' k bv
    . rw [az] at bv;have:=aO bv;refine ⟨by have:=c1.mod.size;omega,fun x e=> ?_⟩;have:=c1.pm.lt x k e;omega
   have Q:keep++ [(i:Int)]++L.drop (v+1)=keep++L.drop v:=by rw [ac,ei];simp
   refine aj (fun r2=> ?_) (fun r2=> ?_)
   . have r2:0<=B:=by simpa using r2
     refine ⟨_,aQ b4 rfl,_,rfl,_,_,_,ae hT.st rfl,?_⟩;rw [ag];refine av Pu fun gp en=> ⟨_,en,?_⟩
     rw [ei];refine mN Pu ok fr fun dc p' c' e' e5 f22 _=> ?_;refine ⟨_,?_,v+1,T,H',keep++ [(i:Int)],wN (by omega) (by omega),r,rfl,by simp,e',e5,f22,Y,ag,by simp;omega,by rw [Q];exact gV,xT,dT,?_⟩
     . omega
     . rcases hB with ⟨e,_⟩|hB
       . omega
       . exact .inr hB
   . have r2: ¬0<=B:=by simpa using r2
     have hB:B= -1/\∀c∈keep,∃i:Nat,c=i/\∃x∈T.R (.a i),x∈T.R .tr:=by
      rcases hB with h| ⟨i,e,_⟩
      . exact h
      . omega
     have kT:Wf T:=by
      have:=gV.wf;have e:T=(T.set .lo (keep++L.drop v)).set .lo (T.R .lo):=by rw [set_set,d7]
      rw [e];exact this.set (by simp) (by simp) (by simp) (by simp) (by simp) _
     have an:T.R (.l i)=(T.set .lo (keep++L.drop v)).R (.l i):=(aq (by simp)).symm;have ad: ∀x,(T.set .lo (keep++L.drop v)).val x=T.val x:=fun x=>iX (aq (by simp)) x;have hv: ∀x∈T.R (.l i),dB T.vars x:=fun x O=>gV.cv i U x (by rw [<- an];exact O);have f0:(T.R (.l i)).length<=4096:=by rw [an];exact gV.cl i U
     have c0: ∀x,x∈T.R (.l i)↔x∈T.R (.a i):=fun x=>by
      have:=gV.ca i U x;rw [aq (by simp),aq (by simp)] at this;exact this
     have hw: ∀j,(T.R (.w j)).length<=262144:=fun j=>by have:=gV.wl j;rw [aq (by simp)] at this;exact this
     refine ⟨_,aQ b4 rfl,_,rfl,_,_,_,ae hT.st rfl,hT.Kh dk rfl rfl fun gT d'=> ⟨_,_,_,d'.get 1 _ rfl,?_⟩⟩;refine (iO (hT.row (.l i) rfl).vw (hT.len _ rfl) (by rw [hT.len _ rfl];omega)).mono ?_;rintro e ga ⟨el,e3,rfl,fl,cT,f30⟩;have eg:=Pu.grow cT;have b':=b4.grow cT;have nq: ∀k,aJ el=some k->w1.heap.size<=k/\(∀x,own b H' x≠some k)/\k≠n1/\aJ P≠some k:=fun k I=>by
      have:=f30 k I;have g0:=Pu.mod.size;refine ⟨by omega,fun x e=> ?_,fun e=> ?_,fun e=> ?_⟩
      . have:=hT.lt x k e;omega
      . omega
      . have:=ok.lt k e;omega
     refine ⟨_,_,_,rfl,(si fl rfl (by omega) Dt (fun x=>decide (T.val x<0)) fun x O w' m=> ?_).mono ?_⟩
     . rw [zO];exact LL (eg.pm.keep m fun x k I hs=> (nq k hs).2.1 x I) kT (b'.keep m fun hs=> (nq n1 hs).2.2.1 rfl) (hv x O)
     rintro e d4 ⟨rfl,fk,cb⟩;have c3:=eg.MG cb fun k hs=> ⟨(nq k hs).1,(nq k hs).2.1⟩
     have e4:=c3.pm;have b8:bA d4 n1 #[bL b]:=b'.keep cb fun hs=> (nq n1 hs).2.2.1 rfl;have aT:da aC d4 P C keep:=(ok.grow cT).keep cb fun k I hs=> (nq k hs).2.2.2 I;generalize hF:(T.R (.l i)).filter (fun x=> !decide (T.val x<0))=F at*
     have cc: ∀x,x∈F↔x∈T.R (.l i)/\0<=T.val x:=fun x=>by
      rw [<- hF,List.mem_filter];simp
     refine ⟨_,_,_,rfl,aj (fun r3=> ?_) (fun r3=> ?_)⟩
     . have r3:2<=F.length:=by simp at r3;omega
       refine ⟨_,aQ b8 rfl,(uV e4 kT.dS dk hv (by omega) (fun j=>by have:=hw j;omega)).mono ?_⟩;rintro e fi ⟨rfl,gs,ax,es⟩;have fj:=ax.pm;have ay:(lV i T ((T.R (.l i)).take 2)).R (.l i)=T.R (.l i):=iB _ (by simp) _ _;have a_:(lV i T ((T.R (.l i)).take 2)).R .va=T.R .va:=iB _ (by simp) _ _;have eu:(lV i T ((T.R (.l i)).take 2)).R .le=T.R .le:=iB _ (by simp) _ _;obtain ⟨u1,u2,u3,u4⟩:=gZ i ((T.R (.l i)).take 2) T;have kU:Wf (lV i T ((T.R (.l i)).take 2)):=⟨by rw [u1];exact kT.dS,by rw [a_,u1];exact kT.va,by rw [a_];exact kT.vb,by rw [eu,u1];exact kT.le,by rw [iB _ (by simp),u1];exact kT.re,by rw [iB _ (by simp)];exact kT.be,by rw [iB _ (by simp)];exact kT.tr,by rw [u2];exact kT.nc⟩
       have ec:bA fi n1 #[bL b]:=b8.keep ax.mod fun ⟨x,e⟩=>eN x e;refine ⟨rfl,_,aQ ec rfl,(FJ fj kU (by rw [u2];exact dk) (by rw [ay,u1];exact hv) (by rw [ay];omega) (fun j=>by have:=zY i j ((T.R (.l i)).take 2) T;have:=hw j;omega) (by rw [iB _ (by simp),Y];omega) ?_ ?_).mono ?_⟩
       . rw [ay];intro x O ek;rw [iX a_] at ek;have:=gV.Ns (x:=x) (hv x O) (by rw [ad];exact ek);unfold aH.bi at this ⊢;rw [eu];rw [aq (by simp)] at this;exact this
       . rw [ay];have:(fun x=> !decide ((lV i T ((T.R (.l i)).take 2)).val x<0))=fun x=> !decide (T.val x<0):=by funext x;rw [iX a_]
         rw [this,hF];exact r3
       rintro e fb ⟨rfl,l',cg,hb,pm,b1,b2,b3,di,ej⟩;rw [ay] at pm;rw [iX a_] at b2 b3;have PP:=(c3.trans ax).trans di;have kk:lG H' cg:=es.trans ej;have ed: ∀k,aJ P=some k->w1.heap.size<=k/\∀x,own b cg x≠some k:=fun k I=>by
        have:=fr k I;refine ⟨this.1,fun x e=> ?_⟩;rcases (ax.trans di).ft x k e with ⟨y,e2⟩|e2
        . exact this.2 y e2
        . have:=aT.lt k I;omega
       have ey:da aC fb P C keep:=aT.keep (ax.trans di).mod fun k I ⟨x,e⟩=> (fr k I).2 x e;have gA:=Cc gV U (keep:=keep) (rest:=L.drop (v+1)) (by rw [aK,ac,ei]) (l':=l') (by rw [<- an];exact pm) b1 (by rw [ad];exact b3) (by rw [ad];exact b2);rw [<- an,Ic,dj (x:= .lo) (y:= .l i) (by simp),Kk,set_set] at gA;refine ⟨rfl,_,?_,v+1,_,cg,keep,wN (by omega) (by omega),r,rfl,rfl,PP,ey,ed,by rw [pC _ (by simp),aq (by simp),iB _ (by simp)];exact Y,by rw [kk _ (by simp)];exact ag,by omega,gA,?_,?_,.inl ⟨hB.1,fun c J=> ?_⟩⟩
       . omega
       . exact xT.trans (iM.lV.trans ((iM.set (by simp) (by simp) (by simp) (by simp)).trans iM.wF))
       . rw [(nQ i _ _).2.2.2];exact u4.trans dT
       . obtain ⟨k,e,x,O,a6⟩:=hB.2 c J;refine ⟨k,e,x,by rw [pC _ (by simp),aq (by simp),iB _ (by simp)];exact O,by rw [pC _ (by simp),aq (by simp),iB _ (by simp)];exact a6⟩
     . have r3:F.length<=1:=by simp at r3;omega
       refine mN c3 aT fr fun b5 p' c' bY bk f39 fa=> ?_;have gl:=bY.pm;have b_:bA b5 n1 #[bL b]:=h1.has.keep bY.mod fun ⟨x,e⟩=>a8 x e;have ez:da aC b5 el e3 F:=fk.keep fa fun k I hs=> (nq k I).2.2.2 hs;have ew:(T.set .lo (keep++L.drop v)).R .tr=T.R .tr:=aq (by simp);refine aj (fun r4=> ?_) (fun r4=> ?_)
       . have r4:F= []:=by simpa using r4
         refine ⟨_,?_,v+1,T,H',keep++ [(i:Int)],wN (by omega) (by omega),r,rfl,by simp,bY,bk,f39,Y,ag,by simp;omega,by rw [Q];exact gV,xT,dT,.inr ⟨i,rfl,U,fun x O=> ?_⟩⟩
         . omega
         . have ea:=(c0 x).2 O;have hn: ¬0<=T.val x:=fun h0=>by
            have:=(cc x).2 ⟨ea,h0⟩;rw [r4] at this;simp at this
           rw [<- ew];exact (gV.GJ (x:=x) (hv x ea)).1 (by rw [ad];omega)
       . have r4:0<F.length:=by
          rcases Nat.eq_zero_or_pos F.length with e|e
          . rw [e] at r4;simp at r4
          . exact e
         have et: ∀x∈F,x=F.getD 0 0:=fun x O=>by
          match F,r3,r4,O with
          | [a],_,_,O=>simpa using O
         have Z:=(cc (F.getD 0 0)).1 (bg r4);generalize eb:F.getD 0 0=X at*
         refine ⟨_,aQ b_.drew rfl,ez.drew.ix 0 (by omega) rfl (by omega) fun gn er=> ⟨_,er,?_⟩⟩;rw [Int.toNat_zero,eb];have dd:=bY.drew;refine (mH dd.pm kT (hv _ Z.1)).mono ?_;rintro e gm ⟨rfl,rfl⟩;have b6: ∀ {T':aH},iM T T'->∀c∈keep,∃i:Nat,c=i/\∃x∈T'.R (.a i),x∈T'.R .tr:=fun e c J=>by
          obtain ⟨k,e1,x,O,a6⟩:=hB.2 c J;exact ⟨k,e1,x,by rw [e.a];exact O,e.mem a6⟩
         refine ⟨_,rfl,aj (fun r5=> ?_) (fun r5=> ?_)⟩
         . have r5:T.val X=0:=by simpa using r5
           refine ⟨_,aQ b_.drew.drew rfl,ez.drew.drew.ix 0 (by omega) rfl (by omega) fun gc ef=> ⟨_,ef,?_⟩⟩;rw [Int.toNat_zero,eb];have ep:=dd.drew;refine (Cu ep.pm kT (hv _ Z.1) (i:Int)).mono ?_;rintro e gw ⟨rfl,q,c2⟩;have gP:=uS (t:=T.set .lo (keep++L.drop v)) gV (hv X Z.1) (by rw [ad];exact r5) (fun _ _ _=>rfl) rfl rfl rfl rfl (r:=(i:Int)) (.inl ⟨rfl,rfl,i,rfl,U,by rw [<- an];exact Z.1,fun x O eR=>by
            rw [<- an] at O;have hn: ¬0<=T.val x:=fun h0=>eR (et x ((cc x).2 ⟨O,h0⟩));exact (gV.GJ (x:=x) (hv x O)).1 (by rw [ad];omega)⟩)
           rw [K9] at gP;have xP:iM T (T.put X (i:Int)):=iM.put;have e8:(T.put X (i:Int)).R .lo=T.R .lo:=iZ (by simp) (by simp) (by simp) (by simp);refine ⟨rfl,_,?_,v+1,_,bh H' .tr q,keep++ [(i:Int)],wN (by omega) (by omega),r,rfl,by simp,ep.trans c2,(bk.drew.drew).keep c2.mod fun k I ⟨x,e⟩=> (f39 k I).2 x e,fun k I=> ⟨(f39 k I).1,fun x e=> ?_⟩,
            by rw [e8];exact Y,by rw [aM (by simp)];exact ag,by simp;omega,by rw [Q];exact gP,xT.trans xP,dT,.inl ⟨hB.1,fun c J=> ?_⟩⟩
           . omega
           . rcases c2.ft x k e with ⟨y,e2⟩|e2
             . exact (f39 k I).2 y e2
             . have:=bk.lt k I;have:b5.drew.drew.heap.size=b5.heap.size:=rfl;omega
           . rcases List.mem_append.1 J with J|J
             . exact b6 xP c J
             . rw [List.mem_singleton] at J;refine ⟨i,J,X,?_,?_⟩
               . rw [xP.a];exact (c0 X).1 Z.1
               . rw [pO];simp
         . have r5: ¬T.val X=0:=by simpa using r5
           have e9:X∈T.R .tr:=by
            rw [<- ew];exact (gV.Of (x:=X) (hv X Z.1)).1 (by rw [ad];have:=Z.2;omega)
           refine ⟨_,?_,v+1,T,H',keep++ [(i:Int)],wN (by omega) (by omega),r,rfl,by simp,dd,bk.drew,f39,Y,ag,by simp;omega,by rw [Q];exact gV,xT,dT,.inl ⟨hB.1,fun c J=> ?_⟩⟩
           . omega
           . rcases List.mem_append.1 J with J|J
             . exact b6 (iM.refl T) c J
             . rw [List.mem_singleton] at J;exact ⟨i,J,X,(c0 X).1 Z.1,e9⟩
 . have r:v=L.length:=by rw [hN] at r;simp at r;omega
   subst r;rw [List.drop_length,List.append_nil] at gV;refine ⟨_,aQ b4 rfl,_,rfl,?_⟩;refine hT.head (x:= .lo) rfl ok ⟨hT.st,hT.c,hT.wa,fun y hy _=>hT.row y hy⟩ (fun k I=> .inr (fr k I).2) rfl fun w3 h3 m3=> ?_;have xL:iM T (T.set .lo keep):=iM.set (by simp) (by simp) (by simp) (by simp);have P0:=Pu.cM h1.mod;refine ⟨_,rfl,_,_,⟨h3,P0.mod.then m3 fun k I e=> ?_,fun x k I=> ?_⟩,gV,xT.trans xL,dT,?_⟩
   . rcases P0.ft .st k (by rw [e];rfl) with h|h
     . exact h
     . omega
   . by_cases e:x= .lo
     . subst e;rw [bM (by simp),aX] at I;have:=(fr k I).1;exact .inr (by omega)
     . refine P0.ft x k ?_;cases x<;>first|exact I| (simp only [own] at I ⊢;rwa [aM e] at I)
   . rcases hB with ⟨e,h⟩| ⟨i,e,h⟩
     . refine .inl ⟨e,fun i hi hm=> ?_⟩;rw [aK] at hm;obtain ⟨k,e1,x,O,a6⟩:=h _ hm;have:k=i:=by omega
       subst this;exact ⟨x,by rw [aq (by simp)];exact O,by rw [aq (by simp)];exact a6⟩
     . exact .inr ⟨i,e,h.ext xL⟩
end
end Go.Proofs.YtenmibfmhccmiaaGreat.W
namespace Go.Fw
open Go Go.RowKit
variable {P:Program} {α:Type} {f:α->Value} {T:TypeId} {w w':World} {p q q':Option Addr} {c:Nat} {l:List α}
theorem Ow.Mx {t ty e bytes:Nat} (hs:mB P t e bytes=true) (h:Ow f e w p c l) {o m d k D:Nat} {news:List α} (h2:Vw f w q news) (hm:m=news.length) (hD:m<=D) (hq:0<m->q'=p.map (·.add (o*1))) (J:o+m<=l.length) (ho: ∀x,(f x).oneCell'=true) {K:Int->World->Prop}
 (Q: ∀w',Ow f e w' p c (l.take o++news++l.drop (o+m))->aF (fun b=>aJ p=some b) w w'->w'.heap.size=w.heap.size->K m w'):
 ∃w',∃r:Int,(Builtin.copy_ #[t,t] ty #[.slice q' D d,.slice q m k]).run P w= .ok (.int .i64 r) w'/\K r w':=by
 obtain ⟨ht,i,z,hi,hz,h1,hb,h3⟩:=kW hs;have I:(P.info? e).map (·.size)=some 1:=by rw [hi];simp [h1]
 subst hm;rcases Nat.eq_zero_or_pos news.length with U|U
 . have hn:news= []:=List.eq_nil_of_length_eq_zero U;subst hn;refine ⟨w,0,run_copy_none w t t ty e _ _ _ _ _ _ ht I (by simp),?_⟩;have:=Q w (by simpa using h) (aF.refl w) rfl;simpa using this
 . rw [hq U];obtain ⟨a,rfl,_⟩:=h2 0 U;rcases h.un with ⟨rfl,rfl,rfl⟩| ⟨g,cur,rfl,Y,g1,g2,g3,g4⟩
   . rw [List.length_nil] at J;omega
   . have hr:=run_copy_row (P:=P) w t t ty e g o D d a news.length k cur e (news.map f) ht I Y (by rw [List.length_map];exact (Nat.min_eq_left hD).symm) (fun j v Z=>by
      have O:j<news.length:=by have:=(List.getElem?_eq_some_iff.1 Z).1;simpa using this
      obtain ⟨a',ha,X⟩:=h2 j O;simp only [Option.some.injEq] at ha;subst ha;rw [X];simpa [O] using Z) (by simp;omega) (fun u hu=>by obtain ⟨x,_,rfl⟩:=List.mem_map.1 hu;exact ho x)
     have V:=Q (w.setRow g (cur.toList.take o++news.map f++cur.toList.drop (o+ (news.map f).length)).toArray) (Ow.dx (setRow_heap w g cur _ e _ Y) (by simp;omega) g2 ?_ ?_) ⟨rfl,rfl,rfl,by simp,fun k _ Q=>setRow_other w g k _ fun he=>Q (by simp [aJ,he])⟩ (by simp [World.setRow])
     . refine ⟨_,((news.map f).length:Int),?_,by rw [List.length_map];exact V⟩;simp only [Option.map_some,c5,Nat.zero_add,Nat.mul_one];exact hr
     . simp;omega
     . have hl:(l.take o++news++l.drop (o+news.length)).length=l.length:=by simp;omega
       rw [hl,List.map_append,List.map_append,List.map_take,List.map_drop,<- g4];have X:cur.toList.length=c:=by simpa using g3
       apply List.ext_getElem?;intro j;simp only [List.length_map,List.getElem?_take,List.getElem?_append,List.length_append,List.length_take,List.getElem?_drop,X];repeat' split
       all_goals first
        |rfl
        |omega
        | (congr 1;omega)
end Go.Fw
namespace Go.Proofs.YtenmibfmhccmiaaGreat.W
open Go Go.Fw Go.RowKit Go.SoP Go.LiP
section
variable {w w' w0 w2 w3:World} {b:Nat} {H H' H2:Pt->Sl} {s t u s' T:aH} {l x y:Int} {i:Nat}
def aH.step (s:aH):aH:= {s with done:=s.done+1}
theorem EB (g:aL s) (I:s.done< (s.R .tr).length) (hp: ∀i,s.aN i->Pg s i):aL s.step:=
 ⟨g.dS,g.FE,g.va,g.vb,g.le,g.rl,g.tv,g.nd,g.v1,g.bl,g.bs,g.dl,g.db,g.lv,g.Ly,g.Kw,I,g.cv,g.cn,g.cl,g.ca,g.al,g.w1,g.w2,g.w3,g.o1,g.o2,g.o3,
   fun i hi h=>hp i hi h,g.wj⟩
theorem JS {m:List Int} {st br:Bool} {j:Nat} {r:List Int} (V:sS s i m s' st br) (hm: ∀z∈m,0<=s.val z->aA z≠j):sS (s.set (.w j) r) i m (s'.set (.w j) r) st br:=by
 have ev: ∀x,(s.set (.w j) r).val x=s.val x:=fun x=>iX (aq (by simp)) x;cases V with
 |Ms h=>rw [dj (by simp)];exact .Ms (by rw [ev];exact h)
 |oC h h2=>rw [dj (by simp)];exact .oC (by rw [ev];exact h) fun k a c=>by rw [ev];exact h2 k a c
 |unit h h2=>
  have e:((s.set (.l i) m).put (m.getD 0 0) i).set (.w j) r=((s.set (.w j) r).set (.l i) m).put (m.getD 0 0) i:=by
   rw [dj (x:= .w j) (y:= .l i) (by simp)];generalize s.set (.l i) m=q;unfold aH.put;simp only [aq (s:=q) (x:= .w j) (l:=r) (y:= .va) (by simp),aq (s:=q) (x:= .w j) (l:=r) (y:= .le) (by simp),aq (s:=q) (x:= .w j) (l:=r) (y:= .re) (by simp),aq (s:=q) (x:= .w j) (l:=r) (y:= .be) (by simp),aq (s:=q) (x:= .w j) (l:=r) (y:= .tr) (by simp)];rw [dj (x:= .w j) (y:= .va) (by simp),dj (x:= .w j) (y:= .le) (by simp),dj (x:= .w j) (y:= .re) (by simp),dj (x:= .w j) (y:= .tr) (by simp)]
  rw [e];exact .unit (by rw [ev];exact h) fun k a c=>by rw [ev];exact h2 k a c
 |AP k h1 h2 h3 h4=>
  have I:aA (m.getD k 0)≠j:=hm _ (bg h3) h4;have V:=sS.AP (s:=s.set (.w j) r) (i:=i) (m:=m) k (by rw [ev];exact h1) h2 h3 (by rw [ev];exact h4);rw [aq (by simpa using I),dj (x:= .w j) (y:= .l i) (by simp),dj (x:= .w j) (by simpa using Ne.symm I)] at V;exact V
def dz (s:aH):Prop:= ∀i,s.aN i->(∃x∈s.R (.a i),x∈s.R .tr)\/∃x∈s.R (.a i),∃y∈s.R (.a i),x≠y/\s.val x=0/\s.val y=0
theorem E5 (g:aL s) (hd:(s.R .tr).length<=s.done) (hl:JT s):dz s:=by
 intro i hi;by_cases hm:(i:Int)∈s.R .lo
 . exact .inl (hl i hi hm)
 . have h2:2<=(s.R (.l i)).length:=by
    rcases Nat.lt_or_ge (s.R (.l i)).length 2 with h|h
    . exact absurd (g.o2 i hi h) hm
    . exact h
   have Q:=g.wd i hi hm;rw [W1,List.take_of_length_le hd] at Q;have m0:(s.R (.l i)).getD 0 0∈(s.R (.l i)).take 2:=iq.2 (.inl ⟨by omega,rfl⟩);have m1:(s.R (.l i)).getD 1 0∈(s.R (.l i)).take 2:=iq.2 (.inr ⟨by omega,rfl⟩);have I:(s.R (.l i)).getD 0 0≠(s.R (.l i)).getD 1 0:=fun e=>by
    have:=(List.getElem_inj (h₀:=show 0< (s.R (.l i)).length by omega) (h₁:=show 1< (s.R (.l i)).length by omega) (g.cn i hi)).1 (by
     have e0:(s.R (.l i)).getD 0 0=(s.R (.l i))[0]:=by simp [List.getD,show 0< (s.R (.l i)).length by omega]
     have Y:(s.R (.l i)).getD 1 0=(s.R (.l i))[1]:=by simp [List.getD,show 1< (s.R (.l i)).length by omega]
     rw [<- e0,<- Y,e])
    omega
   generalize (s.R (.l i)).getD 0 0=a at*
   generalize (s.R (.l i)).getD 1 0=c at*
   have la:=List.mem_of_mem_take m0;have lc:=List.mem_of_mem_take m1;have va:=g.cv i hi a la;have Z:=g.cv i hi c lc;have V:=(g.ca i hi a).1 la;have U:=(g.ca i hi c).1 lc;by_cases O:a∈s.R .tr
   . exact .inl ⟨a,V,O⟩
   by_cases J:c∈s.R .tr
   . exact .inl ⟨c,U,J⟩
   by_cases X: -a∈s.R .tr
   . exact absurd (Q a m0 c m1 I X) J
   by_cases fc: -c∈s.R .tr
   . exact absurd (Q c m1 a m0 (Ne.symm I) fc) O
   exact .inr ⟨a,V,c,U,I,(g.v0 va).2 ⟨O,X⟩,(g.v0 Z).2 ⟨J,fc⟩⟩
end
section
variable {w w' w0 w2 w3:World} {b:Nat} {H H' H2:Pt->Sl} {s t u s' T:aH} {l x y:Int} {i:Nat}
theorem IT {m:List Int} {st br:Bool} {j:Nat} (V:sS s i m s' st br) (hm: ∀z∈m,0<=s.val z->aA z≠j):s'.R (.w j)=s.R (.w j):=by
 cases V with
 |Ms h=>exact aq (by simp)
 |oC h h2=>exact aq (by simp)
 |unit h h2=>rw [iZ (by simp) (by simp) (by simp) (by simp),aq (by simp)]
 |AP k h1 h2 h3 h4=>rw [aq (by simpa using Ne.symm (hm _ (bg h3) h4)),aq (by simp)]
theorem Bq {l:List Int} {k v:Nat} {x:Int} (h:k<v):(l.set k x).drop v=l.drop v:=by
 apply List.ext_getElem?;intro j;rw [List.getElem?_drop,List.getElem?_drop,List.getElem?_set,if_neg (by omega)]
theorem Pw.Oe (h:PM w2 b H t) {j:Nat} {w1:World} (m:aF (fun k=>aJ (H (.w j)).p=some k) w1 w2):Pw w1 w2 b H H t:=Pw.row h (x:= .w j) rfl m
theorem Nu {p:Option Addr} {c:Nat}:(if c=0 then p else p.map (·.add (0*1)))=p:=by rw [IU];split<;>rfl
theorem HD (h:PM w b H s) (g:aL s):Calls Tryz.prog eZ.id #[bL b] w fun e w'=> ∃r:Int,e= .returned (.int .i64 r)/\∃s' H',Pw w w' b H H' s'/\aL s'/\iM s s'/\((r= -1/\dz s')\/∃i:Nat,r=i/\t7 s' i):=by
 refine eZ.ak (bm rfl ⟨_,rfl,_,_,_,ae h.st rfl,?_⟩);obtain ⟨av,gb⟩:=zJ h g.wf;rw [gb];refine bm rfl ((Dd h g).mono ?_);rintro e w3 ⟨r4,rfl,s1,H1,P3,g1,x1,d1,hr⟩;refine ⟨_,rfl,aj (fun r=> ?_) fun r=> ?_⟩
 . have r:0<=r4:=by simpa using r
   refine ⟨r4,rfl,s1,H1,P3,g1,x1,.inr ?_⟩;rcases hr with h|h
   . omega
   . exact h
 have r: ¬0<=r4:=by simpa using r
 have hl:JT s1:=by
  rcases hr with h| ⟨i,h,_⟩
  . exact h.2
  . omega
 refine ⟨fun u m=> ∃ (T:aH) (H':Pt->Sl),m=T.vars - T.done/\Pw w u b H H' T/\aL T/\iM s T/\JT T,⟨_,s1,H1,rfl,P3,g1,x1,hl⟩,?_⟩;rintro w8 m _ ⟨T,H',rfl,P8,gT,xT,lT⟩;have h8:=P8.pm;refine ⟨_,rfl,_,ae h8.drew.st rfl,_,rfl,_,_,_,ae h8.drew.st rfl,?_⟩;rw [h8.len .tr rfl];refine aj (fun r=> ?_) (fun r=> ?_)
 . have hd:T.done< (T.R .tr).length:=by simpa using r
   have hD:=h8.drew.drew;refine ⟨_,rfl,_,_,_,ae hD.st rfl,_,rfl,_,ae hD.st rfl,hD.vJ (x:= .tr) rfl (by omega) rfl (by omega) fun g7 _ dk=> ⟨_,dk,?_⟩⟩;rw [Int.toNat_natCast];have fi:(T.R .tr).getD T.done 0∈T.R .tr:=bg hd;generalize hX:(T.R .tr).getD T.done 0=X at*
   have ed:=gT.tv X fi;have ho:=ed.bd gT.dS;have ef:IntKind.i64.wrap (0 - X)= -X:=by rw [aD (by omega) (by omega)];omega
   rw [ef];have bx:=ed.neg;have bk:=bx.bd gT.dS;obtain ⟨f,hf⟩: ∃f,f= -X:=⟨_,rfl⟩
   rw [<- hf] at bx bk ⊢;have fs:X= -f:=by omega
   have c2:=rX bx;refine ⟨(·=w8.drew.drew.drew),rfl,_,rfl,_,_,_,dW (ae hD.drew.st rfl),(fW bk _).mono ?_⟩;rintro e hA ⟨rfl,rfl⟩;have ec:=((P8.drew).drew).drew;have cb:=ec.pm;refine ⟨_,rfl,rfl,cb.NK c2 rfl rfl fun gP _ ea=> ⟨_,_,_,dW ea,?_⟩⟩;have bv:=cb.len (.w (aA f)) rfl;have b8:(T.R (.w (aA f))).length<=(H' (.w (aA f))).c:=by
    rcases (cb.row (.w (aA f)) rfl).un with ⟨_,_,e2⟩| ⟨_,_,_,_,e,_⟩
    . rw [e2];exact Nat.zero_le _
    . exact e
   have g2:=gT.wl (aA f);generalize a6:T.R (.w (aA f))=row at*
   refine ⟨fun KP V u m=> ∃ (kp v:Nat) (I:aH) (H2:Pt->Sl) (kept cur:List Int),KP=kp/\V=v/\v<=row.length/\kp<=v/\m=row.length - v/\kept.length=kp/\cur.length=row.length/\cur.take kp=kept/\cur.drop v=row.drop v/\
    I.R (.w (aA f))=cur/\H2 (.w (aA f))=H' (.w (aA f))/\Pw w u b H H2 I/\aL (I.set (.w (aA f)) (kept++row.drop v))/\iM T I/\I.done=T.done/\I.R .lo=T.R .lo/\
    ∀k,I.aN k->(k:Int) ∉ row.drop v->Pg (I.set (.w (aA f)) (kept++row.drop v)) k,
    ⟨_,0,0,T,H',[],row,rfl,rfl,Nat.zero_le _,Nat.le_refl _,rfl,rfl,rfl,rfl,rfl,a6,rfl,ec,?_,iM.refl T,rfl,rfl,?_⟩,?_⟩
   . rw [List.nil_append,List.drop_zero,<- a6,d7];exact gT
   . rw [List.nil_append,List.drop_zero,<- a6,d7];intro k O ac c1 x hx y hy cc hm;rcases (fg hd).1 hm with hm|hm
     . exact gT.wd k O c1 x hx y hy cc hm
     . rw [hX] at hm;have:x=f:=by omega
       rw [this] at hx;exact absurd (gT.w2 k O f hx) ac
   rintro KP V u m _ ⟨kp,v,I,H2,kept,cur,rfl,rfl,hv,gW,rfl,ax,ay,b_,d8,ad,Q,Pu,gV,x2,d2,a',pg⟩;have hu:=Pu.pm;have ce:I.done< (I.R .tr).length:=by
    rw [d2];obtain ⟨e,he⟩:=x2.tr;rw [he,List.length_append];omega
   have ek:(I.R .tr).getD I.done 0= -f:=by
    rw [d2];obtain ⟨e,he⟩:=x2.tr;rw [he,bC hd,hX,fs]
   have cT:I.vars=T.vars:=x2.v;refine aj (fun r2=> ?_) (fun r2=> ?_)
   . have rv:v<row.length:=by rw [bv] at r2;simpa using r2
     clear r2;have J:row.drop v=row.getD v 0::row.drop (v+1):=by
      rw [List.drop_eq_getElem_cons rv];simp [List.getD,rv]
     have e7:cur.getD v 0=row.getD v 0:=by
      have e1:(cur.drop v).getD 0 0=cur.getD v 0:=by simp [List.getD]
      have e2:(row.drop v).getD 0 0=row.getD v 0:=by simp [List.getD]
      rw [<- e1,d8,e2]
     have ei:cur.drop (v+1)=row.drop (v+1):=by
      have e1:(cur.drop v).drop 1=cur.drop (v+1):=by rw [List.drop_drop]
      have e2:(row.drop v).drop 1=row.drop (v+1):=by rw [List.drop_drop]
      rw [<- e1,d8,e2]
     rw [<- Q];refine hu.vJ (x:= .w (aA f)) rfl (by omega) rfl (by rw [ad];omega) fun g5 _ d4=> ⟨_,d4,?_⟩
     rw [ad,Int.toNat_natCast,e7];generalize hc:row.getD v 0=c at*
     obtain ⟨i,rfl,U,z,hz,e5⟩:=gV.w1 (aA f) c (by rw [aK,J];simp);have:=kZ e5;subst this;rw [aq (by simp)] at hz;have U:I.aN i:=U;have aa:(I.set (.w (aA z)) (kept++row.drop v)).R (.l i)=I.R (.l i):=aq (by simp);have b6: ∀x∈I.R (.l i),dB I.vars x:=fun x hx=>gV.cv i U x (by rw [aa];exact hx);have gw:(I.R (.l i)).length<=4096:=by have:=gV.cl i U;rw [aa] at this;exact this
     have kT:Wf I:=by
      have:=gV.wf;have e:I=(I.set (.w (aA z)) (kept++row.drop v)).set (.w (aA z)) (I.R (.w (aA z))):=by rw [set_set,d7]
      rw [e];exact this.set (by simp) (by simp) (by simp) (by simp) (by simp) _
     have hw: ∀j,(I.R (.w j)).length<=262144:=fun j=>by
      by_cases e:j=aA z
      . rw [e,ad];omega
      . have:=gV.wl j;rw [aq (by simpa using e)] at this;exact this
     have an: ∀ {u':World} {T':aH} {H3:Pt->Sl},Pw w u' b H H3 T'->T'.R (.w (aA z))=cur->H3 (.w (aA z))=H2 (.w (aA z))->∀ {K:World->Prop},
      (∀w3,Pw w w3 b H H3 (T'.set (.w (aA z)) (cur.set kp (i:Int)))->K w3)->aP (H2 (.w (aA z))).p (H2 (.w (aA z))).n (kp:Int) 1 fun a=> ∃w3,ah a 0 [.int .i64 (i:Int)] u' w3/\K w3:=by
      intro u' T' H3 P e1 e2 K O;rw [<- e2];refine P.pm.FB (x:= .w (aA z)) rfl (by omega) rfl (by rw [e1];omega) (y:=(i:Int)) rfl rfl fun w3 h3 m3=>O w3 ?_;rw [e1,Int.toNat_natCast] at h3;exact P.trans (Pw.Oe h3 m3)
     have cm:(cur.set kp (i:Int)).take (kp+1)=kept++ [(i:Int)]:=by rw [mA (by omega),b_]
     have dc:(cur.set kp (i:Int)).drop (v+1)=row.drop (v+1):=by rw [Bq (by omega),ei]
     have aT:kept++ [(i:Int)]++row.drop (v+1)=kept++row.drop v:=by rw [J];simp
     have eN:(H2 (.l i)).n=(I.R (.l i)).length:=hu.len (.l i) rfl;refine ⟨_,rfl,_,_,_,ae hu.st rfl,hu.Kh U.1 rfl rfl fun g0 d9=> ⟨_,_,_,d9.get 1 _ rfl,?_⟩⟩;rw [eN];refine aj (fun r3=> ?_) (fun r3=> ?_)
     . have gJ:((I.R (.l i)).length:Int)<2:=by simpa using r3
       have r3:(I.R (.l i)).length<2:=by omega
       refine an Pu ad rfl fun hj fq=> ?_;refine ⟨_,?_,kp+1,v+1,_,H2,kept++ [(i:Int)],cur.set kp (i:Int),wN (by omega) (by omega),wN (by omega) (by omega),rv,by omega,rfl,by simp [ax],by simp [ay],cm,dc,aK,rfl,fq,by rw [set_set,aT];exact gV,
        x2.trans (iM.set (by simp) (by simp) (by simp) (by simp)),d2,by rw [aq (by simp)];exact a',fun k O ac=> ?_⟩
       . omega
       . rw [set_set,aT];by_cases e:k=i
         . subst e;intro c1;exact absurd (gV.o2 k O (by rw [aa];exact r3)) c1
         . refine pg k O fun hm=> ?_;rw [J] at hm;rcases List.mem_cons.1 hm with h|h
           . omega
           . exact ac h
     . have r3:2<=(I.R (.l i)).length:=by simp at r3;omega
       refine (GF hu kT U.1 b6 (by omega) (fun j=>by have:=hw j;omega) r3 z).mono ?_;rintro e g3 ⟨st,br,rfl,s',H3,V3,f',kv⟩;have vz: ∀y,dB I.vars y->0<=I.val y->aA y≠aA z:=fun y _ hy e=>by
        rw [kZ e] at hy;have h1:(I.set (.w (aA z)) (kept++row.drop v)).val z<0:=(gV.GJ (by rw [show (I.set (.w (aA z)) (kept++row.drop v)).vars=T.vars from cT];exact bx)).2 (by
         rw [aq (by simp),<- ek];exact bg ce)
        rw [iX (s:=I) (aq (by simp))] at h1;omega
       have vm: ∀y∈ja (I.R (.l i)) z,0<=I.val y->aA y≠aA z:=fun y hy h0=>vz y (b6 y ((nT _ _).mem_iff.1 hy)) h0;have Y:H3 (.w (aA z))=H2 (.w (aA z)):=kv _ (by simp) fun y hy h0 e=>vz y hy h0 (by injection e with e;exact e.symm);have b3:s'.R (.w (aA z))=cur:=(IT V3 vm).trans ad;have V4:=JS (r:=kept++row.drop v) V3 vm;rw [<- aa] at V4;have dT:((I.set (.w (aA z)) (kept++row.drop v)).R .tr).getD (I.set (.w (aA z)) (kept++row.drop v)).done 0= -z:=by rw [aq (by simp)];exact ek
       have en:(I.set (.w (aA z)) (kept++row.drop v)).done< ((I.set (.w (aA z)) (kept++row.drop v)).R .tr).length:=by rw [aq (by simp)];exact ce
       have az:=Pu.trans f';have hE:=az.pm;cases st with
       |true=>
        obtain ⟨G5,p5,q5,x5,b5,l5,d5,_⟩:=u6 gV U (by rw [aa];exact r3) (by rw [aa];exact hz) en dT V4 (r:=kept++row.drop v) (fun _=>by rw [aK]) (fun h=>by cases h);rw [set_set] at G5 p5 q5 x5;have x6:iM T s':=x2.trans ((iM.set (x:= .w (aA z)) (by simp) (by simp) (by simp) (by simp)).trans (x5.trans (by
         have:=iM.set (s:=s'.set (.w (aA z)) (kept++row.drop v)) (x:= .w (aA z)) (by simp) (by simp) (by simp) (by simp) (l:=s'.R (.w (aA z)));rw [set_set,d7] at this;exact this)))
        have fj:s'.done=T.done:=d5.trans d2;have c0:s'.R .lo=T.R .lo:=by
         rw [aq (by simp),aq (by simp)] at l5;exact l5.trans a'
        refine ⟨_,_,rfl,cu rfl (an az b3 Y fun eb c7=> ?_)⟩;cases br with
        |true=>
         refine cu rfl ?_;rw [Q];have e1:IntKind.i64.wrap ((kp:Int)+1)=((kp+1:Nat):Int):=wN (by omega) (by omega);have e2:IntKind.i64.wrap ((v:Int)+1)=((v+1:Nat):Int):=wN (by omega) (by omega);rw [e1,e2,bv];refine fe (kp+1) row.length (H' (.w (aA z))).c rfl rfl rfl (Nat.le_refl _) b8 (by omega) ?_;refine fe (v+1) row.length (H' (.w (aA z))).c rfl rfl rfl (Nat.le_refl _) b8 (by omega) ?_;have ar:=c7.pm.drew;have di:da aC eb.drew (H' (.w (aA z))).p (H' (.w (aA z))).c (cur.set kp (i:Int)):=by
          have:=ar.row (.w (aA z)) rfl;rw [aK,Y,Q] at this;exact this
         have vw:Vw (Value.int .i64) eb.drew (if (H' (.w (aA z))).c=v+1 then (H' (.w (aA z))).p else (H' (.w (aA z))).p.map (·.add ((v+1)*1))) (row.drop (v+1)):=by
          split
          . have:row.drop (v+1)= []:=List.drop_of_length_le (by omega);rw [this];exact Vw.nil
          . have:=di.vw.part (i:=v+1) (m:=row.length - (v+1)) (by simp [ay];omega);rw [dc,List.take_of_length_le (by simp)] at this;exact this
         refine di.Mx c4 (o:=kp+1) vw (by simp) (by omega) (fun h=> ?_) (by simp [ay];omega) eV fun b' ep et hg=> ?_
         . rw [if_neg (by omega)]
         have bY:(cur.set kp (i:Int)).take (kp+1)++row.drop (v+1)=kept++row.drop v:=by rw [cm,aT]
         rw [bY] at ep;have dp:=ar.Fh (x:= .w (aA z)) rfl (w':=b'.drew) (et.trans (aF.refl _).drew|>.mono fun k _ e=>by rw [Y,Q];exact e);have gv:=ar.st;have gf: ¬aJ (H' (.w (aA z))).p=some b:=by
          have:=ar.iL (x:= .w (aA z)) (by simp) (y:= .st) (by simp) (k:=b) rfl;rw [Y,Q] at this;exact this
         refine ⟨(·=b'.drew),rfl,_,rfl,_,_,_,dW (ae dp.st rfl),(fW bk _).mono ?_⟩;rintro e g4 ⟨rfl,rfl⟩;have e3:IntKind.i64.wrap (((kp+1:Nat):Int)+ ((row.length - (v+1):Nat):Int))=((kp+1+ (row.length - (v+1)):Nat):Int):=wN (by omega) (by omega);refine ⟨_,rfl,rfl,?_⟩;rw [e3];refine fe 0 (kp+1+ (row.length - (v+1))) (H' (.w (aA z))).c rfl rfl rfl (Nat.le_refl _) (by omega) (Nat.zero_le _) ?_;rw [Nu,Nat.sub_zero,Nat.sub_zero];have e8:da aC b'.drew (H' (.w (aA z))).p (H' (.w (aA z))).c (kept++row.drop v):=by
          have:=ep.drew.take (k:=(kept++row.drop v).length) (by simp);rw [List.take_left'] at this
          . exact this
          . rfl
         have e4:kp+1+ (row.length - (v+1))=(kept++row.drop v).length:=by simp [ax];omega
         refine ar.DW (i:=aA z) (by show _<2* (s'.vars+1);rw [x6.v];exact c2) e8 dp (fun k O=> .inl (by rw [Y,Q];exact O)) e4 ar.wn rfl fun fo ej fd=> ?_;rw [set_set] at ej;have fm:Pw w fo b H _ (s'.set (.w (aA z)) (kept++row.drop v)):=c7.drew.trans (Pw.head (x:= .w (aA z)) (z:= .wa) (by simp) ej (et.trans (aF.refl _).drew|>.mono fun k _ e=>by rw [Y,Q];exact e) fd fun k O=> .inl (by rw [Y,Q];exact O));refine ⟨_,rfl,_,_,fm,G5,xT.trans (x6.trans (iM.set (by simp) (by simp) (by simp) (by simp))),.inr ⟨i,rfl,x5.ni.2 U,fun x hx=> ?_⟩⟩;have hb:=b5 rfl x (by
          rw [x5.a] at hx;exact (gV.ca i U x).2 hx)
         exact x5.mem hb
        |false=>
         refine bm rfl ?_;refine ⟨_,?_,kp+1,v+1,_,H3,kept++ [(i:Int)],cur.set kp (i:Int),wN (by omega) (by omega),wN (by omega) (by omega),rv,by omega,rfl,by simp [ax],by simp [ay],cm,dc,aK,Y,c7,by rw [set_set,aT];exact G5,
          x6.trans (iM.set (by simp) (by simp) (by simp) (by simp)),fj,by rw [aq (by simp)];exact c0,fun k O ac=> ?_⟩
         . omega
         . rw [set_set,aT];by_cases e:k=i
           . subst e;exact p5 rfl
           . refine q5 k e (pg k (x5.ni.1 O) fun hm=> ?_);rw [J] at hm;rcases List.mem_cons.1 hm with h|h
             . omega
             . exact ac h
       |false=>
        have fa:br=false:=by cases V3;rfl
        subst fa;have cg:=gV.w3 (aA z);rw [aK,J] at cg;have fA: ∀c,c∈kept++row.drop (v+1)↔c∈(I.set (.w (aA z)) (kept++row.drop v)).R (.w (aA z))/\c≠(i:Int):=fun c=>by
         rw [aK,J,List.mem_append,List.mem_append,List.mem_cons];have h1:=List.nodup_append.1 cg;have h2:=List.nodup_cons.1 h1.2.1;constructor
         . rintro (h|h)
           . exact ⟨.inl h,fun e=>h1.2.2 c h (i:Int) (by simp) e⟩
           . exact ⟨.inr (.inr h),fun e=>h2.1 (e▸h)⟩
         . rintro ⟨h|h|h,cc⟩
           . exact .inl h
           . exact absurd h cc
           . exact .inr h
        have d':(kept++row.drop (v+1)).Sublist (kept++ (i:Int)::row.drop (v+1)):=List.Sublist.append (List.Sublist.refl _) (List.sublist_cons_self _ _);obtain ⟨G5,p5,q5,x5,b5,l5,d5,_⟩:=u6 gV U (by rw [aa];exact r3) (by rw [aa];exact hz) en dT V4 (r:=kept++row.drop (v+1)) (fun h=>by cases h) (fun _=> ⟨fA,d'.nodup cg⟩);rw [set_set] at G5 p5 q5 x5;have x6:iM T s':=x2.trans ((iM.set (x:= .w (aA z)) (by simp) (by simp) (by simp) (by simp)).trans (x5.trans (by
         have:=iM.set (s:=s'.set (.w (aA z)) (kept++row.drop (v+1))) (x:= .w (aA z)) (by simp) (by simp) (by simp) (by simp) (l:=s'.R (.w (aA z)));rw [set_set,d7] at this;exact this)))
        have c0:s'.R .lo=T.R .lo:=by
         rw [aq (by simp),aq (by simp)] at l5;exact l5.trans a'
        refine ⟨_,_,rfl,bm rfl (bm rfl ?_)⟩;refine ⟨_,?_,kp,v+1,s',H3,kept,cur,rfl,wN (by omega) (by omega),rv,by omega,rfl,ax,ay,b_,ei,b3,Y,az,G5,x6,d5.trans d2,c0,fun k O ac=> ?_⟩
        . omega
        . by_cases e:k=i
          . subst e;exact p5 rfl
          . refine q5 k e (pg k (x5.ni.1 O) fun hm=> ?_);rw [J] at hm;rcases List.mem_cons.1 hm with h|h
            . omega
            . exact ac h
   . have r2:v=row.length:=by rw [bv] at r2;simp at r2;omega
     subst r2;rw [List.drop_length,List.append_nil] at gV;have Z:=hu.drew;refine ⟨(·=u.drew),rfl,_,rfl,_,_,_,dW (ae Z.st rfl),(fW bk _).mono ?_⟩;rintro e gz ⟨rfl,rfl⟩;refine ⟨_,rfl,rfl,?_⟩;rw [bv];refine fe 0 kp (H' (.w (aA f))).c rfl rfl rfl (Nat.le_refl _) (by omega) (Nat.zero_le _) ?_;rw [Nu,Nat.sub_zero,Nat.sub_zero];have fP:da aC u.drew (H' (.w (aA f))).p (H' (.w (aA f))).c kept:=by
      have:=(Z.row (.w (aA f)) rfl).take (k:=kp) (by rw [ad];omega);rw [ad,b_,Q] at this;exact this
     refine Z.DW (i:=aA f) (by rw [cT];exact c2) fP ⟨Z.st,Z.c,Z.wa,fun y hy _=>Z.row y hy⟩ (fun k O=> .inl (by rw [Q];exact O)) ax.symm Z.wn rfl fun e' cp f1=> ?_;have e6:Pw w e' b H _ (I.set (.w (aA f)) kept):=Pu.drew.trans (Pw.head (x:= .w (aA f)) (z:= .wa) (by simp) cp (aF.refl _) f1 fun k O=> .inl (by rw [Q];exact O));refine ⟨_,rfl,_,ae cp.st rfl,_,rfl,?_⟩;have e1:IntKind.i64.wrap (((I.set (.w (aA f)) kept).done:Int)+1)=((I.done+1:Nat):Int):=wN rfl (by have:=gT.yL;have:=gT.dS;omega);refine cp.D5 (n:=I.done+1) e1 fun hF f0 fk=> ?_;have gS:=EB gV (by rw [aq (by simp)];exact ce) fun k O=>by
      have:=pg k O (by rw [List.drop_length];simp);rw [List.drop_length,List.append_nil] at this;exact this
     have ag:iM I (I.set (.w (aA f)) kept):=iM.set (by simp) (by simp) (by simp) (by simp);have xS:iM T (I.set (.w (aA f)) kept).step:=x2.trans ⟨ag.v,ag.n,ag.g,ag.a,ag.be,ag.ds,ag.tr⟩;refine ⟨_,?_,(I.set (.w (aA f)) kept).step,_,rfl,e6.trans ⟨f0,fk.mono fun k _ e=> ⟨.st,by rw [e];rfl⟩,fun x k O=> .inl ⟨x,O⟩⟩,gS,xT.trans xS,fun k O hm=> ?_⟩
     . show I.vars - (I.done+1)<T.vars - T.done;have:=gT.yL;rw [cT,d2];omega
     . have fT:(k:Int)∈T.R .lo:=by
        have e:(I.set (.w (aA f)) kept).step.R .lo=I.R .lo:=aq (s:=I) (x:= .w (aA f)) (y:= .lo) (l:=kept) (by simp);rw [e,a'] at hm;exact hm
       obtain ⟨x,hx,fL⟩:=lT k (xS.ni.1 O) fT;exact ⟨x,by rw [xS.a];exact hx,xS.mem fL⟩
 . have hd:(T.R .tr).length<=T.done:=by simp at r;omega
   exact ⟨_,rfl,T,H',P8.drew,gT,xT,.inl ⟨rfl,E5 gT hd lT⟩⟩
end
end Go.Proofs.YtenmibfmhccmiaaGreat.W
