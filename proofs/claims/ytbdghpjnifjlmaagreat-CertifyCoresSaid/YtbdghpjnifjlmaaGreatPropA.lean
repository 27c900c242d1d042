/- Layer 6: what a propagator's small functions answer. -/
import Derived.Test.YtbdghpjnifjlmaaGreatQuotaA
import Derived.Test.YtbdghpjnifjlmaaGreatSortA
import Derived.Laws.CopyRow
import Derived.Laws.IdiomCopy
set_option linter.unusedVariables false
namespace Go.Proofs.YtbdghpjnifjlmaaGreat.W
open Go Go.Fw Go.RowKit Go.SoP Go.LiP
open Go.Proofs.Tryz (prog)
open Go.IntKind (i64)
section
variable {w w' w2:World} {b:Nat} {H:Pt->Sl} {s:aI} {l:Int}
abbrev ck (b:Nat):Value:=.pointer (some ⟨b,0,none⟩)
theorem PG:nE prog yN yu 1=true:=by kernel_rfl
def dN (n:Nat) (l:Int):Prop:=l≠0/\ -(n:Int)<=l/\l<=n
def aB (l:Int):Nat:=if l<0 then (-2*l+1).toNat else (2*l).toNat
def aI.val (s:aI) (l:Int):Int:=if l<0 then -((s.R .va).getD (-l).toNat 0) else (s.R .va).getD l.toNat 0
def aI.bI (s:aI) (l:Int):Int:=(s.R .le).getD (bh l).toNat 0
def aI.m_ (s:aI) (l:Int):Int:=(s.R .re).getD (bh l).toNat 0
def aI.rk (s:aI) (l:Int):Int:=if s.val l>=0 then 1048577 else s.bI l
structure Wf (s:aI):Prop where
 eG:s.vars<=1048576
 va:(s.R .va).length=s.vars+1
 vb:∀i,(s.R .va).getD i 0=0\/(s.R .va).getD i 0=1\/(s.R .va).getD i 0= -1
 le:(s.R .le).length=s.vars+1
 re:(s.R .re).length=s.vars+1
 be:(s.R .be).length<=2000000
 tr:(s.R .tr).length<=2000000
 nc:s.nc<=262144
theorem dN.bh {n:Nat} (h:dN n l):1<=Go.Proofs.YtbdghpjnifjlmaaGreat.W.bh l/\Go.Proofs.YtbdghpjnifjlmaaGreat.W.bh l<=n:=by
 obtain ⟨h1,J,I⟩:=h;unfold Go.Proofs.YtbdghpjnifjlmaaGreat.W.bh;split<;>omega
theorem dN.bd {n:Nat} (h:dN n l) (hn:n<=1048576): -1048576<=l/\l<=1048576:=by
 obtain ⟨h1,J,I⟩:=h;omega
theorem dN.neg {n:Nat} (h:dN n l):dN n (-l):=by
 obtain ⟨h1,J,I⟩:=h;exact ⟨by omega,by omega,by omega⟩
theorem vN {n:Nat} (h:dN n l):aB l<2* (n+1):=by
 obtain ⟨h1,J,I⟩:=h;unfold aB;split<;>omega
theorem iu (hl: -1048576<=l/\l<=1048576) (w:World):Calls prog jo.id #[.i l] w λe w'=>e=.returned (.i (bh l))/\w'=w:=by
 refine jo.aj ?_;have e:imax l (i64.wrap (0 - l))=bh l:=by
  rw [aA (by omega) (by omega)];unfold imax bh;split<;>split<;>omega
 exact ⟨by rw [e],rfl⟩
theorem iq (hl: -1048576<=l/\l<=1048576) (w:World):Calls prog ql.id #[.i l] w λe w'=>e=.returned (.i (aB l))/\w'=w:=by
 refine ql.aj ?_;refine ah (λs=>?_) (λs=>?_)
 . have s:l<0:=by simpa using s
   have e:i64.wrap (i64.wrap ((-2)*l)+1)=((aB l:Nat):Int):=by
    rw [aA (x:=(-2)*l) (by omega) (by omega),aA (by omega) (by omega)];unfold aB;rw [if_pos s];omega
   exact ⟨by rw [e],rfl⟩
 . have s: ¬l<0:=by simpa using s
   have e:i64.wrap (2*l)=((aB l:Nat):Int):=by
    rw [aA (by omega) (by omega)];unfold aB;rw [if_neg s];omega
   exact ⟨by rw [e],rfl⟩
theorem LX {x:Int} (h1: -128<=x) (I:x<128):IntKind.i8.wrap x=x:=by
 simp only [IntKind.wrap,IntKind.bits,IntKind.signed];simp only [Int.reducePow,Nat.reduceSub,VL,decide_eq_true_eq,ge_iff_le];split<;>omega
theorem aI.ri (k:Wf s) (l:Int):s.val l=0\/s.val l=1\/s.val l= -1:=by
 unfold aI.val;split
 . rcases k.vb (-l).toNat with h|h|h<;>rw [h]<;>simp
 . exact k.vb l.toNat
theorem pF (h:PM w b H s) (k:Wf s) (hl:dN s.vars l):Calls prog iT.id #[ck b,.i l] w λe w'=>e=.returned (.int .i8 (s.val l))/\w'=w:=by
 have hb:=hl.bd k.eG;obtain ⟨h1,O,J⟩:=hl;refine iT.aj ?_;refine ah (λr=>?_) (λr=>?_)
 . have r:l<0:=by simpa using r
   have e:i64.wrap (0 - l)= -l:=by rw [aA (by omega) (by omega)];omega
   rw [show i64.wrap (0 - l)= -l from e];refine ⟨_,rfl,_,_,_,ae h.st rfl,h.zi (x:=.va) rfl (by omega) rfl (by rw [k.va];omega) λa ha I=>⟨_,I,?_,rfl⟩⟩;have:=k.vb (-l).toNat;rw [LX (by omega) (by omega)];unfold aI.val;rw [if_pos r];simp
 . have r: ¬l<0:=by simpa using r
   refine ⟨_,rfl,_,_,_,ae h.st rfl,h.zi (x:=.va) rfl (by omega) rfl (by rw [k.va];omega) λa ha I=>⟨_,I,?_,rfl⟩⟩;unfold aI.val;rw [if_neg r]
theorem PV (h:PM w b H s) (k:Wf s) (hl:dN s.vars l):Calls prog ij.id #[ck b,.i l] w λe w'=>e=.returned (.i (s.rk l))/\mU w w':=by
 have hb:=hl.bd k.eG;have ha:=hl.bh;refine ij.aj ?_;refine (pF h k hl).mono ?_;rintro e w1 ⟨rfl,rfl⟩;refine ⟨_,rfl,ah (λr=>⟨?_,mU.refl _⟩) (λr=>?_)⟩
 . unfold aI.rk;rw [if_pos (by simpa using r)]
 . refine ⟨(·=w1.drew),rfl,_,rfl,_,_,_,fF (ae h.st rfl),(iu hb _).mono ?_⟩;rintro e w2 ⟨rfl,rfl⟩;refine ⟨_,rfl,rfl,h.drew.zi (x:=.le) rfl (by omega) rfl (by rw [k.le];omega) λa ha I=>⟨_,fF I,?_,(mU.refl _).drew⟩⟩;unfold aI.rk;rw [if_neg (by simpa using r)];rfl
end
section
variable {w w' w2 w3:World} {b:Nat} {H H' H2:Pt->Sl} {s t u:aI} {l:Int}
structure Pw (w w':World) (b:Nat) (H H':Pt->Sl) (s':aI):Prop where
 pm:PM w' b H' s'
 mod:aD (λk=>∃x,own b H x=some k) w w'
 ft:∀x k,own b H' x=some k->(∃y,own b H y=some k)\/w.heap.size<=k
theorem Pw.refl (h:PM w' b H s) (g:ak w w'):Pw w w' b H H s:=⟨h,g.mono λ_ _ e=>e.elim,λx _ I=> .inl ⟨x,I⟩⟩
theorem Pw.trans (h:Pw w w2 b H H2 t) (k:Pw w2 w3 b H2 H' u):Pw w w3 b H H' u:=by
 refine ⟨k.pm,h.mod.then k.mod λj I ⟨x,e⟩=>?_,λx j I=>?_⟩
 . rcases h.ft x j e with e|e
   . exact e
   . omega
 . rcases k.ft x j I with ⟨y,e⟩|e
   . exact h.ft y j e
   . exact .inr (UY h.mod.size e)
theorem Pw.grow (h:Pw w w2 b H H' t) (g:ak w2 w3):Pw w w3 b H H' t:=h.trans (.refl (h.pm.grow g) g)
theorem Pw.drew (h:Pw w w2 b H H' t):Pw w w2.drew b H H' t:=h.grow (aD.refl _).drew
theorem Pw.dA {w0:World} (g:ak w0 w) (h:Pw w w2 b H H' t):Pw w0 w2 b H H' t:=
 ⟨h.pm,(g.mono λ_ _ e=>e.elim).trans h.mod,λx k I=> (h.ft x k I).imp id λe=>UY g.size e⟩
theorem Pw.row (h:PM w' b H t) {x:Pt} (J:x.row=true) (m:aD (λk=>aG (H x).p=some k) w w'):Pw w w' b H H t:=
 ⟨h,m.mono λk _ e=>⟨x,by rw [cA (dM J).1];exact e⟩,λx _ I=> .inl ⟨x,I⟩⟩
theorem Pw.head {x z:Pt} {q:Sl} (J:x≠ .st) (h:PM w3 b (bH H x q) t) (m:aD (λk=>aG (H x).p=some k) w w2) (m2:aD (λk=>own b H z=some k) w2 w3)
 (hp:∀k,aG q.p=some k->aG (H x).p=some k\/w.heap.size<=k):Pw w w3 b H (bH H x q) t:=by
 refine ⟨h,(m.mono λk _ e=>⟨x,by rw [cA J];exact e⟩).trans (m2.mono λk _ e=>⟨z,e⟩),λy k I=>?_⟩;by_cases e:y=x
 . subst e;rw [cA J,bq] at I;rcases hp k I with e|e
   . exact .inl ⟨y,by rw [cA J];exact e⟩
   . exact .inr e
 . refine .inl ⟨y,?_⟩;cases y<;>first|exact I| (simp only [own] at I ⊢;rwa [aU e] at I)
theorem Ec (h:PM w b H s) {J:sn} {x:Pt} {w1:World} (g:w.heap.size<=w1.heap.size) (hp:J=(H x).p\/J=some ⟨w1.heap.size,0,none⟩):
 (∀k,aG J=some k->aG (H x).p=some k\/∀y,own b H y≠some k)/\(∀k,aG J=some k->aG (H x).p=some k\/w.heap.size<=k):=by
 rcases hp with rfl|rfl
 . exact ⟨λk I=> .inl I,λk I=> .inl I⟩
 . exact ⟨λk I=> .inr (h.cW (by have:=aL I;omega)),λk I=> .inr (by have:=aL I;omega)⟩
theorem PM.lP (h:PM w b H s) {x:Pt} (I:x.field=true) (y:Int) (hlen:(s.R x).length<=4000000) {n:Nat} (hn:n=(H x).n) {K:World->Prop}
 (V:∀w3 q,PM w3 b (bH H x q) (s.set x (s.R x++ [y]))->Pw w w3 b H (bH H x q) (s.set x (s.R x++ [y]))->K w3):
 ∀J w1,jI (.cells #[.i y] aq) w J w1->∃w2,∃ (O:sn) (n' c':Nat),(Builtin.append_ #[aE,aE] aE #[.slice (H x).p n (H x).c,.slice (some (qw J)) 1 1]).run prog w1=.ok (.slice O n' c') w2/\
  ∃a:Addr,(some ⟨b,0,none⟩:sn)=some a/\∃w3,bB (a.add x.off) 0 [.slice O n' c'] w2 w3/\K w3:=by
 intro J w1 h1;have hr:=sN I;have X:x.f=Value.int .i64:=by cases x<;>simp [Pt.field] at I<;>rfl
 have Z:x.T=aq:=by cases x<;>simp [Pt.field] at I<;>rfl
 have Q:=h.grow h1.mod;have o:dz aq w1 (H x).p (H x).c (s.R x):=by have:=Q.row x hr;rw [X,Z] at this;exact this
 refine o.lP c9 y h1.has rfl (by rw [hn,h.len x hr]) fz (by omega) λw2 O c' o2 m2 U ac=>⟨_,rfl,?_⟩
 have g1:=h1.mod.size;obtain ⟨f1,f2⟩:=Ec h (x:=x) g1 U;refine Q.head I (c':=c') (l':=s.R x++ [y]) (by rw [X,Z];exact o2) (Q.Jb hr m2) (λk V=> (f1 k V)) (by simp) λw3 Y m3=>V w3 _ Y (Pw.head (z:=.st) (dM hr).1 Y ((h1.mod.mono λ_ _ e=>e.elim).trans m2) (m3.mono λk _ e=>by rw [e];rfl) f2)
def aI.put (s:aI) (l r:Int):aI:=
 (((s.set .va ((s.R .va).set (bh l).toNat (if l<0 then -1 else 1))).set .le ((s.R .le).set (bh l).toNat (s.R .be).length)).set .re ((s.R .re).set (bh l).toNat r)).set .tr (s.R .tr++ [l])
theorem Gx (h:PM w b H s) (k:Wf s) (hl:dN s.vars l) (r:Int):Calls prog iY.id #[ck b,.i l,.i r] w λe w'=>e=.returned (.tuple #[])/\∃q,Pw w w' b H (bH H .tr q) (s.put l r):=by
 have hb:=hl.bd k.eG;have ha:=hl.bh;have b3:=hl;obtain ⟨l1,l2,l3⟩:=b3;have sz:∀x,x≠Pt.va->∀V,(s.set .va V).R x=s.R x:=λx hx V=>aU hx;have tail:∀X:World,PM X b H (s.set .va ((s.R .va).set (bh l).toNat (if l<0 then -1 else 1)))->Pw w.drew X b H H (s.set .va ((s.R .va).set (bh l).toNat (if l<0 then -1 else 1)))->
  (∃I:World->Prop,I X.drew/\
  ∃bc,(some ⟨b,0,none⟩:sn)=some bc/\∃an ap bx,xR I (bc.add 4) (.slice an ap bx)/\
  Calls prog jo.id #[.i l] X.drew λe a'=>∃a7,e=.returned (.i a7)/\
  I a'/\∃bn,(some ⟨b,0,none⟩:sn)=some bn/\∃Q ac a8,xR I (bn.add 5) (.slice Q ac a8)/\
  Calls prog jo.id #[.i l] a' λe bg=>∃bk,e=.returned (.i bk)/\
  I bg/\∃a6,(some ⟨b,0,none⟩:sn)=some a6/\∃aT O bi,xR I (a6.add 7) (.slice aT O bi)/\
  aW an ap a7 1 λa46=>
  ∃bv,bB a46 0 [.i (O:Int)] bg bv/\
  aW Q ac bk 1 λb7=>
  ∃aw,bB b7 0 [.i r] bv aw/\
  ∃a50,(some ⟨b,0,none⟩:sn)=some a50/\∃ar aa Z,aw.cell? (a50.add 6)=some (.slice ar aa Z)/\
  ∀a_ ax,jI (.cells #[.i l] aq) aw a_ ax->
  ∃az ag U Y,(Builtin.append_ #[aE,aE] aE #[.slice ar aa Z,.slice (some (qw a_)) 1 1]).run prog ax=.ok (.slice ag U Y) az/\
  ∃bb,(some ⟨b,0,none⟩:sn)=some bb/\∃bf,bB (bb.add 6) 0 [.slice ag U Y] az bf/\
  ((Ending.returned (.tuple #[])=.returned (.tuple #[]))/\∃q,Pw w bf b H (bH H .tr q) (s.put l r))):=by
  intro X J p7;generalize hV:(s.R .va).set (bh l).toNat (if l<0 then -1 else 1)=V at J p7;refine ⟨(·=X.drew),rfl,_,rfl,_,_,_,fF (ae J.drew.st rfl),(iu hb _).mono ?_⟩;rintro e w8 ⟨rfl,rfl⟩;refine ⟨_,rfl,rfl,_,rfl,_,_,_,fF (ae J.drew.st rfl),(iu hb _).mono ?_⟩;rintro e w9 ⟨rfl,rfl⟩;refine ⟨_,rfl,rfl,_,rfl,_,_,_,fF (ae J.drew.st rfl),J.drew.J4 (x:=.le) rfl (by omega) rfl (by rw [sz _ (by simp),k.le];omega) (y:=(s.R .be).length) (by rw [h.len .be rfl];rfl) rfl λce ay b6=>?_⟩;refine ay.J4 (x:=.re) rfl (by omega) rfl (by simp [aI.set,bH,k.re];omega) (y:=r) rfl rfl λb' av b8=>?_;have b4:=(p7.drew.trans (Pw.row ay (x:=.le) rfl b6)).trans (Pw.row av (x:=.re) rfl b8);refine ⟨_,rfl,_,_,_,ae av.st rfl,?_⟩;refine av.lP (x:=.tr) rfl l (by have:=k.tr;simp [aI.set,bH];omega) rfl λco q b_ b9=>?_;refine ⟨rfl,q,?_⟩;have b5:s.put l r=((((s.set .va V).set .le (((s.set .va V).R .le).set (bh l).toNat ((s.R .be).length))).set .re ((((s.set .va V).set .le (((s.set .va V).R .le).set (bh l).toNat ((s.R .be).length))).R .re).set (bh l).toNat r)).set .tr
   ((((s.set .va V).set .le (((s.set .va V).R .le).set (bh l).toNat ((s.R .be).length))).set .re ((((s.set .va V).set .le (((s.set .va V).R .le).set (bh l).toNat ((s.R .be).length))).R .re).set (bh l).toNat r)).R .tr++ [l])):=by
   simp [aI.put,<- hV,aI.set,bH]
  rw [b5];exact (b4.trans b9).dA (aD.refl w).drew
 refine iY.aj ?_;refine ⟨(·=w.drew),rfl,_,rfl,_,_,_,fF (ae h.drew.st rfl),(iu hb _).mono ?_⟩;rintro e w1 ⟨rfl,rfl⟩;refine ⟨_,rfl,rfl,h.drew.J4 (x:=.va) rfl (by omega) rfl (by rw [k.va];omega) (y:=1) rfl rfl λw3 h3 m3=>ah (λr=>?_) (λr=>?_)⟩
 . have r:l<0:=by simpa using r
   have e:i64.wrap (0 - l)=bh l:=by rw [aA (by omega) (by omega)];unfold bh;rw [if_pos r];omega
   rw [e];refine ⟨_,rfl,_,_,_,ae h3.st rfl,h3.J4 (x:=.va) rfl (by omega) rfl (by simp [aI.set,bq,k.va];omega) (y:= -1) rfl rfl λX J m7=>?_⟩;have e7:(s.set .va ((s.R .va).set (bh l).toNat 1)).set .va (((s.set .va ((s.R .va).set (bh l).toNat 1)).R .va).set (bh l).toNat (-1))=s.set .va ((s.R .va).set (bh l).toNat (if l<0 then -1 else 1)):=by
    rw [if_pos r];simp only [aI.set,bq,List.set_set];congr 1;funext y;simp only [bH];split<;>rfl
   rw [e7] at J;have p7:=(Pw.row h3 (x:=.va) rfl m3).trans (Pw.row J (x:=.va) rfl m7);exact tail X J p7
 . have r: ¬l<0:=by simpa using r
   have p3:=Pw.row h3 (x:=.va) rfl m3;refine tail w3 ?_ ?_
   . rw [if_neg r];exact h3
   . rw [if_neg r];exact p3
end
section
variable {w w' w2 w3:World} {b:Nat} {H H' H2:Pt->Sl} {s t u:aI} {l:Int}
def BV (n:Nat) (l:Int):Bool:=bU l && decide (bh l<=n)
theorem jc {n:Nat} (hn:n<=1048576):BV n l=true↔dN n l:=by
 unfold BV bU dN bh;simp only [ts,decide_eq_true_eq];split<;>omega
theorem CX (h:PM w b H s) (k:Wf s):∃a,(H .va).p=some a:=by
 rcases (h.row .va rfl).un with ⟨_,_,e⟩| ⟨g,_,e,_⟩
 . have:=k.va;rw [e] at this;simp at this
 . exact ⟨_,e⟩
theorem xa (h:PM w b H s) (k:Wf s) (l:Int):Calls prog kW.id #[ck b,.i l] w λe w'=>e=.returned (.bool (BV s.vars l))/\ak w w':=by
 refine kW.aj ?_;obtain ⟨Y,J⟩:=CX h k;refine ⟨λu=>ak w u,(aD.refl w).drew,bP rfl ⟨_,rfl,_,_,_,λu g=>ae (h.grow g).st rfl,?_⟩⟩;rw [J];refine bP rfl ?_;intro X w1 h1;have Q:ak w w1:=(aD.refl w).drew.trans h1.mod;have v1:Vw sT w1 (some ⟨X,0,none⟩) [l]:=by
  intro j O;have O:j=0:=by simpa using O
  subst O;exact ⟨_,rfl,ae h1.has rfl⟩
 refine ⟨Q,(gj v1 rfl (by simp [maxLen])).mono ?_⟩;rintro e w2 ⟨rfl,U⟩;have I:=Q.trans U;have V:jf [l]=bU l:=by simp [jf]
 refine ⟨_,rfl,I,?_⟩;rw [V];cases hl:bU l with
 |false=>exact bA rfl ⟨by simp [BV,hl],I⟩
 |true=>
  refine bP rfl ((iu (cJ hl).2 _).mono ?_);rintro e w3 ⟨rfl,rfl⟩;exact ⟨_,rfl,I,_,rfl,_,λu g=>ae (h.grow g).st rfl,by simp [BV,hl],I⟩
def aI.value (s:aI) (l:Int):Int:=if BV s.vars l then s.val l else 0
def aI.nS (s:aI) (l:Int):Int:=if BV s.vars l && s.val l !=0 then s.bI l else -1
def aI.fE (s:aI) (l:Int):Int:=if BV s.vars l && s.val l !=0 then s.m_ l else -1
theorem yL (h:PM w b H s) (k:Wf s) (l:Int):Calls prog fH.id #[ck b,.i l] w λe w'=>e=.returned (.i (s.value l))/\ak w w':=by
 refine fH.aj ((xa h k l).mono ?_);rintro e w1 ⟨rfl,I⟩;refine ⟨_,rfl,?_⟩;cases hi:BV s.vars l with
 |false=>exact bP rfl ⟨by simp [aI.value,hi],I⟩
 |true=>
  refine bA rfl ((pF (h.grow I) k ((jc k.eG).1 hi)).mono ?_);rintro e w2 ⟨rfl,rfl⟩;refine ⟨_,rfl,?_,I⟩;have:=aI.ri k l;rw [aA (by omega) (by omega)];simp [aI.value,hi]
theorem Jr (h:PM w b H s) (k:Wf s) (l:Int):Calls prog fN.id #[ck b,.i l] w λe w'=>e=.returned (.i (s.nS l))/\ak w w':=by
 refine fN.aj ((xa h k l).mono ?_);rintro e w1 ⟨rfl,I⟩;refine ⟨_,rfl,?_⟩;cases hi:BV s.vars l with
 |false=>exact bP rfl ⟨by simp [aI.nS,hi],I⟩
 |true=>
  have hv:=(jc k.eG).1 hi;have ha:=hv.bh;have h1:=h.grow I;refine bA rfl ((pF h1 k hv).mono ?_);rintro e w2 ⟨rfl,rfl⟩;refine ⟨_,rfl,ah (λr=>⟨by simp at r;simp [aI.nS,r],I⟩) (λr=>?_)⟩;refine ⟨(·=w2.drew),rfl,_,rfl,_,_,_,fF (ae h1.drew.st rfl),(iu (hv.bd k.eG) _).mono ?_⟩;rintro e w3 ⟨rfl,rfl⟩;refine ⟨_,rfl,rfl,h1.drew.zi (x:=.le) rfl (by omega) rfl (by rw [k.le];omega) λa _ J=>⟨_,fF J,?_,I.drew⟩⟩;simp at r;simp [aI.nS,hi,r,aI.bI]
theorem IQ (h:PM w b H s) (k:Wf s) (l:Int):Calls prog eP.id #[ck b,.i l] w λe w'=>e=.returned (.i (s.fE l))/\ak w w':=by
 refine eP.aj ((xa h k l).mono ?_);rintro e w1 ⟨rfl,I⟩;refine ⟨_,rfl,?_⟩;cases hi:BV s.vars l with
 |false=>exact bP rfl ⟨by simp [aI.fE,hi],I⟩
 |true=>
  have hv:=(jc k.eG).1 hi;have ha:=hv.bh;have h1:=h.grow I;refine bA rfl ((pF h1 k hv).mono ?_);rintro e w2 ⟨rfl,rfl⟩;refine ⟨_,rfl,ah (λr=>⟨by simp at r;simp [aI.fE,r],I⟩) (λr=>?_)⟩;refine ⟨(·=w2.drew),rfl,_,rfl,_,_,_,fF (ae h1.drew.st rfl),(iu (hv.bd k.eG) _).mono ?_⟩;rintro e w3 ⟨rfl,rfl⟩;refine ⟨_,rfl,rfl,h1.drew.zi (x:=.re) rfl (by omega) rfl (by rw [k.re];omega) λa _ J=>⟨_,fF J,?_,I.drew⟩⟩;simp at r;simp [aI.fE,hi,r,aI.m_]
theorem JI (h:PM w b H s):Calls prog gL.id #[ck b] w λe w'=>e=.returned (.i (s.R .be).length)/\w'=w:=by
 refine gL.aj (bA rfl ⟨_,rfl,_,_,_,ae h.st rfl,?_,rfl⟩);rw [h.len .be rfl]
theorem Ao (h:PM w b H s) (ht:(s.R .tr).length<=1000000):Calls prog fM.id #[ck b] w λe w'=>∃ (q:sn) (d:Nat),e=.returned (.slice q (s.R .tr).length d)/\dz aq w' q d (s.R .tr)/\ak w w'/\(∀b,aG q=some b->w.heap.size<=b):=by
 refine fM.aj (bA rfl ⟨_,rfl,_,_,_,ae h.st rfl,?_⟩);refine (iQ (h.row .tr rfl).vw (h.len .tr rfl) (by rw [h.len .tr rfl];exact ht)).mono ?_;rintro e w1 ⟨q,d,rfl,o,g,f⟩;exact ⟨_,_,_,rfl,q,d,rfl,o,g,f⟩
def aI.is (s:aI) (i:Int):Bool:=decide (0<=i/\i<s.nc) && !s.gone i.toNat
theorem D4 (h:PM w b H s) (i:Int):Calls prog iH.id #[ck b,.i i] w λe w'=>e=.returned (.bool (s.is i))/\w'=w:=by
 refine iH.aj (bP rfl (ah (λr=>?_) λr=>?_))
 . have r:0<=i:=by simpa using r
   refine ⟨_,rfl,_,_,_,ae h.st rfl,ah (λI=>?_) λI=>?_⟩
   . have I:i<s.nc:=by rw [h.cn] at I;simpa using I
     refine ⟨_,rfl,_,_,_,ae h.st rfl,h.Qg (i:=i.toNat) (by omega) rfl (by omega) λa J=>⟨_,J.get 2 _ rfl,?_,rfl⟩⟩;simp [aI.is,r,I]
   . have I: ¬i<s.nc:=by rw [h.cn] at I;simpa using I
     exact ⟨by simp [aI.is,I],rfl⟩
 . have r: ¬0<=i:=by simpa using r
   exact ⟨by simp [aI.is,r],rfl⟩
theorem J1 (h:PM w b H s) (i:Int) (ha:∀i,(s.R (.a i)).length<=1000000):Calls prog eW.id #[ck b,.i i] w λe w'=>
 ∃ (q:sn) (d:Nat),e=.returned (.tuple #[.slice q (if s.is i then s.R (.a i.toNat) else []).length d,.bool (s.is i)])/\dz aq w' q d (if s.is i then s.R (.a i.toNat) else [])/\ak w w'/\(∀b,aG q=some b->w.heap.size<=b):=by
 refine eW.aj ((D4 h i).mono ?_);rintro e w1 ⟨rfl,rfl⟩;refine ⟨_,rfl,?_⟩;cases hi:s.is i with
 |false=>exact bP rfl ⟨none,0,rfl,Ow.nil _ _ _,aD.refl _,λb e=>by simp [aG] at e⟩
 |true=>
  have I:0<=i/\i<s.nc:=by simp [aI.is] at hi;exact hi.1
  refine bA rfl ⟨_,rfl,_,_,_,ae h.st rfl,h.Qg (i:=i.toNat) (by omega) rfl (by omega) λa J=>⟨_,_,_,J.get 0 _ rfl,?_⟩⟩;refine (iQ (h.row (.a i.toNat) rfl).vw (h.len _ rfl) (by rw [h.len _ rfl];exact ha _)).mono ?_;rintro e w1 ⟨q,d,rfl,o,g,f⟩;exact ⟨_,_,_,rfl,q,d,rfl,o,g,f⟩
theorem SU {i:Int} {I:Nat} (h:bT w I #[.i i]) (x:Int):Calls prog dm.id #[.i x,.pointer (some ⟨I,0,none⟩)] w λe w'=>e=.returned (.bool (x==i))/\ak w w':=
 dm.aj ⟨_,aV h rfl,rfl,aD.refl _⟩
theorem Sy {i:Int} {I:Nat} (h:bT w I #[.i i]) (x:Int):Calls prog eV.id #[.i x,.pointer (some ⟨I,0,none⟩)] w λe w'=>e=.returned (.bool (x==i))/\ak w w':=
 eV.aj ⟨_,aV h rfl,rfl,aD.refl _⟩
theorem JC:gH prog dm.id=true:=by kernel_rfl
theorem Ix:gH prog eV.id=true:=by kernel_rfl
theorem Q0 (h:PM w b H s) (k:Wf s) {I:Nat} (h1:bT w I #[ck b]) {x:Int} (J:dN s.vars x):Calls prog dv.id #[.i x,.pointer (some ⟨I,0,none⟩)] w λe w'=>e=.returned (.bool (decide (s.val x<0)))/\ak w w':=by
 refine dv.aj ⟨_,aV h1 rfl,(pF h k J).mono ?_⟩;rintro e w1 ⟨rfl,rfl⟩;exact ⟨_,rfl,rfl,aD.refl _⟩
theorem F7:gH prog dv.id=true:=by kernel_rfl
theorem T5 (h:PM w b H s) (k:Wf s) {I:Nat} (h1:bT w I #[ck b]) (x:Int):Calls prog fI.id #[.i x,.pointer (some ⟨I,0,none⟩)] w λe w'=>e=.returned (.bool (!BV s.vars x))/\ak w w':=by
 refine fI.aj ⟨_,aV h1 rfl,(xa h k x).mono ?_⟩;rintro e w1 ⟨rfl,g⟩;exact ⟨_,rfl,rfl,g⟩
theorem Mi:gH prog fI.id=true:=by kernel_rfl
end
section
variable {w w' w0 w2 w3 wA:World} {b:Nat} {H H' H2:Pt->Sl} {s t u:aI} {l:Int}
theorem Wf.set {x:Pt} (k:Wf s) (h1:x≠ .va) (J:x≠ .le) (I:x≠ .re) (O:x≠ .be) (h5:x≠ .tr) (l:List Int):Wf (s.set x l):=
 ⟨k.eG,by simp only [aI.set,aU (Vc h1)];exact k.va,by simp only [aI.set,aU (Vc h1)];exact k.vb,by simp only [aI.set,aU (Vc J)];exact k.le,by simp only [aI.set,aU (Vc I)];exact k.re,
   by simp only [aI.set,aU (Vc O)];exact k.be,by simp only [aI.set,aU (Vc h5)];exact k.tr,k.nc⟩
theorem kx (e:t.R .va=s.R .va) (l:Int):t.val l=s.val l:=by unfold aI.val;rw [e]
theorem L9 (e:t.R .va=s.R .va) (I:t.R .le=s.R .le) (l:Int):t.rk l=s.rk l:=by unfold aI.rk aI.bI;rw [kx e,I]
theorem ao {x y:Pt} {l:List Int} (h:y≠x):(s.set x l).R y=s.R y:=aU h
theorem aS {x:Pt} {l:List Int}:(s.set x l).R x=l:=bq
theorem set_set {x:Pt} {l m:List Int}:(s.set x l).set x m=s.set x m:=by
 simp only [aI.set];congr 1;funext y;simp only [bH];split<;>rfl
theorem fO {x:Pt}:s.set x (s.R x)=s:=by
 unfold aI.set;congr 1;funext y;simp only [bH];split
 . rename_i e;rw [e]
 . rfl
theorem PM.JG (h:PM w0 b H t) {j:Nat} (U:j<2* (t.vars+1)) (g:ak w0 wA) {n:Nat} {i:Int} (hb:bT wA n #[.i i]) (hlen:(t.R (.w j)).length<=4000000) {K:World->Prop}
 (hk:∀w3 q,Pw w0 w3 b H (bH H (.w j) q) (t.set (.w j) (t.R (.w j)++ [i]))->K w3) {I:Int} (V:I=j):
 ∃w2,∃ (J:sn) (n' c':Nat),(Builtin.append_ #[aE,aE] aE #[.slice (H (.w j)).p (H (.w j)).n (H (.w j)).c,.slice (some (qw n)) 1 1]).run prog wA=.ok (.slice J n' c') w2/\
  aD (λk=>aG (H (.w j)).p=some k) w0 w2/\aW (H .wa).p (H .wa).n I 1 λa=>∃w3,bB a 0 [.slice J n' c'] w2 w3/\K w3:=by
 have O:=h.grow g;have o:dz aq wA (H (.w j)).p (H (.w j)).c (t.R (.w j)):=O.row (.w j) rfl;refine o.lP c9 i hb rfl (h.len (.w j) rfl) fz (by omega) λw2 J c' o2 m2 Q Y=>?_;have m:aD (λk=>aG (H (.w j)).p=some k) w0 w2:=(g.mono λ_ _ e=>e.elim).trans m2;obtain ⟨X,f2⟩:=Ec h (x:=.w j) g.size Q;refine ⟨m,O.HP U o2 (O.Jb rfl m2) X (by simp) h.wn V λw3 Z m3=>hk w3 _ (Pw.head (z:=.wa) (by simp) Z m m3 f2)⟩
def wF (i:Int) (t:aI) (I:List Int):aI:=I.foldl (λt x=>t.set (.w (aB x)) (t.R (.w (aB x))++ [i])) t
theorem JR (i:Int) (t:aI) (I:List Int) (x:Int):wF i t (I++ [x])=(wF i t I).set (.w (aB x)) ((wF i t I).R (.w (aB x))++ [i]):=by simp [wF]
theorem rX (i:Int) {y:Pt} (J:∀j,y≠ .w j):∀ (I:List Int) (t:aI),(wF i t I).R y=t.R y
 | [],_=>rfl
 |_::I,_=> (rX i J I _).trans (ao (J _))
theorem qP (i:Int):∀ (I:List Int) (t:aI),(wF i t I).vars=t.vars/\(wF i t I).nc=t.nc/\(wF i t I).gone=t.gone/\(wF i t I).done=t.done
 | [],_=>⟨rfl,rfl,rfl,rfl⟩
 |x::I,t=>qP i I (t.set (.w (aB x)) (t.R (.w (aB x))++ [i]))
theorem Mk (i:Int) (j:Nat):∀ (I:List Int) (t:aI),((wF i t I).R (.w j)).length<=(t.R (.w j)).length+I.length
 | [],_=>y4 _
 |x::I,t=>by
  have:=Mk i j I (t.set (.w (aB x)) (t.R (.w (aB x))++ [i]));refine UY this ?_;by_cases e:aB x=j
  . subst e;rw [aS];simp;omega
  . rw [ao (λh=>e (by injection h with h;exact h.symm))];simp
def A7 (rk:Int->Int) (n:Nat) (l:List Int):Prop:=∀t,t<n->∀j,t<=j->j<l.length->rk (l.getD j 0)<=rk (l.getD t 0)
def mH (s:aI) (i:Nat) (l':List Int):aI:=
 let u:=wF i (s.set (.l i) l') (l'.take 2)
 if l'.length<2\/s.val (l'.getD 1 0)<0 then u.set .lo (s.R .lo++ [(i:Int)]) else u
def tK (H H':Pt->Sl):Prop:=∀x,(∀j,x≠ .w j)->x≠ .lo->H' x=H x
theorem tK.refl:tK H H:=λ_ _ _=>rfl
theorem tK.wt (h:tK H H') {j:Nat} {q:Sl}:tK H (bH H' (.w j) q):=λx h1 I=>by rw [aU (h1 j)];exact h x h1 I
set_option linter.unusedVariables false in
theorem BX (h:PM w b H s) (k:Wf s) {i:Nat} (hi:i<s.nc) (hl:∀x∈s.R (.l i),dN s.vars x) (hn:(s.R (.l i)).length<=100000) (hw:∀j,(s.R (.w j)).length+2<=4000000) (e7:(s.R .lo).length<=4000000):
 Calls prog eU.id #[ck b,.i i] w λe w'=>e=.returned (.tuple #[])/\∃l' H',A7 s.rk 2 l'/\l'.Perm (s.R (.l i))/\Pw w w' b H H' (mH s i l')/\tK H H'/\(2<=l'.length->0<=s.val (l'.getD 1 0)->H' .lo=H .lo):=by
 have nc:=k.nc;refine eU.aj ?_;refine ⟨_,rfl,_,_,_,ae h.st rfl,h.Qg hi rfl rfl λa3 c2=>⟨_,_,_,c2.get 1 _ rfl,?_⟩⟩;have az:(H (.l i)).n=(s.R (.l i)).length:=h.len (.l i) rfl;generalize hN:(s.R (.l i)).length=N at*
 refine ⟨λK u m=>∃ (t:Nat) (l':List Int),K=t/\t<=2/\t<=N/\m=2 - t/\l'.Perm (s.R (.l i))/\A7 s.rk t l'/\Pw w u b H H (s.set (.l i) l'),
  ⟨_,0,s.R (.l i),rfl,vx _,vx _,rfl,Xk _,λt ht=>by omega,by rw [fO];exact Pw.refl h (aD.refl w)⟩,?_⟩
 rintro K w9 m _ ⟨t,l',rfl,ht,eF,rfl,pm,hb,P9⟩;have hlen:l'.length=N:=by rw [pm.length_eq,hN]
 have bf:∀x∈l',dN s.vars x:=λx hx=>hl x (pm.mem_iff.1 hx);have e2:∀y,y≠Pt.l i->∀L,(s.set (.l i) L).R y=s.R y:=λy hy L=>ao hy;have dk:mN 2 ((H (.l i)).n:Int)=((min 2 N:Nat):Int):=by rw [az];unfold mN;split<;>omega
 rw [dk];refine ah (λr=>?_) (λr=>?_)
 . have r:t<min 2 N:=by simp at r;omega
   have h9:=P9.pm;have k9:Wf (s.set (.l i) l'):=k.set (by simp) (by simp) (by simp) (by simp) (by simp) l';refine ⟨λB J u m=>∃ (B' J':Nat),B=B'/\J=J'/\t<=B'/\B'<N/\B'<J'/\J'<=N/\m=N - J'/\(∀x,t<=x->x<J'->s.rk (l'.getD x 0)<=s.rk (l'.getD B' 0))/\ak w9 u,
    ⟨_,t,t+1,rfl,wN,y4 _,by omega,by omega,by omega,rfl,λx x1 x2=> (by rw [show x=t by omega];exact U3 _),aD.refl _⟩,?_⟩
   rintro B J cb m _ ⟨B,J,rfl,rfl,tB,BN,BJ,JN,rfl,aa,ag⟩;refine ah (λQ=>?_) (λQ=>?_)
   . have Q:J<N:=by rw [az] at Q;simpa using Q
     have ac:=h9.grow ag;have hr:∀ {u:World} {X:Nat},ak w9 u->X<N->Calls prog ij.id #[ck b,.i (l'.getD X 0)] u λe w'=>e=.returned (.i (s.rk (l'.getD X 0)))/\ak u w':=by
      intro u X g hX;refine (PV (h9.grow g) k9 (bf _ (bN (by omega)))).mono ?_;rintro e w' ⟨rfl,sm⟩;rw [L9 (s:=s) (ao (by simp)) (ao (by simp))];exact ⟨rfl,sm.mod⟩
     refine ⟨λu=>ak cb u,(aD.refl _).drew,ac.zi (x:=.l i) rfl (by omega) rfl (by rw [aS];omega) λfa _ b7=>⟨_,λu g=>dZ g b7 id,?_⟩⟩;rw [aS,tn];refine (hr ag.drew Q).mono ?_;rintro e ez ⟨rfl,c1⟩;have a8:=((aD.refl cb).drew).trans c1;refine ⟨_,rfl,a8,ac.zi (x:=.l i) rfl (by omega) rfl (by rw [aS];omega) λe8 _ bY=>⟨_,λu g=>dZ g bY id,?_⟩⟩;rw [aS,tn];refine (hr (ag.trans a8) BN).mono ?_;rintro e eH ⟨rfl,dd⟩;have bx:=ag.trans (a8.trans dd);refine ⟨_,rfl,ah (λr3=>?_) (λr3=>?_)⟩
     . have r3:s.rk (l'.getD B 0)<s.rk (l'.getD J 0):=by simpa using r3
       refine ⟨_,?_,J,J+1,rfl,wN,by omega,Q,by omega,by omega,rfl,λx x1 x2=>?_,bx⟩
       . omega
       . by_cases e:x=J
         . rw [e];exact U3 _
         . have:=aa x x1 (by omega);omega
     . have r3:s.rk (l'.getD J 0)<=s.rk (l'.getD B 0):=by simpa using r3
       refine ⟨_,?_,B,J+1,rfl,wN,tB,BN,by omega,by omega,rfl,λx x1 x2=>?_,bx⟩
       . omega
       . by_cases e:x=J
         . rw [e];exact r3
         . exact aa x x1 (by omega)
   . have Q:J=N:=by rw [az] at Q;simp at Q;omega
     subst Q;have ac:=(h9.grow ag).drew;refine ac.zi (x:=.l i) rfl (by omega) rfl (by rw [aS];omega) λa25 _ bv=>⟨_,bv,ac.zi (x:=.l i) rfl (by omega) rfl (by rw [aS];omega) λel _ b5=>⟨_,b5,?_⟩⟩
     rw [aS,tn,tn];refine ac.J4 (x:=.l i) rfl (by omega) rfl (by rw [aS];omega) (y:=l'.getD B 0) rfl rfl λeg dc cT=>dc.J4 (x:=.l i) rfl (by omega) rfl (by simp [aS];omega) (y:=l'.getD t 0) rfl rfl λdu bb c7=>?_;rw [aS,tn,tn,set_set,aS,set_set] at bb;have d6:(l'.set t (l'.getD B 0)).set B (l'.getD t 0)=tZ l' t B:=rfl;rw [d6] at bb;have c0:Pw w du b H H (s.set (.l i) (tZ l' t B)):=(P9.grow ag.drew).trans ⟨bb,(cT.mono λk _ e=>⟨.l i,e⟩).trans (c7.mono λk _ e=>⟨.l i,e⟩),λx _ hk=> .inl ⟨x,hk⟩⟩;refine ⟨_,?_,t+1,_,wN,by omega,by omega,rfl,(yU (by omega) (by omega)).trans pm,?_,c0⟩
     . omega
     . intro y hy j aT hj;rw [vH] at hj;rw [np (by omega) (by omega),np (by omega) (by omega)];by_cases e:y=t
       . subst e;have cp:s.rk (l'.getD y 0)<=s.rk (l'.getD B 0):=aa y (y4 _) (by omega);have e5:(if y=B then l'.getD y 0 else if y=y then l'.getD B 0 else l'.getD y 0)=l'.getD B 0:=by
          split
          . rename_i e;rw [<- e]
          . rw [if_pos rfl]
         rw [e5];split
         . exact cp
         . split
           . exact U3 _
           . exact aa j aT (by omega)
       . rw [if_neg (show y≠B by omega),if_neg e];have a_:y<t:=by omega
         split
         . exact hb y a_ t (by omega) (by omega)
         . split
           . exact hb y a_ B (by omega) (by omega)
           . exact hb y a_ j aT (by omega)
 . have r:t=min 2 N:=by simp at r;omega
   have h9:=P9.pm;have b':A7 s.rk 2 l':=λy hy j aT hj=>hb y (by omega) j aT hj;have d9:N<=(H (.l i)).c:=by
    rcases (h9.row (.l i) rfl).un with ⟨_,e1,e2⟩| ⟨_,_,_,_,e,_⟩
    . rw [aS] at e2;rw [e2] at hlen;simp at hlen;omega
    . rw [aS] at e;omega
   refine eh 0 (min 2 N) (H (.l i)).c rfl rfl rfl (y4 _) (by omega) (vx _) ?_;have ep:(if (H (.l i)).c=0 then (H (.l i)).p else (H (.l i)).p.map (·.add (0*1)))=(H (.l i)).p:=by rw [Ql];split<;>rfl
   rw [ep,Ve];refine ⟨λV u m=>∃ (v:Nat) (H':Pt->Sl),V=v/\v<=min 2 N/\m=min 2 N - v/\Pw w u b H H' (wF i (s.set (.l i) l') (l'.take v))/\tK H H'/\H' .lo=H .lo,
    ⟨_,0,H,rfl,vx _,rfl,P9,tK.refl,rfl⟩,?_⟩
   rintro V U m _ ⟨v,H',rfl,hv,rfl,ap,kh,a7⟩;have O:=ap.pm;have eL:H' (.l i)=H (.l i):=kh _ (by simp) (by simp);have I:(wF i (s.set (.l i) l') (l'.take v)).vars=s.vars:=(qP i _ _).1;have ar:(wF i (s.set (.l i) l') (l'.take v)).R (.l i)=l':=by rw [rX i (by simp),aS]
   refine ah (λQ=>?_) (λQ=>?_)
   . have Q:v<min 2 N:=by simpa using Q
     rw [<- eL];have hx:=bf _ (bN (l:=l') (t:=v) (by omega));have ax:=hx.bd k.eG;have d4:=vN hx;refine O.Pm (x:=.l i) rfl (n:=min 2 N) (by omega) (by rw [ar];omega) (by omega) λa39 _ b8=>⟨_,b8,?_⟩
     rw [ar,tn];have h0:=O.drew;generalize hT:wF i (s.set (.l i) l') (l'.take v)=T at*
     generalize hX:l'.getD v 0=X at*
     have Y:(T.R (.w (aB X))).length<=4000000:=by
      have:=Mk i (aB X) (l'.take v) (s.set (.l i) l');rw [hT,ao (by simp)] at this;have h2:=hw (aB X);have h3:(l'.take v).length<=2:=by simp;omega
      omega
     have Z:aB X<2* (T.vars+1):=by rw [I];exact d4
     have dG:∀w3 q,Pw U.drew w3 b H' (bH H' (.w (aB X)) q) (T.set (.w (aB X)) (T.R (.w (aB X))++ [(i:Int)]))->
      ∃cc,cc<min 2 N - v/\∃ (v':Nat) (H2:Pt->Sl),i64.wrap ((v:Int)+1)=v'/\v'<=min 2 N/\cc=min 2 N - v'/\Pw w w3 b H H2 (wF i (s.set (.l i) l') (l'.take v'))/\tK H H2/\H2 .lo=H .lo:=by
      intro w3 q P;refine ⟨_,?_,v+1,_,wN,by omega,rfl,?_,kh.wt (q:=q) (j:=aB X),by rw [aU (by simp)];exact a7⟩
      . omega
      . have:l'.take (v+1)=l'.take v++ [X]:=by
         rw [UR,<- hX];simp [List.getD,show v<l'.length by omega]
        rw [this,JR,hT];exact ap.drew.trans P
     have aw:∀ {a:Addr} {u:Value},U.drew.cell? a=some u->a.block≠0\/True->¬aG (H' (.w (aB X))).p=some a.block->xR (aD (λk=>aG (H' (.w (aB X))).p=some k) U.drew) a u:=λhc _ d8 u' g=>dZ g hc d8;have b6: ¬aG (H' (.w (aB X))).p=some b:=h0.kc (x:=.w (aB X)) (by simp) (y:=.st) (by simp) rfl;refine ⟨aD (λk=>aG (H' (.w (aB X))).p=some k) U.drew,aD.refl _,_,rfl,_,_,_,aw (ae h0.st rfl) (.inr trivial) (by rw [cV];exact b6),_,rfl,_,_,_,aw (ae h0.st rfl) (.inr trivial) (by rw [cV];exact b6),?_⟩;have rd:∀ {n:Nat} {w1 w2:World},jI (.cells #[.i (i:Int)] aq) w1 n w2->ak w1 w2/\bT w2 n #[.i (i:Int)]:=λh=>⟨h.mod,h.has⟩
     have gm:∀ {w1:World},ak U.drew w1->aD (λk=>aG (H' (.w (aB X))).p=some k) U.drew w1:=λg=>g.mono λ_ _ e=>e.elim;have cP:∀ {K:Addr->Prop},(∀a,xR (aD (λk=>aG (H' (.w (aB X))).p=some k) U.drew) a (H' (.w (aB X))).v->K a)->aW (H' .wa).p (H' .wa).n (aB X:Int) 1 K:=λhk=>
      h0.TG Z rfl rfl λa hb hc=>hk a (aw hc (.inr trivial) λe=>h0.kc (x:=.w (aB X)) (by simp) (y:=.wa) (by simp) hb e)
     refine ⟨(iq ax _).mono ?_,?_⟩
     . rintro e e4 ⟨rfl,rfl⟩;refine ⟨_,rfl,aD.refl _,(iq ax _).mono ?_,?_⟩
       . rintro e es ⟨rfl,rfl⟩;exact ⟨_,rfl,aD.refl _,cP λa50 ha=>⟨_,_,_,ha,λeK ei a'=>⟨gm a'.mod,h0.JG Z a'.mod a'.has Y dG rfl⟩⟩⟩
       . intro et en ay;refine ⟨gm ay.mod,(iq ax _).mono ?_⟩;rintro e e6 ⟨rfl,rfl⟩;exact ⟨_,rfl,gm ay.mod,cP λek ha=>⟨_,_,_,ha,h0.JG Z ay.mod ay.has Y dG rfl⟩⟩
     . intro eR eT av;refine ⟨gm av.mod,(iq ax _).mono ?_⟩;rintro e er ⟨rfl,rfl⟩;refine ⟨_,rfl,gm av.mod,(iq ax _).mono ?_⟩;rintro e fd ⟨rfl,rfl⟩;exact ⟨_,rfl,gm av.mod,cP λeA ha=>⟨_,_,_,ha,h0.JG Z av.mod av.has Y dG rfl⟩⟩
   . have Q:v=min 2 N:=by simp at Q;omega
     subst Q;have dh:l'.take (min 2 N)=l'.take 2:=by
      rw [<- hlen];by_cases e:2<=l'.length
      . rw [U7 e]
      . rw [Nat.min_eq_right (by omega),K',UM (by omega)]
     rw [dh] at ap O I ar;have kT:Wf (wF i (s.set (.l i) l') (l'.take 2)):=by
      have hR:∀y,(∀j,y≠Pt.w j)->y≠ .l i->(wF i (s.set (.l i) l') (l'.take 2)).R y=s.R y:=λy h1 h2=>by rw [rX i h1,ao h2]
      exact ⟨by rw [I];exact k.eG,by rw [hR _ (by simp) (by simp),I];exact k.va,by rw [hR _ (by simp) (by simp)];exact k.vb,by rw [hR _ (by simp) (by simp),I];exact k.le,by rw [hR _ (by simp) (by simp),I];exact k.re,
       by rw [hR _ (by simp) (by simp)];exact k.be,by rw [hR _ (by simp) (by simp)];exact k.tr,by rw [(qP i _ _).2.1];exact k.nc⟩
     have dT:(wF i (s.set (.l i) l') (l'.take 2)).R .va=s.R .va:=by rw [rX i (by simp),ao (by simp)]
     have bc:(wF i (s.set (.l i) l') (l'.take 2)).R .lo=s.R .lo:=by rw [rX i (by simp),ao (by simp)]
     have loose:(l'.length<2\/s.val (l'.getD 1 0)<0)->∀ {u:World},ak U u->∀w3 q,PM w3 b (bH H' .lo q) ((wF i (s.set (.l i) l') (l'.take 2)).set .lo ((wF i (s.set (.l i) l') (l'.take 2)).R .lo++ [(i:Int)]))->
      Pw u w3 b H' (bH H' .lo q) ((wF i (s.set (.l i) l') (l'.take 2)).set .lo ((wF i (s.set (.l i) l') (l'.take 2)).R .lo++ [(i:Int)]))->
      Ending.returned (.tuple #[])=.returned (.tuple #[])/\∃l' H',A7 s.rk 2 l'/\l'.Perm (s.R (.l i))/\Pw w w3 b H H' (mH s i l')/\tK H H'/\(2<=l'.length->0<=s.val (l'.getD 1 0)->H' .lo=H .lo):=by
      intro hc u gu w3 q _ P;refine ⟨rfl,l',bH H' .lo q,b',pm,?_,λx h1 h2=>by rw [aU h2];exact kh x h1 h2,λh1 h2=>by omega⟩;unfold mH;simp only [if_pos hc];rw [bc] at P;exact (ap.grow gu).trans P
     rw [az];refine ah (λr3=>?_) (λr3=>?_)
     . have fh:(N:Int)<2:=by simpa using r3
       have r3:l'.length<2:=by rw [hlen];omega
       refine ⟨_,rfl,_,_,_,ae O.st rfl,?_⟩;exact O.lP (x:=.lo) rfl (i:Int) (by rw [bc];omega) rfl λw3 q p P=>loose (.inl r3) (aD.refl _) w3 q p P
     . have r3:2<=l'.length:=by rw [hlen];simp at r3;omega
       rw [<- eL];refine O.Pm (x:=.l i) rfl (by omega) (by rw [ar];omega) (by omega) λew _ b_=>⟨_,b_,?_⟩
       rw [ar];have hx:=bf _ (bN (l:=l') (t:=1) (by omega));refine (pF O kT (by rw [I];exact hx)).mono ?_;rintro e e9 ⟨rfl,rfl⟩;rw [kx dT];refine ⟨_,rfl,ah (λr4=>?_) (λr4=>?_)⟩
       . have r4:s.val (l'.getD 1 0)<0:=by simpa using r4
         refine ⟨_,rfl,_,_,_,ae O.st rfl,?_⟩;exact O.lP (x:=.lo) rfl (i:Int) (by rw [bc];omega) rfl λw3 q p P=>loose (.inr r4) (aD.refl _) w3 q p P
       . have r4: ¬s.val (l'.getD 1 0)<0:=by simpa using r4
         refine ⟨rfl,l',H',b',pm,?_,kh,λ_ _=>a7⟩;unfold mH;simp only [if_neg (show ¬(l'.length<2\/s.val (l'.getD 1 0)<0) by omega)];exact ap
end
section
variable {w w' w0 w2 w3 wA:World} {b:Nat} {H H' H2:Pt->Sl} {s t u:aI} {l:Int}
def oW (i:Int) (t:aI) (I:List Int):aI:=I.foldl (λt x=>t.set (.w (aB x)) ((t.R (.w (aB x))).filter λk=> !(k==i))) t
theorem FJ (i:Int) (t:aI) (I:List Int) (x:Int):oW i t (I++ [x])=(oW i t I).set (.w (aB x)) (((oW i t I).R (.w (aB x))).filter λk=> !(k==i)):=by simp [oW]
theorem jL (i:Int) {y:Pt} (J:∀j,y≠ .w j):∀ (I:List Int) (t:aI),(oW i t I).R y=t.R y
 | [],_=>rfl
 |_::I,_=> (jL i J I _).trans (ao (J _))
theorem jk (i:Int):∀ (I:List Int) (t:aI),(oW i t I).vars=t.vars/\(oW i t I).nc=t.nc/\(oW i t I).gone=t.gone/\(oW i t I).done=t.done
 | [],_=>⟨rfl,rfl,rfl,rfl⟩
 |x::I,t=>jk i I (t.set (.w (aB x)) ((t.R (.w (aB x))).filter λk=> !(k==i)))
theorem Cu (i:Int) (j:Nat):∀ (I:List Int) (t:aI),((oW i t I).R (.w j)).length<=(t.R (.w j)).length
 | [],_=>y4 _
 |x::I,t=>by
  have:=Cu i j I (t.set (.w (aB x)) ((t.R (.w (aB x))).filter λk=> !(k==i)));refine UY this ?_;by_cases e:aB x=j
  . subst e;rw [aS];exact Vs _ _
  . rw [ao (λh=>e (by injection h with h;exact h.symm))];exact y4 _
def oJ (H H':Pt->Sl):Prop:=∀x,(∀j,x≠ .w j)->H' x=H x
theorem oJ.refl:oJ H H:=λ_ _=>rfl
theorem oJ.wt (h:oJ H H') {j:Nat} {q:Sl}:oJ H (bH H' (.w j) q):=λx h1=>by rw [aU (h1 j)];exact h x h1
theorem oJ.trans (h:oJ H H2) (k:oJ H2 H'):oJ H H':=λx I=> (k x I).trans (h x I)
theorem Jw (h:PM w b H s) {i:Nat} (hn:(s.R (.l i)).length<=100000):(s.R (.l i)).length<=(H (.l i)).c/\mN 2 ((H (.l i)).n:Int)=((min 2 (s.R (.l i)).length:Nat):Int):=by
 have I:=h.len (.l i) rfl;refine ⟨?_,by rw [I];unfold mN;split<;>omega⟩;rcases (h.row (.l i) rfl).un with ⟨_,_,J⟩| ⟨_,_,_,_,e,_⟩
 . rw [J];exact vx _
 . exact e
theorem zI (h:PM w b H s) (hv:s.vars<=1048576) {i:Nat} (hi:i<s.nc) (hl:∀x∈s.R (.l i),dN s.vars x) (hn:(s.R (.l i)).length<=100000) (hw:∀j,(s.R (.w j)).length<=1000000):
 Calls prog fX.id #[ck b,.i i] w λe w'=>e=.returned (.tuple #[])/\∃H',Pw w w' b H H' (oW i s ((s.R (.l i)).take 2))/\oJ H H':=by
 refine fX.aj ?_;intro n1 w1 h1;have hA:=(h.grow h1.mod)
 obtain ⟨bn,a_⟩:=Jw h hn;refine ⟨_,rfl,_,_,_,ae hA.drew.st rfl,_,aV h1.has.drew rfl,hA.drew.Qg hi rfl rfl λa6 ay=>⟨_,_,_,ay.get 1 _ rfl,?_⟩⟩;try dsimp only
 rw [a_];generalize hN:(s.R (.l i)).length=N at*
 refine eh 0 (min 2 N) (H (.l i)).c rfl rfl rfl (y4 _) (by omega) (vx _) ?_;have ep:(if (H (.l i)).c=0 then (H (.l i)).p else (H (.l i)).p.map (·.add (0*1)))=(H (.l i)).p:=by rw [Ql];split<;>rfl
 rw [ep,Ve];have U:∀x,¬own b H x=some n1:=λx e=>by have:=h.lt x n1 e;have:=h1.num;omega
 refine ⟨λV u m=>∃ (v:Nat) (H':Pt->Sl),V=v/\v<=min 2 N/\m=min 2 N - v/\Pw w1 u b H H' (oW i s ((s.R (.l i)).take v))/\oJ H H',
  ⟨_,0,H,rfl,vx _,rfl,Pw.refl hA.drew (aD.refl w1).drew,oJ.refl⟩,?_⟩
 rintro V J m _ ⟨v,H',rfl,b6,rfl,I,kh⟩;have pO:=I.pm;have eL:H' (.l i)=H (.l i):=kh _ (by simp);have Y:(oW i s ((s.R (.l i)).take v)).vars=s.vars:=(jk i _ _).1;have ax:(oW i s ((s.R (.l i)).take v)).R (.l i)=s.R (.l i):=jL i (by simp) _ _;refine ah (λr2=>?_) (λr2=>?_)
 . have r2:v<min 2 N:=by simpa using r2
   rw [<- eL];have hx:=hl _ (bN (l:=s.R (.l i)) (t:=v) (by omega));have av:=hx.bd hv;have bb:=vN hx;refine pO.Pm (x:=.l i) rfl (n:=min 2 N) (by omega) (by rw [ax];omega) (by omega) λb' _ ar=>⟨_,ar,?_⟩
   rw [ax,tn];have ag:bT J n1 #[.i (i:Int)]:=h1.has.keep I.mod λ⟨x,e⟩=>U x e;generalize hT:oW i s ((s.R (.l i)).take v)=T at*
   generalize hX:(s.R (.l i)).getD v 0=X at*
   have aa:(T.R (.w (aB X))).length<=1000000:=by
    have:=Cu i (aB X) ((s.R (.l i)).take v) s;rw [hT] at this;exact UY this (hw _)
   have O:aB X<2* (T.vars+1):=by rw [Y];exact bb
   refine ⟨(·=J.drew),rfl,_,rfl,_,_,_,fF (ae pO.drew.st rfl),(iq av _).mono ?_⟩;rintro e bY ⟨rfl,rfl⟩;refine ⟨_,rfl,rfl,pO.drew.TG O rfl rfl λb9 _ an=>⟨_,_,_,fF an,?_⟩⟩;have Q:=pO.drew.drew;have aw:∀ {a:Addr} {u:Value},J.drew.drew.cell? a=some u->¬aG (H' (.w (aB X))).p=some a.block->xR (aD (λk=>aG (H' (.w (aB X))).p=some k) J.drew.drew) a u:=λhc bk u' g=>dZ g hc bk;have a': ¬aG (H' (.w (aB X))).p=some b:=Q.kc (x:=.w (aB X)) (by simp) (y:=.st) (by simp) rfl;have bc: ¬aG (H' (.w (aB X))).p=some n1:=λe=>by
    rcases I.ft (.w (aB X)) n1 e with ⟨y,e2⟩|e2
    . exact U y e2
    . have:=h1.has.lt;omega
   refine ⟨aD (λk=>aG (H' (.w (aB X))).p=some k) J.drew.drew,aD.refl _,_,rfl,_,_,_,aw (ae Q.st rfl) (by rw [cV];exact a'),(iq av _).mono ?_⟩;rintro e b4 ⟨rfl,rfl⟩;have o:dz aq J.drew.drew (H' (.w (aB X))).p (H' (.w (aB X))).c (T.R (.w (aB X))):=Q.row (.w (aB X)) rfl;refine ⟨_,rfl,aD.refl _,(wX o (Q.len (.w (aB X)) rfl) (by rw [Q.len (.w (aB X)) rfl];exact aa) JC (λx=>x==(i:Int)) λx _ w' g=>?_).mono ?_⟩
   . rw [wK];exact SU (ag.drew.drew.keep g bc) x
   rintro e b7 ⟨rfl,az,Z⟩;refine ⟨_,_,_,rfl,Z,?_⟩;refine Q.HP O az (Q.Jb rfl Z) (λk hk=> .inl hk) rfl Q.wn rfl λb_ bg aT=>?_;refine ⟨_,?_,v+1,bH H' (.w (aB X)) ⟨(H' (.w (aB X))).p,((T.R (.w (aB X))).filter λx=> !(x==(i:Int))).length,(H' (.w (aB X))).c⟩,wN,by omega,rfl,?_,kh.wt⟩
   . omega
   . have:(s.R (.l i)).take (v+1)=(s.R (.l i)).take v++ [X]:=by
      rw [UR,<- hX];simp [List.getD,show v< (s.R (.l i)).length by omega]
     rw [this,FJ,hT];exact I.drew.drew.trans (Pw.head (z:=.wa) (by simp) bg Z aT λk hk=> .inl hk)
 . have r2:v=min 2 N:=by simp at r2;omega
   subst r2;refine ⟨rfl,H',?_,kh⟩;have a8:(s.R (.l i)).take (min 2 N)=(s.R (.l i)).take 2:=by
    rw [<- hN];by_cases e:2<=(s.R (.l i)).length
    . rw [U7 e]
    . rw [Nat.min_eq_right (by omega),K',UM (by omega)]
   rw [a8] at I;exact I.dA h1.mod
theorem A7.aC {l':List Int} (hb:A7 s.rk 2 l') (I:∀x∈l',s.val x<0->s.bI x<1048577) {m:List Int} (pm:l'.Perm m) (h2:2<=(m.filter λx=> !decide (s.val x<0)).length):
 2<=l'.length/\0<=s.val (l'.getD 1 0)/\0<=s.val (l'.getD 0 0):=by
 have hf:(l'.filter λx=> !decide (s.val x<0)).length=(m.filter λx=> !decide (s.val x<0)).length:=(pm.filter _).length_eq;have U:2<=l'.length:=by have:=Vs (λx=> !decide (s.val x<0)) l';omega
 match l',U with
 |x::y::r,_=>
  have key:0<=s.val y:=by
   rcases XX (s.val y) 0 with O|O
   . exfalso;have Q:s.rk y<1048577:=by unfold aI.rk;rw [if_neg (by omega)];exact I y (by simp) O
     have:∀z∈y::r,s.val z<0:=by
      intro z J;obtain ⟨j,X,e⟩:=I'.1 J;have:=hb 1 (by omega) (j+1) (by omega) (by simpa using X);have Z:(x::y::r).getD (j+1) 0=z:=by
       show (y::r).getD j 0=z;rw [<- e,y6,Mb X];rfl
      rw [Z] at this;have V:(x::y::r).getD 1 0=y:=rfl;rw [V] at this;rcases XX (s.val z) 0 with h|h
      . exact h
      . unfold aI.rk at this Q;rw [if_pos (show s.val z>=0 from h)] at this;omega
     have e0:((y::r).filter λx=> !decide (s.val x<0))= []:=by
      rw [W7];intro z J;simp [this z J]
     rw [WQ,e0] at hf;split at hf<;>simp at hf<;>omega
   . exact O
  refine ⟨by simp,key,?_⟩;have:=hb 0 (by omega) 1 (by omega) (by simp);have V:(x::y::r).getD 1 0=y:=rfl;have Y:(x::y::r).getD 0 0=x:=rfl;rw [V,Y] at this;rw [Y];rcases XX (s.val x) 0 with h|h
  . unfold aI.rk at this;rw [if_pos (show s.val y>=0 from key),if_neg (show ¬s.val x>=0 by omega)] at this;have:=I x (by simp) h;omega
  . exact h
theorem FN {i:Nat} {l':List Int} (h1:2<=l'.length) (I:0<=s.val (l'.getD 1 0)):mH s i l'=wF i (s.set (.l i) l') (l'.take 2):=by
 unfold mH;simp only [if_neg (show ¬(l'.length<2\/s.val (l'.getD 1 0)<0) by omega)]
theorem Lb (h:PM w b H s) (k:Wf s) {i:Nat} (hi:i<s.nc) (hl:∀x∈s.R (.l i),dN s.vars x) (hn:(s.R (.l i)).length<=100000) (hw:∀j,(s.R (.w j)).length+2<=4000000) (U:(s.R .lo).length<=4000000)
 (O:∀x∈s.R (.l i),s.val x<0->s.bI x<1048577) (h2:2<=((s.R (.l i)).filter λx=> !decide (s.val x<0)).length):
 Calls prog iC.id #[ck b,.i i] w λe w'=>e=.returned (.tuple #[])/\∃l' H',A7 s.rk 2 l'/\l'.Perm (s.R (.l i))/\2<=l'.length/\0<=s.val (l'.getD 1 0)/\0<=s.val (l'.getD 0 0)/\Pw w w' b H H' (wF i (s.set (.l i) l') (l'.take 2))/\oJ H H':=by
 refine iC.aj ?_;refine ⟨_,rfl,_,_,_,ae h.st rfl,(BX h k hi hl hn hw U).mono ?_⟩;rintro e w3 ⟨rfl,l',H',hb,pm,X,kh,J⟩;obtain ⟨b1,b2,b3⟩:=hb.aC (λx Y=>O x (pm.mem_iff.1 Y)) pm h2;rw [FN b1 b2] at X;have Q:=J b1 b2;have I:=X.pm;refine ⟨rfl,_,rfl,?_⟩;have o:=I.row .lo rfl;rw [Q] at o;have:=I.head (x:=.lo) rfl o ⟨I.st,I.c,I.wa,λy hy _=>I.row y hy⟩ (λk V=> .inl (by rw [Q];exact V)) (n':=(H .lo).n) (by rw [<- Q];exact I.len .lo rfl) (K:=λw'=>Ending.returned (.tuple #[])=.returned (.tuple #[])/\∃l' H',A7 s.rk 2 l'/\l'.Perm (s.R (.l i))/\2<=l'.length/\0<=s.val (l'.getD 1 0)/\0<=s.val (l'.getD 0 0)/\Pw w w' b H H' (wF i (s.set (.l i) l') (l'.take 2))/\oJ H H') ?_
 . exact this
 . intro w5 h5 m5;have Z:bH H' .lo ⟨(H .lo).p,(H .lo).n,(H .lo).c⟩=H':=by
    funext y;simp only [bH];split
    . rename_i e;rw [e,Q]
    . rfl
   rw [Z,fO] at h5;refine ⟨rfl,l',H',hb,pm,b1,b2,b3,X.trans ⟨h5,m5.mono λk _ e=>⟨.st,by rw [e];rfl⟩,λx k V=> .inl ⟨x,V⟩⟩,λx Y=>?_⟩;by_cases e:x=.lo
   . rw [e,Q]
   . exact kh x Y e
end
section
variable {w w' w0 w2 w3 wA:World} {b:Nat} {H H' H2:Pt->Sl} {s t u:aI} {l:Int}
def kI (l:List Int) (f:Int):List Int:=if l.getD 0 0=f/\1<l.length then tZ l 0 1 else l
theorem BQ (l:List Int) (f:Int):(kI l f).length=l.length:=by unfold kI;split<;>simp [vH]
theorem qY (l:List Int) (f:Int):(kI l f).Perm l:=by
 unfold kI;split
 . rename_i h;exact yU (by omega) h.2
 . exact Xk _
inductive wR (s:aI) (i:Nat) (m:List Int):aI->Bool->Bool->Prop
 |Th:0<s.val (m.getD 0 0)->wR s i m (s.set (.l i) m) true false
 |Ed (k:Nat): ¬0<s.val (m.getD 0 0)->2<=k->k<m.length->0<=s.val (m.getD k 0)->
   wR s i m ((s.set (.l i) (tZ m 1 k)).set (.w (aB (m.getD k 0))) (s.R (.w (aB (m.getD k 0)))++ [(i:Int)])) false false
 |qZ:s.val (m.getD 0 0)<0->(∀k,2<=k->k<m.length->s.val (m.getD k 0)<0)->wR s i m (s.set (.l i) m) true true
 |unit:s.val (m.getD 0 0)=0->(∀k,2<=k->k<m.length->s.val (m.getD k 0)<0)->wR s i m ((s.set (.l i) m).put (m.getD 0 0) i) true false
def KF (s:aI) (H H':Pt->Sl):Prop:=∀x,x≠ .tr->(∀z,dN s.vars z->0<=s.val z->x≠ .w (aB z))->H' x=H x
theorem Md (h:PM w b H s) (k:Wf s) {i:Nat} (hi:i<s.nc) (hl:∀x∈s.R (.l i),dN s.vars x) (hn:(s.R (.l i)).length<=100000) (hw:∀j,(s.R (.w j)).length<=1000000) (h2:2<=(s.R (.l i)).length) (f:Int):
 Calls prog iD.id #[ck b,.i i,.i f] w λe w'=>∃st br,e=.returned (.tuple #[.bool st,.bool br])/\∃s' H',wR s i (kI (s.R (.l i)) f) s' st br/\Pw w w' b H H' s'/\KF s H H':=by
 have bx:=h.len (.l i) rfl;refine iD.aj ?_;refine ⟨_,rfl,_,_,_,ae h.st rfl,h.Qg hi rfl rfl λa3 cc=>⟨_,_,_,cc.get 1 _ rfl,?_⟩⟩;generalize hm:kI (s.R (.l i)) f=m at*
 have eb:m.length=(s.R (.l i)).length:=by rw [<- hm,BQ]
 have cm:m.Perm (s.R (.l i)):=by rw [<- hm];exact qY _ _
 have bc:∀x∈m,dN s.vars x:=λx hx=>hl x (cm.mem_iff.1 hx);generalize hN:(s.R (.l i)).length=N at*
 have P0:=Pw.refl h (aD.refl w);refine ⟨λu=>Pw w u b H H (s.set (.l i) m),?_,?_⟩
 . refine h.zi (x:=.l i) rfl (by omega) rfl (by omega) λa6 _ co=>⟨_,co,ah (λr=>ah (λY=>?_) λY=>?_) λr=>?_⟩
   . have r:(s.R (.l i)).getD 0 0=f:=by simpa using r
     have em:m=tZ (s.R (.l i)) 0 1:=by rw [<- hm];unfold kI;rw [if_pos ⟨r,by omega⟩]
     have O:=h.drew;refine O.zi (x:=.l i) rfl (by omega) rfl (by omega) λa8 _ ce=>⟨_,ce,O.zi (x:=.l i) rfl (by omega) rfl (by omega) λed _ b6=>⟨_,b6,?_⟩⟩
     refine O.J4 (x:=.l i) rfl (by omega) rfl (by omega) (y:=(s.R (.l i)).getD 1 0) rfl rfl λei pO dd=>pO.J4 (x:=.l i) rfl (by omega) rfl (by simp [aS];omega) (y:=(s.R (.l i)).getD 0 0) rfl rfl λeH b4 c1=>?_;rw [aS,set_set] at b4;rw [em];exact P0.drew.trans ⟨b4,(dd.mono λk _ e=>⟨.l i,e⟩).trans (c1.mono λk _ e=>⟨.l i,e⟩),λx _ hk=> .inl ⟨x,hk⟩⟩
   . simp at Y;omega
   . have r: ¬(s.R (.l i)).getD 0 0=f:=by simpa using r
     have em:m=s.R (.l i):=by rw [<- hm];unfold kI;rw [if_neg (λe=>r e.1)]
     rw [em,fO];exact P0
 intro a7 _ ag;have az:=ag.pm;have b3:Wf (s.set (.l i) m):=k.set (by simp) (by simp) (by simp) (by simp) (by simp) m;have ev:∀x,(s.set (.l i) m).val x=s.val x:=λx=>kx (ao (by simp)) x;have kv:KF s H H:=λ_ _ _=>rfl;have cP:∀ {I:Int} (j:Nat),I=j->j<N->∀ {K:Addr->Prop},(∀a,a7.cell? a=some (.i (m.getD j 0))->K a)->aW (H (.l i)).p (H (.l i)).n I 1 K:=λ{I} j hI hj {K} hk=>by
  subst hI;refine az.zi (x:=.l i) rfl (by omega) rfl (by rw [aS];omega) λa _ hc=>hk a ?_;rw [aS,tn] at hc;exact hc
 have bb:∀j,j<N->Calls prog iT.id #[ck b,.i (m.getD j 0)] a7 λe w'=>e=.returned (.int .i8 (s.val (m.getD j 0)))/\w'=a7:=λj hj=>by
  have:=pF az b3 (l:=m.getD j 0) (bc _ (bN (by omega)));rw [ev] at this;exact this
 refine cP 0 rfl (by omega) λeA bv=>⟨_,bv,(bb 0 (by omega)).mono ?_⟩
 rintro e cg ⟨rfl,rfl⟩;refine ⟨_,rfl,ah (λr=>⟨true,false,rfl,_,H,.Th (by simpa using r),ag,kv⟩) λr=>?_⟩;have r: ¬0<s.val (m.getD 0 0):=by simpa using r
 refine ⟨λK u z=>∃j:Nat,K=j/\2<=j/\j<=N/\z=N - j/\u=cg/\∀y,2<=y->y<j->s.val (m.getD y 0)<0,⟨_,2,rfl,y4 _,h2,rfl,rfl,λy y1 y2=>by omega⟩,?_⟩;rintro K u z _ ⟨j,rfl,j2,jN,rfl,rfl,ac⟩;refine ah (λY=>?_) (λY=>?_)
 . have Y:j<N:=by rw [bx] at Y;simpa using Y
   refine cP j rfl Y λey bi=>⟨_,bi,(bb j Y).mono ?_⟩
   rintro e d9 ⟨rfl,rfl⟩;refine ⟨_,rfl,ah (λr3=>?_) (λr3=>?_)⟩
   . have r3:0<=s.val (m.getD j 0):=by simpa using r3
     have O:=az.drew;refine O.zi (x:=.l i) rfl (by omega) rfl (by rw [aS];omega) λez _ bk=>⟨_,bk,O.zi (x:=.l i) rfl (by omega) rfl (by rw [aS];omega) λdT _ bn=>⟨_,bn,?_⟩⟩
     rw [aS,tn];refine O.J4 (x:=.l i) rfl (by omega) rfl (by rw [aS];omega) (y:=m.getD j 0) rfl rfl λeL cT cb=>cT.J4 (x:=.l i) rfl (by omega) rfl (by simp [aS];omega) (y:=m.getD 1 0) rfl rfl λJ ay c3=>?_;rw [aS,set_set,aS,tn,set_set] at ay;have dc:(m.set (Int.toNat 1) (m.getD j 0)).set j (m.getD 1 0)=tZ m 1 j:=rfl;rw [dc] at ay;have c0:Pw w J b H H (s.set (.l i) (tZ m 1 j)):=ag.drew.trans ⟨ay,(cb.mono λk _ e=>⟨.l i,e⟩).trans (c3.mono λk _ e=>⟨.l i,e⟩),λx _ hk=> .inl ⟨x,hk⟩⟩;generalize hX:m.getD j 0=X at*
     have hx:dN s.vars X:=by rw [<- hX];exact bc _ (bN (by omega))
     have ar:=hx.bd k.eG;have c7:=vN hx;have O:=ay.drew;have e1:(tZ m 1 j).getD 1 0=X:=by
      rw [np (by omega) (by omega)];by_cases e:1=j
      . omega
      . rw [if_neg e,if_pos rfl,hX]
     have Q:((s.set (.l i) (tZ m 1 j)).R (.w (aB X))).length<=4000000:=by rw [ao (by simp)];have:=hw (aB X);omega
     have Z:aB X<2* ((s.set (.l i) (tZ m 1 j)).vars+1):=c7;have dG:∀w3 q,Pw J.drew w3 b H (bH H (.w (aB X)) q) ((s.set (.l i) (tZ m 1 j)).set (.w (aB X)) ((s.set (.l i) (tZ m 1 j)).R (.w (aB X))++ [(i:Int)]))->
      ∃st br,Ending.returned (.tuple #[.bool false,.bool false])=.returned (.tuple #[.bool st,.bool br])/\∃s' H',wR s i m s' st br/\Pw w w3 b H H' s'/\KF s H H':=by
      intro w3 q P;have V:=wR.Ed (s:=s) (i:=i) (m:=m) j r j2 (by omega) (by rw [hX];exact r3);rw [hX] at V;rw [ao (by simp)] at P;refine ⟨_,_,rfl,_,_,V,c0.drew.trans P,λx eg c2=>?_⟩;exact aU (c2 X hx r3)
     have aw:∀ {a:Addr} {u:Value},J.drew.cell? a=some u->¬aG (H (.w (aB X))).p=some a.block->xR (aD (λk=>aG (H (.w (aB X))).p=some k) J.drew) a u:=λhc dh u' g=>dZ g hc dh;have bu: ¬aG (H (.w (aB X))).p=some b:=O.kc (x:=.w (aB X)) (by simp) (y:=.st) (by simp) rfl;have gm:∀ {w1:World},ak J.drew w1->aD (λk=>aG (H (.w (aB X))).p=some k) J.drew w1:=λg=>g.mono λ_ _ e=>e.elim;have U:∀ {K:Addr->Prop},(∀a,xR (aD (λk=>aG (H (.w (aB X))).p=some k) J.drew) a (H (.w (aB X))).v->K a)->aW (H .wa).p (H .wa).n (aB X:Int) 1 K:=λhk=>
      O.TG Z rfl rfl λa hb hc=>hk a (aw hc λe=>O.kc (x:=.w (aB X)) (by simp) (y:=.wa) (by simp) hb e)
     have an:∀ {K:Addr->Prop},(∀a,xR (aD (λk=>aG (H (.w (aB X))).p=some k) J.drew) a (.i X)->K a)->aW (H (.l i)).p (H (.l i)).n 1 1 K:=λhk=>by
      refine O.zi (x:=.l i) rfl (by omega) rfl (by rw [aS,vH];omega) λa hb hc=>hk a ?_;rw [aS] at hc;have e2:(tZ m 1 j).getD (Int.toNat 1) 0=X:=e1;rw [e2] at hc;exact aw hc λe=>O.kc (x:=.w (aB X)) (by simp) (y:=.l i) (by simp) hb e
     refine ⟨aD (λk=>aG (H (.w (aB X))).p=some k) J.drew,aD.refl _,_,rfl,_,_,_,aw (ae O.st rfl) (by rw [cV];exact bu),an λef b5=>⟨_,b5,_,rfl,_,_,_,aw (ae O.st rfl) (by rw [cV];exact bu),an λa45 b8=>⟨_,b8,?_⟩⟩⟩;refine ⟨(iq ar _).mono ?_,?_⟩
     . rintro e et ⟨rfl,rfl⟩;refine ⟨_,rfl,aD.refl _,(iq ar _).mono ?_,?_⟩
       . rintro e d' ⟨rfl,rfl⟩;exact ⟨_,rfl,aD.refl _,U λa50 ha=>⟨_,_,_,ha,λep dq a_=>⟨gm a_.mod,O.JG Z a_.mod a_.has Q dG rfl⟩⟩⟩
       . intro ea d6 ax;refine ⟨gm ax.mod,(iq ar _).mono ?_⟩;rintro e eu ⟨rfl,rfl⟩;exact ⟨_,rfl,gm ax.mod,U λd5 ha=>⟨_,_,_,ha,O.JG Z ax.mod ax.has Q dG rfl⟩⟩
     . intro er es ap;refine ⟨gm ap.mod,(iq ar _).mono ?_⟩;rintro e d8 ⟨rfl,rfl⟩;refine ⟨_,rfl,gm ap.mod,(iq ar _).mono ?_⟩;rintro e eN ⟨rfl,rfl⟩;exact ⟨_,rfl,gm ap.mod,U λel ha=>⟨_,_,_,ha,O.JG Z ap.mod ap.has Q dG rfl⟩⟩
   . have r3:s.val (m.getD j 0)<0:=by simpa using r3
     refine ⟨_,?_,j+1,wN,by omega,Y,rfl,rfl,λy y1 y2=>?_⟩
     . omega
     . by_cases e:y=j
       . rw [e];exact r3
       . exact ac y y1 (by omega)
 . have Y:j=N:=by rw [bx] at Y;simp at Y;omega
   subst Y;refine cP 0 rfl (by omega) λen bY=>⟨_,bY,(bb 0 (by omega)).mono ?_⟩
   rintro e eK ⟨rfl,rfl⟩;refine ⟨_,rfl,ah (λr3=>⟨true,true,rfl,_,H,.qZ (by simpa using r3) (λy y1 y2=>ac y y1 (by omega)),ag,kv⟩) λr3=>?_⟩;have r3:0<=s.val (m.getD 0 0):=by simpa using r3
   refine cP 0 rfl (by omega) λek b7=>⟨_,b7,(Gx az b3 (l:=m.getD 0 0) (bc _ (bN (by omega))) i).mono ?_⟩
   rintro e ew ⟨rfl,q,b'⟩;exact ⟨rfl,true,false,rfl,_,_,.unit (by omega) (λy y1 y2=>ac y y1 (by omega)),ag.trans b',λx hx _=>aU hx⟩
end
section
variable {s t u:aI} {l x y:Int}
def aI.aO (s:aI) (i:Nat):Prop:=i<s.nc/\s.gone i=false
def W1 (s:aI) (i D:Nat) (t:List Int):Prop:=∀x∈(s.R (.l i)).take 2,∀y∈(s.R (.l i)).take 2,x≠y-> -x∈(s.R .tr).take D->y∈t
structure aN (s:aI):Prop where
 eG:s.vars<=1048576
 Ka:s.nc<=262144
 va:(s.R .va).length=s.vars+1
 vb:∀i,(s.R .va).getD i 0=0\/(s.R .va).getD i 0=1\/(s.R .va).getD i 0= -1
 le:(s.R .le).length=s.vars+1
 rl:(s.R .re).length=s.vars+1
 tv:∀x∈s.R .tr,dN s.vars x
 nd:((s.R .tr).map bh).Nodup
 v1:∀x,dN s.vars x->(s.val x=1↔x∈s.R .tr)
 bl:∀j,j< (s.R .be).length->0<=(s.R .be).getD j 0/\(s.R .be).getD j 0< (s.R .tr).length
 bs:∀i j,i<j->j< (s.R .be).length->(s.R .be).getD i 0< (s.R .be).getD j 0
 dl:(s.R .ds).length=(s.R .be).length
 db:∀j,j< (s.R .be).length->0<=(s.R .ds).getD j 0/\(s.R .ds).getD j 0<=(s.R .be).getD j 0
 lv:∀p,p< (s.R .tr).length->s.bI ((s.R .tr).getD p 0)=((s.R .be).countP λe=>decide (e<=(p:Int)):Nat)
 Rc:∀p,p< (s.R .tr).length->(p:Int)∈s.R .be->s.m_ ((s.R .tr).getD p 0)= -1
 Qq:∀p,p< (s.R .tr).length->(p:Int) ∉ s.R .be->∃i:Nat,s.m_ ((s.R .tr).getD p 0)=i/\s.aO i/\(s.R .tr).getD p 0∈s.R (.l i)/\∀x∈s.R (.l i),x≠(s.R .tr).getD p 0-> -x∈(s.R .tr).take p
 dn:s.done<=(s.R .tr).length
 cv:∀i,s.aO i->∀x∈s.R (.l i),dN s.vars x
 cn:∀i,s.aO i->(s.R (.l i)).Nodup
 cl:∀i,s.aO i->(s.R (.l i)).length<=4096
 ca:∀i,s.aO i->∀x,x∈s.R (.l i)↔x∈s.R (.a i)
 al:∀i,(s.R (.a i)).length<=4096
 w1:∀j,∀c∈s.R (.w j),∃i:Nat,c=i/\s.aO i/\∃x∈(s.R (.l i)).take 2,aB x=j
 w2:∀i,s.aO i->∀x∈(s.R (.l i)).take 2,(i:Int)∈s.R (.w (aB x))
 w3:∀j,(s.R (.w j)).Nodup
 o1:∀c∈s.R .lo,∃i:Nat,c=i/\s.aO i
 o2:∀i,s.aO i->(s.R (.l i)).length<2->(i:Int)∈s.R .lo
 o3:(s.R .lo).Nodup
 wd:∀i,s.aO i->(i:Int) ∉ s.R .lo->W1 s i s.done (s.R .tr)
 wj:∀j,j< (s.R .be).length->∀i,s.aO i->(i:Int) ∉ s.R .lo->W1 s i ((s.R .ds).getD j 0).toNat ((s.R .tr).take ((s.R .be).getD j 0).toNat)
theorem pq {n:Nat} (h:dN n l):s.val (-l)= -s.val l:=by
 obtain ⟨h1,_,_⟩:=h;unfold aI.val;by_cases e:l<0
 . rw [if_pos e,if_neg (by omega)];omega
 . rw [if_neg e,if_pos (by omega),U_]
theorem wQ (h:bh x=bh y):x=y\/x= -y:=by
 unfold bh at h;split at h<;>split at h<;>omega
theorem kX (x:Int):bh (-x)=bh x:=by unfold bh;split<;>split<;>omega
theorem pS {n:Nat} {l:List Int} (Q:l.Nodup) (h:∀x∈l,0<=x/\x<n):l.length<=n:=by
 have inj:(l.map Int.toNat).Nodup:=by
  refine Wv.2 (Wr (λ{x y} O I J e=>?_) Q);have:=h x O;have:=h y I;exact J (by omega)
 have:=Vn inj (l₂:=List.range n) λy I=>by
  obtain ⟨x,O,rfl⟩:=L0.1 I;have:=h x O;exact Vj.2 (by omega)
 simpa using this
theorem aN.Ck (g:aN s):(s.R .tr).length<=s.vars:=by
 have h:=pS (n:=s.vars+1) (l:=0::(s.R .tr).map bh) (WV.2 ⟨λh=>by
  obtain ⟨x,I,e⟩:=L0.1 h;have:=(g.tv x I).bh;omega,g.nd⟩) λx I=>by
   rcases UI.1 I with rfl|I
   . omega
   . obtain ⟨y,J,rfl⟩:=L0.1 I;have:=(g.tv y J).bh;omega
 simpa using h
theorem aN.P_ (g:aN s):(s.R .be).length<=(s.R .tr).length:=by
 refine pS ?_ λx O=>?_
 . rw [List.nodup_iff_pairwise_ne,U2];intro i j hi I J;have:=g.bs i j J I;simp only [List.getD,Mb hi,Mb I,US] at this;omega
 . obtain ⟨j,I,e⟩:=I'.1 O;have:=g.bl j I;simp only [List.getD,Mb I,US,e] at this;exact this
theorem aN.wf (g:aN s):Wf s:=⟨g.eG,g.va,g.vb,g.le,g.rl,by have:=g.Ck;have:=g.P_;have:=g.eG;omega,by have:=g.Ck;have:=g.eG;omega,g.Ka⟩
theorem aN.wl (g:aN s) (j:Nat):(s.R (.w j)).length<=262144:=by
 refine UY (pS (n:=s.nc) (g.w3 j) λx I=>?_) g.Ka;obtain ⟨i,rfl,⟨hi,_⟩,_⟩:=g.w1 j x I;omega
theorem aN.TW (g:aN s):(s.R .lo).length<=262144:=by
 refine UY (pS (n:=s.nc) g.o3 λx I=>?_) g.Ka;obtain ⟨i,rfl,⟨hi,_⟩⟩:=g.o1 x I;omega
theorem aN.vm (g:aN s) (h:dN s.vars x):s.val x= -1↔ -x∈s.R .tr:=by
 rw [<- g.v1 _ h.neg,pq h];omega
theorem aN.v0 (g:aN s) (h:dN s.vars x):s.val x=0↔x ∉ s.R .tr/\ -x ∉ s.R .tr:=by
 have h1:=g.v1 x h;have I:=g.vm h;have:=aI.ri g.wf x;constructor
 . intro e;exact ⟨λm=>by have:=h1.2 m;omega,λm=>by have:=I.2 m;omega⟩
 . rintro ⟨a,b⟩;rcases this with e|e|e
   . exact e
   . exact absurd (h1.1 e) a
   . exact absurd (I.1 e) b
theorem aN.Ky (g:aN s) (h:dN s.vars x):s.val x<0↔ -x∈s.R .tr:=by
 rw [<- g.vm h];have:=aI.ri g.wf x;omega
theorem aN.Ub (g:aN s) (h:dN s.vars x):0<s.val x↔x∈s.R .tr:=by
 rw [<- g.v1 x h];have:=aI.ri g.wf x;omega
theorem aN.cons (g:aN s) (h:x∈s.R .tr): -x ∉ s.R .tr:=λe=>by
 have hv:=g.tv x h;have:=(g.v1 x hv).2 h;have:=(g.vm hv).2 e;omega
theorem aN.SO (g:aN s) {x:Int} (h:dN s.vars x) (O:s.val x<0):s.bI x<1048577:=by
 have hm:=(g.Ky h).1 O;obtain ⟨p,hp,e⟩:=I'.1 hm;have J:=g.lv p hp;have I:(s.R .tr).getD p 0= -x:=by simp [List.getD,hp,e]
 rw [I] at J;have Q:s.bI (-x)=s.bI x:=by unfold aI.bI;rw [kX]
 have U:=VK (p:=λe=>decide (e<=(p:Int))) (l:=s.R .be);have:=g.P_;have:=g.Ck;have:=g.eG;omega
theorem kG {r:Int} {y:Pt} (h1:y≠ .va) (J:y≠ .le) (I:y≠ .re) (O:y≠ .tr):(s.put l r).R y=s.R y:=by
 unfold aI.put;rw [ao O,ao I,ao J,ao h1]
theorem sF {r:Int}:(s.put l r).R .tr=s.R .tr++ [l]:=by unfold aI.put;rw [aS]
theorem Hj {r:Int}:(s.put l r).R .va=(s.R .va).set (bh l).toNat (if l<0 then -1 else 1):=by
 unfold aI.put;rw [ao (by simp),ao (by simp),ao (by simp),aS]
theorem Kg {r:Int}:(s.put l r).R .le=(s.R .le).set (bh l).toNat (s.R .be).length:=by
 unfold aI.put;rw [ao (by simp),ao (by simp),aS]
theorem LH {r:Int}:(s.put l r).R .re=(s.R .re).set (bh l).toNat r:=by
 unfold aI.put;rw [ao (by simp),aS]
theorem Po (g:(s.R .va).length=s.vars+1) {r:Int} (hl:dN s.vars l) (J:dN s.vars y):(s.put l r).val y=if bh y=bh l then (if y=l then 1 else -1) else s.val y:=by
 have a1:=hl.bh;have a2:=J.bh;obtain ⟨Q,_,_⟩:=J;obtain ⟨l0,_,_⟩:=hl;unfold aI.val;rw [Hj];by_cases e:y<0
 . have O:bh y= -y:=by unfold bh;rw [if_pos e]
   rw [if_pos e,if_pos e,kK (by omega)];by_cases I:bh y=bh l
   . rw [if_pos (show (-y).toNat=(bh l).toNat by omega),if_pos I];unfold bh at I;rw [if_pos e] at I;split at I
     . rename_i h;rw [if_pos h,if_pos (by omega)];rfl
     . rename_i h;rw [if_neg h,if_neg (by omega)]
   . rw [if_neg (show ¬(-y).toNat=(bh l).toNat by omega),if_neg I]
 . have O:bh y=y:=by unfold bh;rw [if_neg e]
   rw [if_neg e,if_neg e,kK (by omega)];by_cases I:bh y=bh l
   . rw [if_pos (show y.toNat=(bh l).toNat by omega),if_pos I];unfold bh at I;rw [if_neg e] at I;split at I
     . rename_i h;rw [if_pos h,if_neg (by omega)]
     . rename_i h;rw [if_neg h,if_pos (by omega)]
   . rw [if_neg (show ¬y.toNat=(bh l).toNat by omega),if_neg I]
theorem bE {l:List Int} {p:Nat} (h:p<l.length):l.getD p 0∈l:=by simp [List.getD,h]
theorem bX {l m:List Int} {p:Nat} (h:p<l.length):(l++m).getD p 0=l.getD p 0:=by
 simp only [y6];rw [UT h]
theorem cY {l:List Int} {x:Int}:(l++ [x]).getD l.length 0=x:=by simp [List.getD]
end
section
variable {s t u:aI} {l x y:Int}
theorem FB {l:List Int} {p:Int->Bool} (h:∀x∈l,p x=true):l.countP p=l.length:=List.countP_eq_length.2 h
theorem zj (g:aN s) (hl:dN s.vars l) (h0:s.val l=0) (ht:∀y,y≠ .be->y≠ .ds->t.R y=s.R y) (hv:t.vars=s.vars) (hn:t.nc=s.nc) (hg:t.gone=s.gone) (hd:t.done=s.done) {r:Int}
 (hb:(t.R .be=s.R .be/\t.R .ds=s.R .ds/\∃i:Nat,r=i/\s.aO i/\l∈s.R (.l i)/\∀x∈s.R (.l i),x≠l-> -x∈s.R .tr)\/(t.R .be=s.R .be++ [((s.R .tr).length:Int)]/\t.R .ds=s.R .ds++ [(s.done:Int)]/\r= -1)):
 aN (t.put l r):=by
 have eR:∀y,y≠ .va->y≠ .le->y≠ .re->y≠ .tr->y≠ .be->y≠ .ds->(t.put l r).R y=s.R y:=λy a1 a2 a3 a4 a5 a6=>by rw [kG a1 a2 a3 a4,ht y a5 a6]
 have U:(t.put l r).R .tr=s.R .tr++ [l]:=by rw [sF,ht _ (by simp) (by simp)]
 have V:(t.put l r).R .be=t.R .be:=kG (by simp) (by simp) (by simp) (by simp);have aw:(t.put l r).R .ds=t.R .ds:=kG (by simp) (by simp) (by simp) (by simp);have Z:∀i,(t.put l r).R (.l i)=s.R (.l i):=λi=>eR _ (by simp) (by simp) (by simp) (by simp) (by simp) (by simp);have ea:∀i,(t.put l r).R (.a i)=s.R (.a i):=λi=>eR _ (by simp) (by simp) (by simp) (by simp) (by simp) (by simp);have ew:∀i,(t.put l r).R (.w i)=s.R (.w i):=λi=>eR _ (by simp) (by simp) (by simp) (by simp) (by simp) (by simp);have aa:(t.put l r).R .lo=s.R .lo:=eR _ (by simp) (by simp) (by simp) (by simp) (by simp) (by simp);have O:∀i,(t.put l r).aO i↔s.aO i:=λi=>by show (i<t.nc/\t.gone i=false)↔_;rw [hn,hg];exact WK
 have X:(t.put l r).vars=s.vars:=hv;have b4:=hl.bh;have a_:(t.R .va).length=t.vars+1:=by rw [ht _ (by simp) (by simp),hv];exact g.va
 have eval:∀y,dN s.vars y->(t.put l r).val y=if bh y=bh l then (if y=l then 1 else -1) else s.val y:=λy hy=>by
  rw [Po a_ (by rw [hv];exact hl) (by rw [hv];exact hy),kx (s:=s) (ht _ (by simp) (by simp))]
 have a7:=(g.v0 hl).1 h0;have fr:∀x∈s.R .tr,bh x≠bh l:=λx I e=>by
  rcases wQ e with rfl|rfl
  . exact a7.1 I
  . exact a7.2 I
 have az:∀x,(t.put l r).bI x=if (bh x).toNat=(bh l).toNat then ((t.R .be).length:Int) else s.bI x:=λx=>by
  unfold aI.bI;rw [Kg,ht .le (by simp) (by simp),kK (by rw [g.le];omega)]
 have an:∀x,(t.put l r).m_ x=if (bh x).toNat=(bh l).toNat then r else s.m_ x:=λx=>by
  unfold aI.m_;rw [LH,ht .re (by simp) (by simp),kK (by rw [g.rl];omega)]
 have vY:∀p,p< (s.R .tr).length->¬(bh ((s.R .tr).getD p 0)).toNat=(bh l).toNat:=λp hp e=>by
  have:=g.tv _ (bE hp);have h2:=this.bh;exact fr _ (bE hp) (by omega)
 have bx:(t.R .be).length<=(s.R .be).length+1:=by rcases hb with ⟨e,_⟩| ⟨e,_⟩<;>rw [e]<;>simp
 have av:∀ {i D:Nat} {T T':List Int},W1 s i D T->D<=(s.R .tr).length->(∀y∈T,y∈T')->W1 (t.put l r) i D T':=λ{i D T T'} h hD hT x I y hy ac hm=>by
  rw [Z] at I hy;rw [U,UO hD] at hm;exact hT y (h x I y hy ac hm)
 refine ⟨by rw [X];exact g.eG,by show t.nc<=_;rw [hn];exact g.Ka,by rw [Hj,VT,X,a_,hv],?_,by rw [Kg,VT,X,ht _ (by simp) (by simp)];exact g.le,by rw [LH,VT,X,ht _ (by simp) (by simp)];exact g.rl,
  ?_,?_,?_,?_,?_,?_,?_,?_,?_,?_,?_,?_,?_,?_,?_,?_,?_,?_,?_,?_,?_,?_,?_,?_⟩
 . intro i;rw [Hj,ht _ (by simp) (by simp)];rw [kK (by rw [g.va];omega)];split
   . split<;>simp
   . exact g.vb i
 . intro x I;rw [U,F',Bs] at I;rw [X];rcases I with I|rfl
   . exact g.tv x I
   . exact hl
 . rw [U,LV,VQ];refine ⟨g.nd,by simp,λa ha c hc e=>?_⟩;obtain ⟨x,I,rfl⟩:=L0.1 ha;simp at hc;rw [hc] at e;exact fr x I e
 . intro x I;rw [X] at I;rw [eval x I,U,F',Bs];by_cases e:bh x=bh l
   . rw [if_pos e];by_cases Q:x=l
     . rw [if_pos Q];simp [Q]
     . rw [if_neg Q];constructor
       . intro h;omega
       . rintro (h|h)
         . exact absurd e (fr x h)
         . exact absurd h Q
   . rw [if_neg e,g.v1 x I];constructor
     . intro h;exact .inl h
     . rintro (h|h)
       . exact h
       . rw [h] at e;exact absurd rfl e
 . intro j J;rw [V] at J ⊢;rw [U,UH];rcases hb with ⟨e,_⟩| ⟨e,_⟩
   . rw [e] at J ⊢;have:=g.bl j J;simp only [U9,VE];omega
   . rw [e] at J ⊢;by_cases h:j< (s.R .be).length
     . rw [bX h];have:=g.bl j h;simp only [U9,VE];omega
     . have:j=(s.R .be).length:=by simp at J;omega
       rw [this,cY];simp;omega
 . intro i j a8 J;rw [V] at J ⊢;rcases hb with ⟨e,_⟩| ⟨e,_⟩
   . rw [e] at J ⊢;exact g.bs i j a8 J
   . rw [e] at J ⊢;by_cases h:j< (s.R .be).length
     . rw [bX h,bX (by omega)];exact g.bs i j a8 h
     . have:j=(s.R .be).length:=by simp at J;omega
       rw [this,cY,bX (by omega)];have:=g.bl i (by omega);omega
 . rw [V,aw];rcases hb with ⟨e,Q,_⟩| ⟨e,Q,_⟩
   . rw [e,Q];exact g.dl
   . rw [e,Q];simp [g.dl]
 . intro j J;rw [V] at J ⊢;rw [aw];have gl:=g.dl;rcases hb with ⟨e,Q,_⟩| ⟨e,Q,_⟩
   . rw [e] at J ⊢;rw [Q];exact g.db j J
   . rw [e] at J ⊢;rw [Q];by_cases h:j< (s.R .be).length
     . rw [bX h,bX (by omega)];exact g.db j h
     . have:j=(s.R .be).length:=by simp at J;omega
       rw [this,cY];rw [<- gl,cY];have:=g.dn;omega
 . intro p hp;rw [U] at hp ⊢;rw [V,az];by_cases h:p< (s.R .tr).length
   . rw [bX h,if_neg (vY p h),g.lv p h];rcases hb with ⟨e,_⟩| ⟨e,_⟩
     . rw [e]
     . have e9: [((s.R .tr).length:Int)].countP (λe=>decide (e<=(p:Int)))=0:=WD.2 λx I=>by
        rw [Bs] at I;rw [decide_eq_true_eq];omega
       rw [e,VY,e9,Ws]
   . have Y:p=(s.R .tr).length:=by simp at hp;omega
     rw [Y,cY,if_pos rfl,FB];intro x I;rw [decide_eq_true_eq];have key:∀x∈s.R .be,x< ((s.R .tr).length:Int):=λx I=>by
      obtain ⟨j,J,e⟩:=I'.1 I;have:=(g.bl j J).2;simp only [List.getD,Mb J,US,e] at this;exact this
     rcases hb with ⟨e,_⟩| ⟨e,_⟩
     . rw [e] at I;have:=key x I;omega
     . rw [e,F',Bs] at I;rcases I with I|rfl
       . have:=key x I;omega
       . exact U3 _
 . intro p hp hm;rw [U] at hp ⊢;rw [V] at hm;rw [an];by_cases h:p< (s.R .tr).length
   . rw [bX h,if_neg (vY p h)];refine g.Rc p h ?_;rcases hb with ⟨e,_⟩| ⟨e,_⟩
     . rw [e] at hm;exact hm
     . rw [e,F',Bs] at hm;rcases hm with hm|hm
       . exact hm
       . omega
   . have Y:p=(s.R .tr).length:=by simp at hp;omega
     rw [Y,cY,if_pos rfl];rw [Y] at hm;rcases hb with ⟨e,_⟩| ⟨e,_,e3⟩
     . exfalso;rw [e] at hm;obtain ⟨j,J,e⟩:=I'.1 hm;have:=(g.bl j J).2;simp only [List.getD,Mb J,US,e] at this;omega
     . exact e3
 . intro p hp hm;rw [U] at hp ⊢;rw [V] at hm;rw [an];by_cases h:p< (s.R .tr).length
   . rw [bX h,if_neg (vY p h)];have bc:(p:Int) ∉ s.R .be:=by
      rcases hb with ⟨e,_⟩| ⟨e,_⟩
      . rw [e] at hm;exact hm
      . rw [e] at hm;exact λh2=>hm (UW _ h2)
     obtain ⟨i,e1,Q,e3,e4⟩:=g.Qq p h bc;refine ⟨i,e1,(O i).2 Q,by rw [Z];exact e3,λx I ac=>?_⟩;rw [Z] at I;rw [UO (by omega)];exact e4 x I ac
   . have Y:p=(s.R .tr).length:=by simp at hp;omega
     rw [Y,cY,if_pos rfl];rw [Y] at hm;rcases hb with ⟨e,_,i,e1,Q,e3,e4⟩| ⟨e,_⟩
     . refine ⟨i,e1,(O i).2 Q,by rw [Z];exact e3,λx I ac=>?_⟩;rw [Z] at I;rw [UO (y4 _),K'];exact e4 x I ac
     . rw [e] at hm;exact absurd (Vt _ (by simp)) hm
 . show t.done<=_;rw [hd,U,UH];have:=g.dn;omega
 . intro i hi x I;rw [Z] at I;rw [X];exact g.cv i ((O i).1 hi) x I
 . intro i hi;rw [Z];exact g.cn i ((O i).1 hi)
 . intro i hi;rw [Z];exact g.cl i ((O i).1 hi)
 . intro i hi;rw [Z,ea];exact g.ca i ((O i).1 hi)
 . intro i;rw [ea];exact g.al i
 . intro j c hc;rw [ew] at hc;obtain ⟨i,e1,Q,e3⟩:=g.w1 j c hc;exact ⟨i,e1,(O i).2 Q,by rw [Z];exact e3⟩
 . intro i hi x I;rw [Z] at I;rw [ew];exact g.w2 i ((O i).1 hi) x I
 . intro j;rw [ew];exact g.w3 j
 . intro c hc;rw [aa] at hc;obtain ⟨i,e1,Q⟩:=g.o1 c hc;exact ⟨i,e1,(O i).2 Q⟩
 . intro i hi h;rw [Z] at h;rw [aa];exact g.o2 i ((O i).1 hi) h
 . rw [aa];exact g.o3
 . intro i hi h;rw [aa] at h;show W1 (t.put l r) i t.done _;rw [hd,U];exact av (g.wd i ((O i).1 hi) h) g.dn λy hy=>UW _ hy
 . intro j J i hi h;rw [aa] at h;rw [V] at J ⊢;rw [aw,U];have gl:=g.dl;have aT:∀j,j< (s.R .be).length->W1 (t.put l r) i ((s.R .ds).getD j 0).toNat ((s.R .tr++ [l]).take ((s.R .be).getD j 0).toNat):=λj J=>by
    have h1:=g.bl j J;have h2:=g.db j J;rw [UO (by omega)];exact av (g.wj j J i ((O i).1 hi) h) (by omega) λy hy=>hy
   rcases hb with ⟨e,Q,_⟩| ⟨e,Q,_⟩
   . rw [e] at J ⊢;rw [Q];exact aT j J
   . rw [e] at J ⊢;rw [Q];by_cases h2:j< (s.R .be).length
     . rw [bX h2,bX (by omega)];exact aT j h2
     . have:j=(s.R .be).length:=by simp at J;omega
       rw [this,cY,<- gl,cY,tn,tn,UO (y4 _),K'];exact av (g.wd i ((O i).1 hi) h) g.dn λy hy=>hy
end
section
variable {s t u:aI} {l x y:Int}
theorem nM (h:aB x=aB y):x=y:=by
 unfold aB at h;split at h<;>split at h<;>omega
theorem jE {l:List Int}:x∈l.take 2↔(0<l.length/\x=l.getD 0 0)\/(1<l.length/\x=l.getD 1 0):=by
 match l with
 | []=>simp
 | [a]=>simp [List.getD]
 |a::b::r=>simp [List.getD]
theorem qX (g:aN s) (hs:∀y,(∀i,y≠Pt.l i)->(∀j,y≠Pt.w j)->y≠ .lo->t.R y=s.R y) (hv:t.vars=s.vars) (hn:t.nc=s.nc) (hg:t.gone=s.gone) (hd:t.done=s.done)
 (pm:∀i,s.aO i->(t.R (.l i)).Perm (s.R (.l i)))
 (wm:∀j c,c∈t.R (.w j)↔∃i:Nat,c=i/\s.aO i/\∃x∈(t.R (.l i)).take 2,aB x=j) (wn:∀j,(t.R (.w j)).Nodup)
 (o1:∀c∈t.R .lo,∃i:Nat,c=i/\s.aO i) (o2:∀i,s.aO i->(s.R (.l i)).length<2->(i:Int)∈t.R .lo) (o3:(t.R .lo).Nodup)
 (wz:∀i,s.aO i->(i:Int) ∉ t.R .lo->((i:Int) ∉ s.R .lo/\∀x,x∈(t.R (.l i)).take 2↔x∈(s.R (.l i)).take 2)\/
   ∀x∈(t.R (.l i)).take 2,-x ∉ (s.R .tr).take s.done/\∀j,j< (s.R .be).length-> -x ∉ (s.R .tr).take ((s.R .ds).getD j 0).toNat):aN t:=by
 have e:∀y,(∀i,y≠Pt.l i)->(∀j,y≠Pt.w j)->y≠ .lo->t.R y=s.R y:=hs;have J:t.R .tr=s.R .tr:=e _ (by simp) (by simp) (by simp);have O:t.R .be=s.R .be:=e _ (by simp) (by simp) (by simp);have X:t.R .ds=s.R .ds:=e _ (by simp) (by simp) (by simp);have Y:t.R .va=s.R .va:=e _ (by simp) (by simp) (by simp);have aa:t.R .le=s.R .le:=e _ (by simp) (by simp) (by simp);have an:t.R .re=s.R .re:=e _ (by simp) (by simp) (by simp);have ea:∀i,t.R (.a i)=s.R (.a i):=λi=>e _ (by simp) (by simp) (by simp);have I:∀i,t.aO i↔s.aO i:=λi=>by show (i<t.nc/\t.gone i=false)↔_;rw [hn,hg];exact WK
 have ev:∀x,t.val x=s.val x:=λx=>kx Y x;have ag:∀x,t.bI x=s.bI x:=λx=>by unfold aI.bI;rw [aa]
 have V:∀x,t.m_ x=s.m_ x:=λx=>by unfold aI.m_;rw [an]
 refine ⟨by rw [hv];exact g.eG,by rw [hn];exact g.Ka,by rw [Y,hv];exact g.va,by rw [Y];exact g.vb,by rw [aa,hv];exact g.le,by rw [an,hv];exact g.rl,by rw [J,hv];exact g.tv,by rw [J];exact g.nd,λx Q=>by rw [ev,J];exact g.v1 x (by rw [hv] at Q;exact Q),
  by rw [O,J];exact g.bl,by rw [O];exact g.bs,by rw [X,O];exact g.dl,by rw [O,X];exact g.db,λp hp=>by rw [J] at hp ⊢;rw [ag,O];exact g.lv p hp,λp hp hm=>by rw [J] at hp ⊢;rw [V];rw [O] at hm;exact g.Rc p hp hm,
  λp hp hm=>?_,by rw [hd,J];exact g.dn,λi hi x Q=>by rw [hv];exact g.cv i ((I i).1 hi) x ((pm i ((I i).1 hi)).mem_iff.1 Q),λi hi=> (pm i ((I i).1 hi)).nodup_iff.2 (g.cn i ((I i).1 hi)),
  λi hi=>by rw [(pm i ((I i).1 hi)).length_eq];exact g.cl i ((I i).1 hi),λi hi x=>by rw [(pm i ((I i).1 hi)).mem_iff,ea];exact g.ca i ((I i).1 hi) x,λi=>by rw [ea];exact g.al i,
  λj c hc=>?_,λi hi x Q=>?_,wn,λc hc=>?_,λi hi h=>?_,o3,λi hi h=>?_,λj hj i hi h=>?_⟩
 . rw [J] at hp ⊢;rw [O] at hm;obtain ⟨i,e1,Z,e3,e4⟩:=g.Qq p hp hm;exact ⟨i,by rw [V];exact e1,(I i).2 Z,(pm i Z).mem_iff.2 e3,λx Q U=>e4 x ((pm i Z).mem_iff.1 Q) U⟩
 . obtain ⟨i,e1,Z,e3⟩:=(wm j c).1 hc;exact ⟨i,e1,(I i).2 Z,e3⟩
 . exact (wm _ _).2 ⟨i,rfl,(I i).1 hi,x,Q,rfl⟩
 . obtain ⟨i,e1,Z⟩:=o1 c hc;exact ⟨i,e1,(I i).2 Z⟩
 . rw [(pm i ((I i).1 hi)).length_eq] at h;exact o2 i ((I i).1 hi) h
 . intro x Q y hy U hm;rw [J,hd] at hm;rw [J];rcases wz i ((I i).1 hi) h with ⟨h1,h2⟩|h1
   . exact g.wd i ((I i).1 hi) h1 x ((h2 x).1 Q) y ((h2 y).1 hy) U hm
   . exact absurd hm (h1 x Q).1
 . intro x Q y hy U hm;rw [O] at hj;rw [J,X] at hm;rw [J,O];rcases wz i ((I i).1 hi) h with ⟨h1,h2⟩|h1
   . exact g.wj j hj i ((I i).1 hi) h1 x ((h2 x).1 Q) y ((h2 y).1 hy) U hm
   . exact absurd hm ((h1 x Q).2 j hj)
theorem aN.wm (g:aN s) (j:Nat) (c:Int):c∈s.R (.w j)↔∃i:Nat,c=i/\s.aO i/\∃x∈(s.R (.l i)).take 2,aB x=j:=
 ⟨g.w1 j c,λ⟨i,Q,J,x,I,O⟩=>by subst Q O;exact g.w2 i J x I⟩
theorem yx (i:Int) (j:Nat) (c:Int):∀ (J:List Int) (t:aI),c∈(oW i t J).R (.w j)↔c∈t.R (.w j)/\(c≠i\/∀x∈J,aB x≠j)
 | [],t=>by simp [oW]
 |z::J,t=>by
  show c∈(oW i (t.set (.w (aB z)) ((t.R (.w (aB z))).filter λk=> !(k==i))) J).R (.w j)↔_;rw [yx i j c J];by_cases e:aB z=j
  . subst e;rw [aS,U8];simp only [UI,Wc,beq_eq_false_iff_ne,ne_eq];constructor
    . rintro ⟨⟨h1,I⟩,_⟩;exact ⟨h1,.inl I⟩
    . rintro ⟨h1,I|I⟩
      . exact ⟨⟨h1,I⟩,.inl I⟩
      . exact absurd rfl (I z (.inl rfl))
  . rw [ao (λh=>e (by injection h with h;exact h.symm))];simp only [UI,ne_eq];constructor
    . rintro ⟨h1,I|I⟩
      . exact ⟨h1,.inl I⟩
      . refine ⟨h1,.inr λx O=>?_⟩;rcases O with rfl|O
        . exact e
        . exact I x O
    . rintro ⟨h1,I|I⟩
      . exact ⟨h1,.inl I⟩
      . exact ⟨h1,.inr λx O=>I x (.inr O)⟩
theorem vR (i:Int) (j:Nat):∀ (I:List Int) (t:aI),(t.R (.w j)).Nodup->((oW i t I).R (.w j)).Nodup
 | [],_,h=>h
 |z::I,t,h=>by
  refine vR i j I _ ?_;by_cases e:aB z=j
  . subst e;rw [aS];exact h.filter _
  . rw [ao (λh=>e (by injection h with h;exact h.symm))];exact h
theorem Gj (i:Int) (j:Nat) (c:Int):∀ (O:List Int) (t:aI),c∈(wF i t O).R (.w j)↔c∈t.R (.w j)\/(c=i/\∃x∈O,aB x=j)
 | [],t=>by simp [wF]
 |z::O,t=>by
  show c∈(wF i (t.set (.w (aB z)) (t.R (.w (aB z))++ [i])) O).R (.w j)↔_;rw [Gj i j c O];by_cases e:aB z=j
  . subst e;rw [aS,F',Bs];constructor
    . rintro ((h|h)| ⟨h,x,J,I⟩)
      . exact .inl h
      . exact .inr ⟨h,z,UJ ..,rfl⟩
      . exact .inr ⟨h,x,vy _ J,I⟩
    . rintro (h| ⟨h,_⟩)
      . exact .inl (.inl h)
      . exact .inl (.inr h)
  . rw [ao (λh=>e (by injection h with h;exact h.symm))];constructor
    . rintro (h| ⟨h,x,J,I⟩)
      . exact .inl h
      . exact .inr ⟨h,x,vy _ J,I⟩
    . rintro (h| ⟨h,x,J,I⟩)
      . exact .inl h
      . rcases UI.1 J with rfl|J
        . exact absurd I e
        . exact .inr ⟨h,x,J,I⟩
theorem ui {l:List Int} {a:Int} (h:l.Nodup) (ha:a ∉ l):(l++ [a]).Nodup:=by
 rw [VQ];refine ⟨h,by simp,λx J y I e=>?_⟩;rw [Bs] at I;rw [e,I] at J;exact ha J
theorem vI (i:Int) (j:Nat):∀ (O:List Int) (t:aI),O.Nodup->(t.R (.w j)).Nodup->((∃x∈O,aB x=j)->i ∉ t.R (.w j))->((wF i t O).R (.w j)).Nodup
 | [],_,_,h,_=>h
 |z::O,t,hx,h,hi=>by
  obtain ⟨U,Q⟩:=WV.1 hx;by_cases e:aB z=j
  . subst e;refine vI i _ O _ Q ?_ ?_
    . rw [aS];exact ui h (hi ⟨z,UJ ..,rfl⟩)
    . rintro ⟨x,I,J⟩;rw [nM J] at I;exact absurd I U
  . refine vI i j O _ Q ?_ ?_
    . rw [ao (λh=>e (by injection h with h;exact h.symm))];exact h
    . rintro ⟨x,I,J⟩;rw [ao (λh=>e (by injection h with h;exact h.symm))];exact hi ⟨x,vy _ I,J⟩
theorem xF {l:List Int} (h:l.Nodup):(l.take 2).Nodup:=(List.take_sublist 2 l).nodup h
end
section
variable {s t u s':aI} {l x y:Int} {i:Nat}
structure j7 (s s':aI):Prop where
 v:s'.vars=s.vars
 n:s'.nc=s.nc
 g:s'.gone=s.gone
 a:∀i,s'.R (.a i)=s.R (.a i)
 be:s'.R .be=s.R .be
 ds:s'.R .ds=s.R .ds
 tr:∃e,s'.R .tr=s.R .tr++e
theorem j7.refl (s:aI):j7 s s:=⟨rfl,rfl,rfl,λ_=>rfl,rfl,rfl,[],by simp⟩
theorem j7.trans (h:j7 s t) (k:j7 t u):j7 s u:=by
 obtain ⟨e,he⟩:=h.tr;obtain ⟨J,I⟩:=k.tr;exact ⟨k.v.trans h.v,k.n.trans h.n,k.g.trans h.g,λi=> (k.a i).trans (h.a i),k.be.trans h.be,k.ds.trans h.ds,e++J,by rw [I,he,U6]⟩
theorem j7.mem (h:j7 s t) (I:x∈s.R .tr):x∈t.R .tr:=by
 obtain ⟨e,he⟩:=h.tr;rw [he];exact UW _ I
theorem j7.lW (h:j7 s t):t.aO i↔s.aO i:=by
 show (i<t.nc/\t.gone i=false)↔_;rw [h.n,h.g];exact WK
theorem j7.set {x:Pt} (h1:∀i,x≠ .a i) (J:x≠ .be) (I:x≠ .ds) (O:x≠ .tr) {l:List Int}:j7 s (s.set x l):=
 ⟨rfl,rfl,rfl,λi=>ao (λe=>h1 i e.symm),ao (Vc J),ao (Vc I),[],by rw [ao (Vc O)];simp⟩
theorem j7.put {r:Int}:j7 s (s.put l r):=
 ⟨rfl,rfl,rfl,λ_=>kG (by simp) (by simp) (by simp) (by simp),kG (by simp) (by simp) (by simp) (by simp),kG (by simp) (by simp) (by simp) (by simp),[l],sF⟩
theorem j7.wF {c:Int} {I:List Int}:j7 s (wF c s I):=by
 obtain ⟨h1,O,J,_⟩:=qP c I s;exact ⟨h1,O,J,λ_=>rX c (by simp) _ _,rX c (by simp) _ _,rX c (by simp) _ _,[],by rw [rX c (by simp)];simp⟩
theorem j7.oW {c:Int} {I:List Int}:j7 s (oW c s I):=by
 obtain ⟨h1,O,J,_⟩:=jk c I s;exact ⟨h1,O,J,λ_=>jL c (by simp) _ _,jL c (by simp) _ _,jL c (by simp) _ _,[],by rw [jL c (by simp)];simp⟩
theorem xd {l:List Int} {f:Int}:x∈(kI l f).take 2↔x∈l.take 2:=by
 unfold kI;split
 . rename_i h;rw [jE,jE,vH,np (by omega) h.2,np (by omega) h.2];simp only [if_pos,if_neg (show (0:Nat)≠1 by omega),if_neg (show (1:Nat)≠0 by omega)];constructor
   . rintro (⟨a,b⟩| ⟨a,b⟩)
     . exact .inr ⟨h.2,b⟩
     . exact .inl ⟨by omega,b⟩
   . rintro (⟨a,b⟩| ⟨a,b⟩)
     . exact .inr ⟨h.2,b⟩
     . exact .inl ⟨by omega,b⟩
 . exact WK
theorem IX {l:List Int} {f:Int} (I:2<=l.length) (hf:f∈l.take 2):(kI l f).getD 1 0=f:=by
 unfold kI;rcases jE.1 hf with ⟨_,e⟩| ⟨_,e⟩
 . rw [if_pos ⟨e.symm,by omega⟩,np (by omega) (by omega),if_pos rfl,e]
 . split
   . rename_i h;rw [np (by omega) (by omega),if_pos rfl,h.1]
   . exact e.symm
theorem Gc (g:aN s) (i:Nat) (f:Int):aN (s.set (.l i) (kI (s.R (.l i)) f)):=by
 have V:∀k,(s.set (.l i) (kI (s.R (.l i)) f)).R (.l k)=if k=i then kI (s.R (.l i)) f else s.R (.l k):=λk=>by
  by_cases e:k=i
  . rw [if_pos e,e,aS]
  . rw [if_neg e,ao (by simpa using e)]
 have I:∀k x,x∈((s.set (.l i) (kI (s.R (.l i)) f)).R (.l k)).take 2↔x∈(s.R (.l k)).take 2:=λk x=>by
  rw [V];split
  . rename_i e;rw [e];exact xd
  . exact WK
 refine qX g (λy h1 _ _=>ao (h1 i)) rfl rfl rfl rfl (λk _=>?_) (λj c=>?_) (λj=>by rw [ao (by simp)];exact g.w3 j) (by rw [ao (by simp)];exact g.o1) (by rw [ao (by simp)];exact g.o2) (by rw [ao (by simp)];exact g.o3)
  (λk _ h=> .inl ⟨by rw [ao (by simp)] at h;exact h,I k⟩)
 . rw [V];split
   . rename_i e;rw [e];exact qY _ _
   . exact Xk _
 . rw [ao (by simp),g.wm];constructor
   . rintro ⟨k,U,O,x,Q,J⟩;exact ⟨k,U,O,x,(I k x).2 Q,J⟩
   . rintro ⟨k,U,O,x,Q,J⟩;exact ⟨k,U,O,x,(I k x).1 Q,J⟩
def Pg (s:aI) (i:Nat):Prop:=(i:Int) ∉ s.R .lo->W1 s i (s.done+1) (s.R .tr)
theorem dS {l:List Int} {n:Nat} (h:n<l.length):x∈l.take (n+1)↔x∈l.take n\/x=l.getD n 0:=dJ h
theorem RK {r:Int} (h:Pg s i) (U:s.done< (s.R .tr).length):Pg (s.put l r) i:=by
 intro I x Q y O J hm;rw [kG (by simp) (by simp) (by simp) (by simp)] at I Q O;rw [sF] at hm ⊢;have hm: -x∈(s.R .tr++ [l]).take (s.done+1):=hm;rw [UO (show s.done+1<=_ from U)] at hm;exact UW _ (h I x Q y O J hm)
theorem AH (g:aN s) (hi:s.aO i) (h2:2<=(s.R (.l i)).length) {f:Int} (hf:f∈(s.R (.l i)).take 2) (hd:s.done< (s.R .tr).length) (hp:(s.R .tr).getD s.done 0= -f) {st br:Bool} (V:wR s i (kI (s.R (.l i)) f) s' st br)
 {r:List Int} (bu:st=true->r=s.R (.w (aB f))) (b5:st=false->(∀c,c∈r↔c∈s.R (.w (aB f))/\c≠(i:Int))/\r.Nodup):
 aN (s'.set (.w (aB f)) r)/\(br=false->Pg (s'.set (.w (aB f)) r) i)/\(∀k,k≠i->Pg s k->Pg (s'.set (.w (aB f)) r) k)/\j7 s (s'.set (.w (aB f)) r)/\(br=true->∀x∈s.R (.l i),-x∈s.R .tr)/\
  s'.R .lo=s.R .lo/\s'.done=s.done/\(∀j,j≠aB f->∀c,c∈s.R (.w j)->c∈s'.R (.w j))/\(∀k,k≠i->s'.R (.l k)=s.R (.l k))/\(∀x,x∈s'.R (.l i)↔x∈s.R (.l i)):=by
 have b7:f∈s.R (.l i):=UN hf;have b_:=g.cv i hi f b7;have ay: -f∈s.R .tr:=by rw [<- hp];exact bE hd
 have b3:f ∉ s.R .tr:=λe=>g.cons e ay;have av:=IX h2 hf;have cT:=BQ (s.R (.l i)) f;have U:=qY (s.R (.l i)) f;have aw:∀x,x∈(kI (s.R (.l i)) f).take 2↔x∈(s.R (.l i)).take 2:=λx=>xd;have gm:=Gc g i f;generalize kI (s.R (.l i)) f=m at*
 have bb:m.Nodup:=U.nodup_iff.2 (g.cn i hi);have a_:m.getD 0 0≠f:=λe=>by
  have:=(V9 (h₀:=show 0<m.length by omega) (h₁:=show 1<m.length by omega) bb).1 (by
   have e0:m.getD 0 0=m[0]:=by simp [List.getD,show 0<m.length by omega]
   have e1:m.getD 1 0=m[1]:=by simp [List.getD,show 1<m.length by omega]
   rw [<- e0,<- e1,e,av])
  omega
 have bf:m.getD 0 0∈m:=bE (by omega);have bc:dN s.vars (m.getD 0 0):=g.cv i hi _ (U.mem_iff.1 bf);have same:st=true->s'.R (.w (aB f))=s.R (.w (aB f))->s'.set (.w (aB f)) r=s':=λh e=>by rw [bu h,<- e,fO]
 have tm:∀x,x∈m.take 2↔x=m.getD 0 0\/x=f:=λx=>by
  rw [jE,av];exact ⟨λh=>h.elim (λh=> .inl h.2) λh=> .inr h.2,λh=>h.elim (λh=> .inl ⟨by omega,h⟩) λh=> .inr ⟨by omega,h⟩⟩
 have Z:∀k,k≠i->Pg s k->Pg (s.set (.l i) m) k:=λk hk h J x I y hy O hm=>by
  rw [ao (by simp)] at J;rw [ao (by simpa using hk)] at I hy;rw [ao (by simp)] at hm ⊢;exact h J x I y hy O hm
 cases V with
 |Th h=>
  have e:(s.set (.l i) m).R (.w (aB f))=s.R (.w (aB f)):=ao (by simp);rw [same rfl e];have an:=(g.Ub bc).1 h;refine ⟨gm,λ_ J x I y hy O hm=>?_,Z,j7.set (by simp) (by simp) (by simp) (by simp),λh=> (by cases h),ao (by simp),rfl,λj _ c hc=> (by rw [ao (by simp)];exact hc),λk hk=>ao (by simpa using hk),λx=>by rw [aS];exact U.mem_iff⟩;rw [aS] at I hy;rw [ao (by simp)] at hm ⊢;rcases (tm x).1 I with rfl|rfl
  . exact absurd (UN hm) (g.cons an)
  . rcases (tm y).1 hy with rfl|rfl
    . exact an
    . exact absurd rfl O
 |qZ h ag=>
  have e:(s.set (.l i) m).R (.w (aB f))=s.R (.w (aB f)):=ao (by simp);rw [same rfl e];refine ⟨gm,λh=> (by cases h),Z,j7.set (by simp) (by simp) (by simp) (by simp),λ_ x I=>?_,ao (by simp),rfl,λj _ c hc=> (by rw [ao (by simp)];exact hc),λk hk=>ao (by simpa using hk),λx=>by rw [aS];exact U.mem_iff⟩;have bx:=U.mem_iff.2 I;obtain ⟨j,hj,e⟩:=I'.1 bx;have X:m.getD j 0=x:=by simp [List.getD,hj,e]
  have ax:=g.cv i hi x I
  match j,X with
  |0,X=>rw [X] at h;exact (g.Ky ax).1 h
  |1,X=>rw [av] at X;rw [<- X];exact ay
  |j+2,X=>have:=ag (j+2) (by omega) hj;rw [X] at this;exact (g.Ky ax).1 this
 |unit h ag=>
  have e:((s.set (.l i) m).put (m.getD 0 0) i).R (.w (aB f))=s.R (.w (aB f)):=by rw [kG (by simp) (by simp) (by simp) (by simp),ao (by simp)]
  rw [same rfl e];have ev:(s.set (.l i) m).val (m.getD 0 0)=0:=by rw [kx (s:=s) (ao (by simp))];exact h
  have cb:∀x∈m,x≠m.getD 0 0-> -x∈s.R .tr:=λx I O=>by
   obtain ⟨j,hj,e⟩:=I'.1 I;have X:m.getD j 0=x:=by simp [List.getD,hj,e]
   have ax:=g.cv i hi x (U.mem_iff.1 I)
   match j,X with
   |0,X=>exact absurd X.symm O
   |1,X=>rw [av] at X;rw [<- X];exact ay
   |j+2,X=>have:=ag (j+2) (by omega) hj;rw [X] at this;exact (g.Ky ax).1 this
  have gp:aN ((s.set (.l i) m).put (m.getD 0 0) i):=zj gm bc ev (λ_ _ _=>rfl) rfl rfl rfl rfl (.inl ⟨rfl,rfl,i,rfl,hi,by rw [aS];exact bf,λx I O=>by
   rw [aS] at I;rw [ao (by simp)];exact cb x I O⟩)
  have xt:j7 s ((s.set (.l i) m).put (m.getD 0 0) i):=(j7.set (by simp) (by simp) (by simp) (by simp)).trans j7.put;refine ⟨gp,λ_ J x I y hy O hm=>?_,λk hk h=>RK (Z k hk h) (by rw [ao (by simp)];exact hd),xt,λh=> (by cases h),by rw [kG (by simp) (by simp) (by simp) (by simp),ao (by simp)],rfl,
   λj _ c hc=> (by rw [kG (by simp) (by simp) (by simp) (by simp),ao (by simp)];exact hc),λk hk=>by rw [kG (by simp) (by simp) (by simp) (by simp)];exact ao (by simpa using hk),λx=>by rw [kG (by simp) (by simp) (by simp) (by simp),aS];exact U.mem_iff⟩
  rw [kG (by simp) (by simp) (by simp) (by simp),aS] at I hy;have an:m.getD 0 0∈((s.set (.l i) m).put (m.getD 0 0) i).R .tr:=by rw [sF];simp
  rcases (tm x).1 I with rfl|rfl
  . exact absurd (UN hm) (gp.cons an)
  . rcases (tm y).1 hy with rfl|rfl
    . exact an
    . exact absurd rfl O
 |Ed k hn k2 kl hk=>
  obtain ⟨hr,cc⟩:=b5 rfl;have b6:m.getD k 0∈m:=bE kl;generalize hz:m.getD k 0=z at*
  have b8:=g.cv i hi z (U.mem_iff.1 b6);have bk:z≠f:=λe=>by
   have:=(g.Ky b_).2 ay;rw [<- e] at this;omega
  have bY:z ∉ m.take 2:=λe=>by
   rcases (tm z).1 e with e|e
   . have:=(V9 (h₀:=show 0<m.length by omega) (h₁:=kl) bb).1 (by
      have e0:m.getD 0 0=m[0]:=by simp [List.getD,show 0<m.length by omega]
      have e1:m.getD k 0=m[k]:=by simp [List.getD,kl]
      rw [<- e0,<- e1,hz,e])
     omega
   . exact bk e
  have bv:aB z≠aB f:=λe=>bk (nM e);have t2:∀x,x∈(tZ m 1 k).take 2↔x=m.getD 0 0\/x=z:=λx=>by
   have e0:(tZ m 1 k).getD 0 0=m.getD 0 0:=by rw [np (by omega) (by omega),if_neg (by omega),if_neg (by omega)]
   have e1:(tZ m 1 k).getD 1 0=z:=by rw [np (by omega) (by omega),if_neg (by omega),if_pos rfl,hz]
   rw [jE,vH,e0,e1];exact ⟨λh=>h.elim (λh=> .inl h.2) λh=> .inr h.2,λh=>h.elim (λh=> .inl ⟨by omega,h⟩) λh=> .inr ⟨by omega,h⟩⟩
  have bi:(tZ m 1 k).Perm (s.R (.l i)):=(yU (by omega) kl).trans U;have a7: -z ∉ s.R .tr:=λe=>by have:=(g.Ky b8).2 e;omega
  have Q:∀y,(∀i,y≠Pt.l i)->(∀j,y≠Pt.w j)->(((s.set (.l i) (tZ m 1 k)).set (.w (aB z)) (s.R (.w (aB z))++ [(i:Int)])).set (.w (aB f)) r).R y=s.R y:=λy h1 h2=>by
   rw [ao (h2 _),ao (h2 _),ao (h1 _)]
  have el:∀q,(((s.set (.l i) (tZ m 1 k)).set (.w (aB z)) (s.R (.w (aB z))++ [(i:Int)])).set (.w (aB f)) r).R (.l q)=if q=i then tZ m 1 k else s.R (.l q):=λq=>by
   rw [ao (by simp),ao (by simp)];by_cases e:q=i
   . rw [if_pos e,e,aS]
   . rw [if_neg e,ao (by simpa using e)]
  have ew:∀j c,c∈(((s.set (.l i) (tZ m 1 k)).set (.w (aB z)) (s.R (.w (aB z))++ [(i:Int)])).set (.w (aB f)) r).R (.w j)↔(c∈s.R (.w j)/\(j=aB f->c≠(i:Int)))\/(j=aB z/\c=(i:Int)):=λj c=>by
   by_cases e:j=aB f
   . subst e;rw [aS,hr];exact ⟨λh=> .inl ⟨h.1,λ_=>h.2⟩,λh=>h.elim (λh=>⟨h.1,h.2 rfl⟩) λh=>absurd h.1.symm bv⟩
   . rw [ao (by simpa using e)];by_cases Y:j=aB z
     . subst Y;rw [aS,F',Bs];exact ⟨λh=>h.elim (λh=> .inl ⟨h,λh=>absurd h e⟩) λh=> .inr ⟨rfl,h⟩,λh=>h.elim (λh=> .inl h.1) λh=> .inr h.2⟩
     . rw [ao (by simpa using Y),ao (by simp)];exact ⟨λh=> .inl ⟨h,λh=>absurd h e⟩,λh=>h.elim (λh=>h.1) λh=>absurd h.1 Y⟩
  have b9:(i:Int) ∉ s.R (.w (aB z)):=λe=>by
   obtain ⟨q,e1,Y,x,I,e3⟩:=g.w1 _ _ e;have:q=i:=by omega
   subst this;rw [nM e3] at I;exact bY ((aw z).2 I)
  have kc:(i:Int) ∉ s.R .lo->(∀D,(∀x∈(s.R (.l i)).take 2,∀y∈(s.R (.l i)).take 2,x≠y-> -x∈(s.R .tr).take D->y∈s.R .tr)-> -(m.getD 0 0) ∉ (s.R .tr).take D):=λ_ D h hm=>by
   have:=h (m.getD 0 0) ((aw _).1 ((tm _).2 (.inl rfl))) f hf a_ hm;exact b3 this
  have G':aN (((s.set (.l i) (tZ m 1 k)).set (.w (aB z)) (s.R (.w (aB z))++ [(i:Int)])).set (.w (aB f)) r):=by
   refine qX g (λy h1 h2 _=>Q y h1 h2) rfl rfl rfl rfl (λq _=>?_) (λj c=>?_) (λj=>?_) (by rw [Q _ (by simp) (by simp)];exact g.o1) (by rw [Q _ (by simp) (by simp)];exact g.o2) (by rw [Q _ (by simp) (by simp)];exact g.o3) (λq hq J=>?_)
   . rw [el];split
     . rename_i e;rw [e];exact bi
     . exact Xk _
   . rw [ew,g.wm];constructor
     . rintro (⟨⟨q,e1,Y,x,I,e3⟩,h⟩| ⟨e1,Y⟩)
       . refine ⟨q,e1,Y,?_⟩;rw [el];by_cases e:q=i
         . subst e;rw [if_pos rfl];rcases (tm x).1 ((aw x).2 I) with rfl|rfl
           . exact ⟨_,(t2 _).2 (.inl rfl),e3⟩
           . exact absurd e1 (h e3.symm)
         . rw [if_neg e];exact ⟨x,I,e3⟩
       . exact ⟨i,Y,hi,z,by rw [el,if_pos rfl];exact (t2 _).2 (.inr rfl),e1.symm⟩
     . rintro ⟨q,e1,Y,x,I,e3⟩;rw [el] at I;by_cases e:q=i
       . subst e;rw [if_pos rfl] at I;rcases (t2 x).1 I with rfl|rfl
         . refine .inl ⟨⟨q,e1,Y,_,(aw _).1 ((tm _).2 (.inl rfl)),e3⟩,λh=>?_⟩;exact absurd (nM (e3.trans h)) a_
         . exact .inr ⟨e3.symm,e1⟩
       . rw [if_neg e] at I;exact .inl ⟨⟨q,e1,Y,x,I,e3⟩,λ_ h=>e (by omega)⟩
   . by_cases e:j=aB f
     . subst e;rw [aS];exact cc
     . rw [ao (by simpa using e)];by_cases Y:j=aB z
       . subst Y;rw [aS];exact ui (g.w3 _) b9
       . rw [ao (by simpa using Y),ao (by simp)];exact g.w3 j
   . rw [Q _ (by simp) (by simp)] at J;rw [el];by_cases e:q=i
     . subst e;rw [if_pos rfl];refine .inr λx I=>?_;rcases (t2 x).1 I with rfl|rfl
       . exact ⟨kc J _ (g.wd q hi J),λj hj=>kc J _ λx I y hy O hm=>UN (g.wj j hj q hi J x I y hy O hm)⟩
       . exact ⟨λh=>a7 (UN h),λj _ h=>a7 (UN h)⟩
     . rw [if_neg e];exact .inl ⟨J,λ_=>WK⟩
  refine ⟨G',λ_ J x I y hy O hm=>?_,λq hq h J x I y hy O hm=>?_,?_,λh=> (by cases h),by rw [ao (by simp),ao (by simp)],rfl,λj hj c hc=>?_,λq hq=>by rw [ao (by simp),ao (by simpa using hq)],λx=>by rw [ao (by simp),aS];exact bi.mem_iff⟩
  . rw [Q _ (by simp) (by simp)] at J hm ⊢;rw [el,if_pos rfl] at I hy;have hm: -x∈(s.R .tr).take (s.done+1):=hm;exfalso;rcases (t2 x).1 I with rfl|rfl
    . rcases (dS hd).1 hm with hm|hm
      . exact kc J _ (g.wd i hi J) hm
      . rw [hp] at hm;exact a_ (by omega)
    . exact a7 (UN hm)
  . rw [Q _ (by simp) (by simp)] at J hm ⊢;rw [el,if_neg hq] at I hy;exact h J x I y hy O hm
  . exact ⟨rfl,rfl,rfl,λq=>Q _ (by simp) (by simp),Q _ (by simp) (by simp),Q _ (by simp) (by simp),[],by rw [Q _ (by simp) (by simp)];simp⟩
  . by_cases Y:j=aB z
    . subst Y;rw [aS];exact UW _ hc
    . rw [ao (by simpa using Y),ao (by simp)];exact hc
theorem F3 (g:aN s) (hi:s.aO i) {keep rest:List Int} (X:s.R .lo=keep++ (i:Int)::rest) {l':List Int} (pm:l'.Perm (s.R (.l i))) (J:2<=l'.length) (v0:0<=s.val (l'.getD 0 0)) (v1:0<=s.val (l'.getD 1 0)):
 aN ((wF i ((oW i s ((s.R (.l i)).take 2)).set (.l i) l') (l'.take 2)).set .lo (keep++rest)):=by
 have eR:∀y,(∀i,y≠Pt.l i)->(∀j,y≠Pt.w j)->y≠ .lo->((wF i ((oW i s ((s.R (.l i)).take 2)).set (.l i) l') (l'.take 2)).set .lo (keep++rest)).R y=s.R y:=λy h1 J h3=>by
  rw [ao h3,rX _ J,ao (h1 _),jL _ J]
 have Y:∀q,((wF i ((oW i s ((s.R (.l i)).take 2)).set (.l i) l') (l'.take 2)).set .lo (keep++rest)).R (.l q)=if q=i then l' else s.R (.l q):=λq=>by
  rw [ao (by simp),rX _ (by simp)];by_cases e:q=i
  . rw [if_pos e,e,aS]
  . rw [if_neg e,ao (by simpa using e),jL _ (by simp)]
 have ew:∀j c,c∈((wF i ((oW i s ((s.R (.l i)).take 2)).set (.l i) l') (l'.take 2)).set .lo (keep++rest)).R (.w j)↔(c∈s.R (.w j)/\c≠(i:Int))\/(c=(i:Int)/\∃x∈l'.take 2,aB x=j):=λj c=>by
  rw [ao (by simp),Gj,ao (by simp),yx];constructor
  . rintro (⟨h1,J|J⟩|h)
    . exact .inl ⟨h1,J⟩
    . refine .inl ⟨h1,λe=>?_⟩;subst e;obtain ⟨q,Q,Z,x,I,O⟩:=g.w1 _ _ h1;have:q=i:=by omega
      subst this;exact J x I O
    . exact .inr h
  . rintro (⟨h1,J⟩|h)
    . exact .inl ⟨h1,.inl J⟩
    . exact .inr h
 obtain ⟨d1,d2,d3,d4⟩:=qP i (l'.take 2) ((oW i s ((s.R (.l i)).take 2)).set (.l i) l');obtain ⟨u1,u2,u3,u4⟩:=jk i ((s.R (.l i)).take 2) s;have nl:=g.o3;rw [X] at nl;have V:(keep++rest).Sublist (keep++ (i:Int)::rest):=Xp (Xd _) (W6 _ _);have U:∀c,c∈s.R .lo->c≠(i:Int)->c∈keep++rest:=λc hc ag=>by
  rw [X,F',UI] at hc;rw [F'];rcases hc with h|h|h
  . exact .inl h
  . exact absurd h ag
  . exact .inr h
 have ac:∀x∈l',dN s.vars x:=λx I=>g.cv i hi x (pm.mem_iff.1 I);refine qX g eR (d1.trans u1) (d2.trans u2) (d3.trans u3) (d4.trans u4) (λq _=>?_) (λj c=>?_) (λj=>?_) (by rw [aS];exact λc hc=>g.o1 c (by rw [X];exact V.mem hc)) (λq hq h=>?_) (by rw [aS];exact V.nodup nl) (λq hq h=>?_)
 . rw [Y];split
   . rename_i e;rw [e];exact pm
   . exact Xk _
 . rw [ew,g.wm];constructor
   . rintro (⟨⟨q,Q,Z,x,I,O⟩,h⟩| ⟨Q,x,I,O⟩)
     . exact ⟨q,Q,Z,x,by rw [Y,if_neg (λe=>h (by rw [Q,e]))];exact I,O⟩
     . exact ⟨i,Q,hi,x,by rw [Y,if_pos rfl];exact I,O⟩
   . rintro ⟨q,Q,Z,x,I,O⟩;rw [Y] at I;by_cases e:q=i
     . subst e;rw [if_pos rfl] at I;exact .inr ⟨Q,x,I,O⟩
     . rw [if_neg e] at I;exact .inl ⟨⟨q,Q,Z,x,I,O⟩,λh=>e (by omega)⟩
 . rw [ao (by simp)];refine vI i j _ _ (xF (pm.nodup_iff.2 (g.cn i hi))) (by rw [ao (by simp)];exact vR i j _ _ (g.w3 j)) λ_=>?_;rw [ao (by simp),yx];rintro ⟨h1,J|J⟩
   . exact J rfl
   . obtain ⟨q,Q,Z,x,I,O⟩:=g.w1 _ _ h1;have:q=i:=by omega
     subst this;exact J x I O
 . rw [aS];refine U _ (g.o2 q hq h) λe=>?_;have:q=i:=by omega
   subst this;rw [pm.length_eq] at J;omega
 . rw [aS] at h;rw [Y];by_cases e:q=i
   . subst e;rw [if_pos rfl];refine .inr λx I=>?_;have az:0<=s.val x:=by
      rcases jE.1 I with ⟨_,e⟩| ⟨_,e⟩<;>rw [e]<;>assumption
     have: -x ∉ s.R .tr:=λe=>by
      have:=(g.Ky (ac x (UN I))).2 e;omega
     exact ⟨λh=>this (UN h),λj _ h=>this (UN h)⟩
   . rw [if_neg e];exact .inl ⟨λJ=>h (U _ J λh3=>e (by omega)),λ_=>WK⟩
end
section
variable {w w' w0 w2 w3:World} {b:Nat} {H H' H2:Pt->Sl} {s t u s' T:aI} {l x y:Int} {i:Nat}
theorem eD {x y:Pt} (h:x≠y) {l m:List Int}:(s.set x l).set y m=(s.set y m).set x l:=by
 simp only [aI.set];congr 1;funext z;simp only [bH];by_cases e:z=x
 . subst e;rw [if_neg h,if_pos rfl,if_pos rfl]
 . by_cases I:z=y
   . subst I;rw [if_pos rfl,if_neg e,if_pos rfl]
   . rw [if_neg I,if_neg e,if_neg e,if_neg I]
theorem Qh (c:Int) {L:List Int}:∀ (I:List Int) (t:aI),wF c (t.set .lo L) I=(wF c t I).set .lo L
 | [],_=>rfl
 |x::I,t=>by
  show wF c ((t.set .lo L).set (.w (aB x)) ((t.set .lo L).R (.w (aB x))++ [c])) I=_;rw [ao (by simp),eD (by simp),Qh c I];rfl
theorem Ko (c:Int) {L:List Int}:∀ (I:List Int) (t:aI),oW c (t.set .lo L) I=(oW c t I).set .lo L
 | [],_=>rfl
 |x::I,t=>by
  show oW c ((t.set .lo L).set (.w (aB x)) (((t.set .lo L).R (.w (aB x))).filter λk=> !(k==c))) I=_;rw [ao (by simp),eD (by simp),Ko c I];rfl
theorem RR {L:List Int} {r:Int}:(t.set .lo L).put l r=(t.put l r).set .lo L:=by
 unfold aI.put;simp only [ao (s:=t) (x:=.lo) (l:=L) (y:=.va) (by simp),ao (s:=t) (x:=.lo) (l:=L) (y:=.le) (by simp),ao (s:=t) (x:=.lo) (l:=L) (y:=.re) (by simp),ao (s:=t) (x:=.lo) (l:=L) (y:=.be) (by simp),ao (s:=t) (x:=.lo) (l:=L) (y:=.tr) (by simp)];rw [eD (x:=.lo) (y:=.va) (by simp),eD (x:=.lo) (y:=.le) (by simp),eD (x:=.lo) (y:=.re) (by simp),eD (x:=.lo) (y:=.tr) (by simp)]
theorem Pw.To {S:Nat->Prop} (h:Pw w w2 b H H' t) (m:aD S w2 w3) (J:∀k,S k->w.heap.size<=k/\∀x,own b H' x≠some k):Pw w w3 b H H' t:=
 ⟨h.pm.keep m λx k I hs=> (J k hs).2 x I,h.mod.then m λk I hs=>by have:=(J k hs).1;omega,h.ft⟩
def OX (s:aI):Prop:=∀i,s.aO i->(i:Int)∈s.R .lo->∃x∈s.R (.a i),x∈s.R .tr
def yz (s:aI) (i:Nat):Prop:=s.aO i/\∀x∈s.R (.a i),-x∈s.R .tr
theorem yz.ext (h:yz s i) (e:j7 s t):yz t i:=⟨e.lW.2 h.1,λx I=>e.mem (h.2 x (by rw [<- e.a];exact I))⟩
theorem Gi (h:PM w b H s) (g:aN s):Calls prog fU.id #[ck b] w λe w'=>∃r:Int,e=.returned (.i r)/\∃s' H',Pw w w' b H H' s'/\aN s'/\j7 s s'/\s'.done=s.done/\((r= -1/\OX s')\/∃i:Nat,r=i/\yz s' i):=by
 refine fU.aj ?_;intro n1 w1 h1;have hA:=h.grow h1.mod;have z1:=h1.size;have e1:=h1.num;have a7:∀x,¬own b H x=some n1:=λx e=>by have:=h.lt x n1 e;omega
 refine ⟨_,aV h1.has rfl,_,rfl,_,_,_,ae hA.st rfl,?_⟩;have hN:=h.len .lo rfl;generalize hL:s.R .lo=L at*
 have gb:L.length<=262144:=by rw [<- hL];exact g.TW
 refine ⟨λP N C B V u m=>∃ (v:Nat) (T:aI) (H':Pt->Sl) (keep:List Int),V=v/\v<=L.length/\m=L.length - v/\N=keep.length/\Pw w1 u b H H' T/\dz aq u P C keep/\(∀k,aG P=some k->w1.heap.size<=k/\∀x,own b H' x≠some k)/\
  T.R .lo=L/\H' .lo=H .lo/\keep.length<=v/\aN (T.set .lo (keep++L.drop v))/\j7 s T/\T.done=s.done/\
  ((B= -1/\∀c∈keep,∃i:Nat,c=i/\∃x∈T.R (.a i),x∈T.R .tr)\/∃i:Nat,B=i/\yz T i),
  ⟨_,0,s,H,[],rfl,vx _,rfl,rfl,Pw.refl hA (aD.refl w1),Ow.nil _ _ _,λk I=>by simp [aG] at I,hL,rfl,y4 _,by rw [Vh,W5,<- hL,fO];exact g,j7.refl s,rfl,.inl ⟨rfl,λc J=>by simp at J⟩⟩,?_⟩
 rintro P N C B V u m _ ⟨v,T,H',keep,rfl,hv,rfl,rfl,Pu,ok,fr,Y,an,kl,gV,xT,dT,hB⟩;have hT:=Pu.pm;have bf:bT u n1 #[ck b]:=h1.has.keep Pu.mod λ⟨x,e⟩=>a7 x e;have e3:∀x,own b H' x≠some n1:=λx e=>by
  rcases Pu.ft x n1 e with ⟨y,e2⟩|e2
  . exact a7 y e2
  . omega
 refine ah (λr=>?_) (λr=>?_)
 . have r:v<L.length:=by rw [hN] at r;simpa using r
   have aT:∀ {u':World},Pw w1 u' b H H' T->∀ {K:Addr->Prop},(∀a,u'.cell? a=some (.i (L.getD v 0))->K a)->aW (H .lo).p (H .lo).n (v:Int) 1 K:=λ{u'} P K I=>by
    rw [<- an];refine P.pm.zi (x:=.lo) rfl (by omega) rfl (by rw [Y];omega) λa _ J=>I a ?_;rw [Y,tn] at J;exact J
   have ag:L.drop v=L.getD v 0::L.drop (v+1):=by
    rw [VN r];simp [List.getD,r]
   have d5:L.getD v 0∈(T.set .lo (keep++L.drop v)).R .lo:=by rw [aS,ag];simp
   obtain ⟨i,ei,Q⟩:=gV.o1 _ d5;have Q:T.aO i:=Q;have ce:i<T.nc:=Q.1;refine aT Pu λfy d'=>⟨_,d',?_⟩
   rw [ei];have mA:∀ {u':World} {T':aI} {H2:Pt->Sl},Pw w1 u' b H H2 T'->dz aq u' P C keep->(∀k,aG P=some k->w1.heap.size<=k/\∀x,own b H2 x≠some k)->
    ∀ {K:World->sn->Nat->Nat->Prop},(∀w2 p' c',Pw w1 w2 b H H2 T'->dz aq w2 p' c' (keep++ [(i:Int)])->(∀k,aG p'=some k->w1.heap.size<=k/\∀x,own b H2 x≠some k)->aD (λk=>aG P=some k) u' w2->K w2 p' (keep.length+1) c')->
    ∀n20 b9,jI (.cells #[.i (i:Int)] aq) u' n20 b9->∃c0,∃ (p':sn) (n' c':Nat),(Builtin.append_ #[aE,aE] aE #[.slice P keep.length C,.slice (some (qw n20)) 1 1]).run prog b9=.ok (.slice p' n' c') c0/\K c0 p' n' c':=by
    intro u' T' H2 P' o' f' K I n20 b9 bg;have cm:=P'.grow bg.mod;refine (o'.grow bg.mod).lP c9 (i:Int) bg.has rfl rfl fz (by omega) λw2 p' c' o2 m2 a' fu=>?_;refine I w2 p' c' (cm.To m2 λk I=>f' k I) o2 (λk bk=>?_) ((bg.mod.mono λ_ _ e=>e.elim).trans m2);rcases a' with a'|a'
    . rw [a'] at bk;exact f' k bk
    . rw [a'] at bk;have:=aL bk;refine ⟨by have:=cm.mod.size;omega,λx e=>?_⟩;have:=cm.pm.lt x k e;omega
   have U:keep++ [(i:Int)]++L.drop (v+1)=keep++L.drop v:=by rw [ag,ei];simp
   refine ah (λr2=>?_) (λr2=>?_)
   . have r2:0<=B:=by simpa using r2
     refine ⟨_,aV bf rfl,_,rfl,_,_,_,ae hT.st rfl,?_⟩;rw [an];refine aT Pu λgd dk=>⟨_,dk,?_⟩
     rw [ei];refine mA Pu ok fr λc0 p' c' eH e4 f22 _=>?_;refine ⟨_,?_,v+1,T,H',keep++ [(i:Int)],wN,r,rfl,by simp,eH,e4,f22,Y,an,by simp;omega,by rw [U];exact gV,xT,dT,?_⟩
     . omega
     . rcases hB with ⟨e,_⟩|hB
       . omega
       . exact .inr hB
   . have r2: ¬0<=B:=by simpa using r2
     have hB:B= -1/\∀c∈keep,∃i:Nat,c=i/\∃x∈T.R (.a i),x∈T.R .tr:=by
      rcases hB with h| ⟨i,e,_⟩
      . exact h
      . omega
     have kT:Wf T:=by
      have:=gV.wf;have e:T=(T.set .lo (keep++L.drop v)).set .lo (T.R .lo):=by rw [set_set,fO]
      rw [e];exact this.set (by simp) (by simp) (by simp) (by simp) (by simp) _
     have ap:T.R (.l i)=(T.set .lo (keep++L.drop v)).R (.l i):=(ao (by simp)).symm;have ac:∀x,(T.set .lo (keep++L.drop v)).val x=T.val x:=λx=>kx (ao (by simp)) x;have hv:∀x∈T.R (.l i),dN T.vars x:=λx O=>gV.cv i Q x (by rw [<- ap];exact O);have fL:(T.R (.l i)).length<=4096:=by rw [ap];exact gV.cl i Q
     have b': ∀x,x∈T.R (.l i)↔x∈T.R (.a i):=λx=>by
      have:=gV.ca i Q x;rw [ao (by simp),ao (by simp)] at this;exact this
     have hw:∀j,(T.R (.w j)).length<=262144:=λj=>by have:=gV.wl j;rw [ao (by simp)] at this;exact this
     refine ⟨_,aV bf rfl,_,rfl,_,_,_,ae hT.st rfl,hT.Qg ce rfl rfl λfl d8=>⟨_,_,_,d8.get 1 _ rfl,?_⟩⟩;refine (iQ (hT.row (.l i) rfl).vw (hT.len _ rfl) (by rw [hT.len _ rfl];omega)).mono ?_;rintro e fT ⟨d9,et,rfl,ey,cT,f30⟩;have du:=Pu.grow cT;have b4:=bf.grow cT;have nq:∀k,aG d9=some k->w1.heap.size<=k/\(∀x,own b H' x≠some k)/\k≠n1/\aG P≠some k:=λk I=>by
      have:=f30 k I;have g0:=Pu.mod.size;refine ⟨by omega,λx e=>?_,λe=>?_,λe=>?_⟩
      . have:=hT.lt x k e;omega
      . omega
      . have:=ok.lt k e;omega
     refine ⟨_,_,_,rfl,(wX ey rfl (by omega) F7 (λx=>decide (T.val x<0)) λx O w' m=>?_).mono ?_⟩
     . rw [wK];exact Q0 (du.pm.keep m λx k I hs=> (nq k hs).2.1 x I) kT (b4.keep m λhs=> (nq n1 hs).2.2.1 rfl) (hv x O)
     rintro e d4 ⟨rfl,eK,cc⟩;have c1:=du.To cc λk hs=>⟨(nq k hs).1,(nq k hs).2.1⟩
     have e5:=c1.pm;have b6:bT d4 n1 #[ck b]:=b4.keep cc λhs=> (nq n1 hs).2.2.1 rfl;have aw:dz aq d4 P C keep:=(ok.grow cT).keep cc λk I hs=> (nq k hs).2.2.2 I;generalize hF:(T.R (.l i)).filter (λx=> !decide (T.val x<0))=F at*
     have b_:∀x,x∈F↔x∈T.R (.l i)/\0<=T.val x:=λx=>by
      rw [<- hF,U8];simp
     refine ⟨_,_,_,rfl,ah (λr3=>?_) (λr3=>?_)⟩
     . have r3:2<=F.length:=by simp at r3;omega
       refine ⟨_,aV b6 rfl,(zI e5 kT.eG ce hv (by omega) (λj=>by have:=hw j;omega)).mono ?_⟩;rintro e eN ⟨rfl,gk,ax,dh⟩;have eu:=ax.pm;have ay:(oW i T ((T.R (.l i)).take 2)).R (.l i)=T.R (.l i):=jL _ (by simp) _ _;have a8:(oW i T ((T.R (.l i)).take 2)).R .va=T.R .va:=jL _ (by simp) _ _;have ec:(oW i T ((T.R (.l i)).take 2)).R .le=T.R .le:=jL _ (by simp) _ _;obtain ⟨u1,u2,u3,u4⟩:=jk i ((T.R (.l i)).take 2) T;have kU:Wf (oW i T ((T.R (.l i)).take 2)):=⟨by rw [u1];exact kT.eG,by rw [a8,u1];exact kT.va,by rw [a8];exact kT.vb,by rw [ec,u1];exact kT.le,by rw [jL _ (by simp),u1];exact kT.re,by rw [jL _ (by simp)];exact kT.be,by rw [jL _ (by simp)];exact kT.tr,by rw [u2];exact kT.nc⟩
       have ea:bT eN n1 #[ck b]:=b6.keep ax.mod λ⟨x,e⟩=>e3 x e;refine ⟨rfl,_,aV ea rfl,(Lb eu kU (by rw [u2];exact ce) (by rw [ay,u1];exact hv) (by rw [ay];omega) (λj=>by have:=Cu i j ((T.R (.l i)).take 2) T;have:=hw j;omega) (by rw [jL _ (by simp),Y];omega) ?_ ?_).mono ?_⟩
       . rw [ay];intro x O er;rw [kx a8] at er;have:=gV.SO (x:=x) (hv x O) (by rw [ac];exact er);unfold aI.bI at this ⊢;rw [ec];rw [ao (by simp)] at this;exact this
       . rw [ay];have:(λx=> !decide ((oW i T ((T.R (.l i)).take 2)).val x<0))=λx=> !decide (T.val x<0):=by funext x;rw [kx a8]
         rw [this,hF];exact r3
       rintro e eT ⟨rfl,l',cp,hb,pm,b1,b2,b3,b8,ej⟩;rw [ay] at pm;rw [kx a8] at b2 b3;have PP:=(c1.trans ax).trans b8;have kk:oJ H' cp:=dh.trans ej;have eb:∀k,aG P=some k->w1.heap.size<=k/\∀x,own b cp x≠some k:=λk I=>by
        have:=fr k I;refine ⟨this.1,λx e=>?_⟩;rcases (ax.trans b8).ft x k e with ⟨y,e2⟩|e2
        . exact this.2 y e2
        . have:=aw.lt k I;omega
       have ek:dz aq eT P C keep:=aw.keep (ax.trans b8).mod λk I ⟨x,e⟩=> (fr k I).2 x e;have gA:=F3 gV Q (keep:=keep) (rest:=L.drop (v+1)) (by rw [aS,ag,ei]) (l':=l') (by rw [<- ap];exact pm) b1 (by rw [ac];exact b3) (by rw [ac];exact b2);rw [<- ap,Ko,eD (x:=.lo) (y:=.l i) (by simp),Qh,set_set] at gA;refine ⟨rfl,_,?_,v+1,_,cp,keep,wN,r,rfl,rfl,PP,ek,eb,by rw [rX _ (by simp),ao (by simp),jL _ (by simp)];exact Y,by rw [kk _ (by simp)];exact an,by omega,gA,?_,?_,.inl ⟨hB.1,λc J=>?_⟩⟩
       . omega
       . exact xT.trans (j7.oW.trans ((j7.set (by simp) (by simp) (by simp) (by simp)).trans j7.wF))
       . rw [(qP i _ _).2.2.2];exact u4.trans dT
       . obtain ⟨k,e,x,O,a6⟩:=hB.2 c J;refine ⟨k,e,x,by rw [rX _ (by simp),ao (by simp),jL _ (by simp)];exact O,by rw [rX _ (by simp),ao (by simp),jL _ (by simp)];exact a6⟩
     . have r3:F.length<=1:=by simp at r3;omega
       refine mA c1 aw fr λbv p' c' bu bn f39 eL=>?_;have fv:=bu.pm;have b5:bT bv n1 #[ck b]:=h1.has.keep bu.mod λ⟨x,e⟩=>a7 x e;have dq:dz aq bv d9 et F:=eK.keep eL λk I hs=> (nq k I).2.2.2 hs;have dp:(T.set .lo (keep++L.drop v)).R .tr=T.R .tr:=ao (by simp);refine ah (λr4=>?_) (λr4=>?_)
       . have r4:F= []:=by simpa using r4
         refine ⟨_,?_,v+1,T,H',keep++ [(i:Int)],wN,r,rfl,by simp,bu,bn,f39,Y,an,by simp;omega,by rw [U];exact gV,xT,dT,.inr ⟨i,rfl,Q,λx O=>?_⟩⟩
         . omega
         . have ed:=(b' x).2 O;have hn: ¬0<=T.val x:=λh0=>by
            have:=(b_ x).2 ⟨ed,h0⟩;rw [r4] at this;simp at this
           rw [<- dp];exact (gV.Ky (x:=x) (hv x ed)).1 (by rw [ac];omega)
       . have r4:0<F.length:=by
          rcases UZ F.length with e|e
          . rw [e] at r4;simp at r4
          . exact e
         have ef:∀x∈F,x=F.getD 0 0:=λx O=>by
          match F,r3,r4,O with
          | [a],_,_,O=>simpa using O
         have Z:=(b_ (F.getD 0 0)).1 (bE r4);generalize en:F.getD 0 0=X at*
         refine ⟨_,aV b5.drew rfl,dq.drew.ix 0 (by omega) rfl (by omega) λfP ep=>⟨_,ep,?_⟩⟩;rw [Int.toNat_zero,en];have cb:=bu.drew;refine (pF cb.pm kT (hv _ Z.1)).mono ?_;rintro e fo ⟨rfl,rfl⟩;have bY:∀ {T':aI},j7 T T'->∀c∈keep,∃i:Nat,c=i/\∃x∈T'.R (.a i),x∈T'.R .tr:=λe c J=>by
          obtain ⟨k,e1,x,O,a6⟩:=hB.2 c J;exact ⟨k,e1,x,by rw [e.a];exact O,e.mem a6⟩
         refine ⟨_,rfl,ah (λr5=>?_) (λr5=>?_)⟩
         . have r5:T.val X=0:=by simpa using r5
           refine ⟨_,aV b5.drew.drew rfl,dq.drew.drew.ix 0 (by omega) rfl (by omega) λf0 eg=>⟨_,eg,?_⟩⟩;rw [Int.toNat_zero,en];have el:=cb.drew;refine (Gx el.pm kT (hv _ Z.1) (i:Int)).mono ?_;rintro e gl ⟨rfl,q,c2⟩;have gP:=zj (t:=T.set .lo (keep++L.drop v)) gV (hv X Z.1) (by rw [ac];exact r5) (λ_ _ _=>rfl) rfl rfl rfl rfl (r:=(i:Int)) (.inl ⟨rfl,rfl,i,rfl,Q,by rw [<- ap];exact Z.1,λx O e6=>by
            rw [<- ap] at O;have hn: ¬0<=T.val x:=λh0=>e6 (ef x ((b_ x).2 ⟨O,h0⟩));exact (gV.Ky (x:=x) (hv x O)).1 (by rw [ac];omega)⟩)
           rw [RR] at gP;have xP:j7 T (T.put X (i:Int)):=j7.put;have e8:(T.put X (i:Int)).R .lo=T.R .lo:=kG (by simp) (by simp) (by simp) (by simp);refine ⟨rfl,_,?_,v+1,_,bH H' .tr q,keep++ [(i:Int)],wN,r,rfl,by simp,el.trans c2,(bn.drew.drew).keep c2.mod λk I ⟨x,e⟩=> (f39 k I).2 x e,λk I=>⟨(f39 k I).1,λx e=>?_⟩,
            by rw [e8];exact Y,by rw [aU (by simp)];exact an,by simp;omega,by rw [U];exact gP,xT.trans xP,dT,.inl ⟨hB.1,λc J=>?_⟩⟩
           . omega
           . rcases c2.ft x k e with ⟨y,e2⟩|e2
             . exact (f39 k I).2 y e2
             . have:=bn.lt k I;have:bv.drew.drew.heap.size=bv.heap.size:=rfl;omega
           . rcases F'.1 J with J|J
             . exact bY xP c J
             . rw [Bs] at J;refine ⟨i,J,X,?_,?_⟩
               . rw [xP.a];exact (b' X).1 Z.1
               . rw [sF];simp
         . have r5: ¬T.val X=0:=by simpa using r5
           have eF:X∈T.R .tr:=by
            rw [<- dp];exact (gV.Ub (x:=X) (hv X Z.1)).1 (by rw [ac];have:=Z.2;omega)
           refine ⟨_,?_,v+1,T,H',keep++ [(i:Int)],wN,r,rfl,by simp,cb,bn.drew,f39,Y,an,by simp;omega,by rw [U];exact gV,xT,dT,.inl ⟨hB.1,λc J=>?_⟩⟩
           . omega
           . rcases F'.1 J with J|J
             . exact bY (j7.refl T) c J
             . rw [Bs] at J;exact ⟨i,J,X,(b' X).1 Z.1,eF⟩
 . have r:v=L.length:=by rw [hN] at r;simp at r;omega
   subst r;rw [V6,VF] at gV;refine ⟨_,aV bf rfl,_,rfl,?_⟩;refine hT.head (x:=.lo) rfl ok ⟨hT.st,hT.c,hT.wa,λy hy _=>hT.row y hy⟩ (λk I=> .inr (fr k I).2) rfl λw3 h3 m3=>?_;have xL:j7 T (T.set .lo keep):=j7.set (by simp) (by simp) (by simp) (by simp);have P0:=Pu.dA h1.mod;refine ⟨_,rfl,_,_,⟨h3,P0.mod.then m3 λk I e=>?_,λx k I=>?_⟩,gV,xT.trans xL,dT,?_⟩
   . rcases P0.ft .st k (by rw [e];rfl) with h|h
     . exact h
     . omega
   . by_cases e:x=.lo
     . subst e;rw [cA (by simp),bq] at I;have:=(fr k I).1;exact .inr (by omega)
     . refine P0.ft x k ?_;cases x<;>first|exact I| (simp only [own] at I ⊢;rwa [aU e] at I)
   . rcases hB with ⟨e,h⟩| ⟨i,e,h⟩
     . refine .inl ⟨e,λi hi hm=>?_⟩;rw [aS] at hm;obtain ⟨k,e1,x,O,a6⟩:=h _ hm;have:k=i:=by omega
       subst this;exact ⟨x,by rw [ao (by simp)];exact O,by rw [ao (by simp)];exact a6⟩
     . exact .inr ⟨i,e,h.ext xL⟩
end
end Go.Proofs.YtbdghpjnifjlmaaGreat.W
namespace Go.Fw
open Go Go.RowKit
variable {P:Program} {α:Type} {f:α->Value} {T:TypeId} {w w':World} {p q q':sn} {c:Nat} {l:List α}
theorem Ow.SM {t ty e bytes:Nat} (hs:nE P t e bytes=true) (h:Ow f e w p c l) {o m d k D:Nat} {news:List α} (Y:Vw f w q news) (hm:m=news.length) (hD:m<=D) (hq:0<m->q'=p.map (·.add (o*1))) (J:o+m<=l.length) (ho:∀x,(f x).oneCell'=true) {K:Int->World->Prop}
 (U:∀w',Ow f e w' p c (l.take o++news++l.drop (o+m))->aD (λb=>aG p=some b) w w'->w'.heap.size=w.heap.size->K m w'):
 ∃w',∃r:Int,(Builtin.copy_ #[t,t] ty #[.slice q' D d,.slice q m k]).run P w=.ok (.i r) w'/\K r w':=by
 obtain ⟨ht,i,z,hi,hz,h1,hb,h3⟩:=nH hs;have I:(P.info? e).map (·.size)=some 1:=by rw [hi];simp [h1]
 subst hm;rcases UZ news.length with Q|Q
 . have hn:news= []:=UF Q;subst hn;refine ⟨w,0,run_copy_none w t t ty e _ _ _ _ _ _ ht I (by simp),?_⟩;have:=U w (by simpa using h) (aD.refl w) rfl;simpa using this
 . rw [hq Q];obtain ⟨a,rfl,_⟩:=Y 0 Q;rcases h.un with ⟨rfl,rfl,rfl⟩| ⟨g,cur,rfl,Z,g1,g2,g3,g4⟩
   . rw [VE] at J;omega
   . have hr:=run_copy_row (P:=P) w t t ty e g o D d a news.length k cur e (news.map f) ht I Z (by rw [UL];exact (U7 hD).symm) (λj v hj=>by
      have O:j<news.length:=by have:=(Vg.1 hj).1;simpa using this
      obtain ⟨a',ha,X⟩:=Y j O;simp only [U4] at ha;subst ha;rw [X];simpa [O] using hj) (by simp;omega) (λu hu=>by obtain ⟨x,_,rfl⟩:=L0.1 hu;exact ho x)
     have V:=U (w.setRow g (cur.toList.take o++news.map f++cur.toList.drop (o+ (news.map f).length)).toArray) (Ow.df (setRow_heap w g cur _ e _ Z) (by simp;omega) g2 ?_ ?_) ⟨rfl,rfl,rfl,by simp,λk _ U=>setRow_other w g k _ λhe=>U (by simp [aG,he])⟩ (by simp [World.setRow])
     . refine ⟨_,((news.map f).length:Int),?_,by rw [UL];exact V⟩;simp only [Wj,dI,UX,Wt];exact hr
     . simp;omega
     . have hl:(l.take o++news++l.drop (o+news.length)).length=l.length:=by simp;omega
       rw [hl,LV,LV,WX,List.map_drop,<- g4];have X:cur.toList.length=c:=by simpa using g3
       apply VO;intro j;simp only [UL,Vf,Xl,UH,GD,VX,X];repeat' split
       all_goals first
        |rfl
        |omega
        | (congr 1;omega)
end Go.Fw
namespace Go.Proofs.YtbdghpjnifjlmaaGreat.W
open Go Go.Fw Go.RowKit Go.SoP Go.LiP
section
variable {w w' w0 w2 w3:World} {b:Nat} {H H' H2:Pt->Sl} {s t u s' T:aI} {l x y:Int} {i:Nat}
def aI.step (s:aI):aI:= {s with done:=s.done+1}
theorem IC (g:aN s) (I:s.done< (s.R .tr).length) (hp:∀i,s.aO i->Pg s i):aN s.step:=
 ⟨g.eG,g.Ka,g.va,g.vb,g.le,g.rl,g.tv,g.nd,g.v1,g.bl,g.bs,g.dl,g.db,g.lv,g.Rc,g.Qq,I,g.cv,g.cn,g.cl,g.ca,g.al,g.w1,g.w2,g.w3,g.o1,g.o2,g.o3,
   λi hi h=>hp i hi h,g.wj⟩
theorem NY {m:List Int} {st br:Bool} {j:Nat} {r:List Int} (V:wR s i m s' st br) (hm:∀z∈m,0<=s.val z->aB z≠j):wR (s.set (.w j) r) i m (s'.set (.w j) r) st br:=by
 have ev:∀x,(s.set (.w j) r).val x=s.val x:=λx=>kx (ao (by simp)) x;cases V with
 |Th h=>rw [eD (by simp)];exact .Th (by rw [ev];exact h)
 |qZ h h2=>rw [eD (by simp)];exact .qZ (by rw [ev];exact h) λk a c=>by rw [ev];exact h2 k a c
 |unit h h2=>
  have e:((s.set (.l i) m).put (m.getD 0 0) i).set (.w j) r=((s.set (.w j) r).set (.l i) m).put (m.getD 0 0) i:=by
   rw [eD (x:=.w j) (y:=.l i) (by simp)];generalize s.set (.l i) m=q;unfold aI.put;simp only [ao (s:=q) (x:=.w j) (l:=r) (y:=.va) (by simp),ao (s:=q) (x:=.w j) (l:=r) (y:=.le) (by simp),ao (s:=q) (x:=.w j) (l:=r) (y:=.re) (by simp),ao (s:=q) (x:=.w j) (l:=r) (y:=.be) (by simp),ao (s:=q) (x:=.w j) (l:=r) (y:=.tr) (by simp)];rw [eD (x:=.w j) (y:=.va) (by simp),eD (x:=.w j) (y:=.le) (by simp),eD (x:=.w j) (y:=.re) (by simp),eD (x:=.w j) (y:=.tr) (by simp)]
  rw [e];exact .unit (by rw [ev];exact h) λk a c=>by rw [ev];exact h2 k a c
 |Ed k h1 h2 h3 h4=>
  have I:aB (m.getD k 0)≠j:=hm _ (bE h3) h4;have V:=wR.Ed (s:=s.set (.w j) r) (i:=i) (m:=m) k (by rw [ev];exact h1) h2 h3 (by rw [ev];exact h4);rw [ao (by simpa using I),eD (x:=.w j) (y:=.l i) (by simp),eD (x:=.w j) (by simpa using Vc I)] at V;exact V
def d_ (s:aI):Prop:=∀i,s.aO i->(∃x∈s.R (.a i),x∈s.R .tr)\/∃x∈s.R (.a i),∃y∈s.R (.a i),x≠y/\s.val x=0/\s.val y=0
theorem Je (g:aN s) (Y:(s.R .tr).length<=s.done) (hl:OX s):d_ s:=by
 intro i hi;by_cases hm:(i:Int)∈s.R .lo
 . exact .inl (hl i hi hm)
 . have h2:2<=(s.R (.l i)).length:=by
    rcases UU (s.R (.l i)).length 2 with h|h
    . exact absurd (g.o2 i hi h) hm
    . exact h
   have O:=g.wd i hi hm;rw [W1,UM Y] at O;have m0:(s.R (.l i)).getD 0 0∈(s.R (.l i)).take 2:=jE.2 (.inl ⟨by omega,rfl⟩);have m1:(s.R (.l i)).getD 1 0∈(s.R (.l i)).take 2:=jE.2 (.inr ⟨by omega,rfl⟩);have I:(s.R (.l i)).getD 0 0≠(s.R (.l i)).getD 1 0:=λe=>by
    have:=(V9 (h₀:=show 0< (s.R (.l i)).length by omega) (h₁:=show 1< (s.R (.l i)).length by omega) (g.cn i hi)).1 (by
     have e0:(s.R (.l i)).getD 0 0=(s.R (.l i))[0]:=by simp [List.getD,show 0< (s.R (.l i)).length by omega]
     have e1:(s.R (.l i)).getD 1 0=(s.R (.l i))[1]:=by simp [List.getD,show 1< (s.R (.l i)).length by omega]
     rw [<- e0,<- e1,e])
    omega
   generalize (s.R (.l i)).getD 0 0=a at*
   generalize (s.R (.l i)).getD 1 0=c at*
   have la:=UN m0;have lc:=UN m1;have va:=g.cv i hi a la;have Z:=g.cv i hi c lc;have X:=(g.ca i hi a).1 la;have V:=(g.ca i hi c).1 lc;by_cases J:a∈s.R .tr
   . exact .inl ⟨a,X,J⟩
   by_cases Q:c∈s.R .tr
   . exact .inl ⟨c,V,Q⟩
   by_cases U: -a∈s.R .tr
   . exact absurd (O a m0 c m1 I U) Q
   by_cases fc: -c∈s.R .tr
   . exact absurd (O c m1 a m0 (Vc I) fc) J
   exact .inr ⟨a,X,c,V,I,(g.v0 va).2 ⟨J,U⟩,(g.v0 Z).2 ⟨Q,fc⟩⟩
end
section
variable {w w' w0 w2 w3:World} {b:Nat} {H H' H2:Pt->Sl} {s t u s' T:aI} {l x y:Int} {i:Nat}
theorem NS {m:List Int} {st br:Bool} {j:Nat} (V:wR s i m s' st br) (hm:∀z∈m,0<=s.val z->aB z≠j):s'.R (.w j)=s.R (.w j):=by
 cases V with
 |Th h=>exact ao (by simp)
 |qZ h h2=>exact ao (by simp)
 |unit h h2=>rw [kG (by simp) (by simp) (by simp) (by simp),ao (by simp)]
 |Ed k h1 h2 h3 h4=>rw [ao (by simpa using Vc (hm _ (bE h3) h4)),ao (by simp)]
theorem EO {l:List Int} {k v:Nat} {x:Int} (h:k<v):(l.set k x).drop v=l.drop v:=by
 apply VO;intro j;rw [VX,VX,VC,if_neg (by omega)]
theorem Pw.T3 (h:PM w2 b H t) {j:Nat} {w1:World} (m:aD (λk=>aG (H (.w j)).p=some k) w1 w2):Pw w1 w2 b H H t:=Pw.row h (x:=.w j) rfl m
theorem Tc {p:sn} {c:Nat}:(if c=0 then p else p.map (·.add (0*1)))=p:=by rw [Ql];split<;>rfl
theorem Gh (h:PM w b H s) (g:aN s):Calls Tryz.prog gB.id #[ck b] w λe w'=>∃r:Int,e=.returned (.i r)/\∃s' H',Pw w w' b H H' s'/\aN s'/\j7 s s'/\((r= -1/\d_ s')\/∃i:Nat,r=i/\yz s' i):=by
 refine gB.aj (bA rfl ⟨_,rfl,_,_,_,ae h.st rfl,?_⟩);obtain ⟨av,fo⟩:=CX h g.wf;rw [fo];refine bA rfl ((Gi h g).mono ?_);rintro e w3 ⟨r4,rfl,s1,H1,P3,g1,x1,d1,hr⟩;refine ⟨_,rfl,ah (λr=>?_) λr=>?_⟩
 . have r:0<=r4:=by simpa using r
   refine ⟨r4,rfl,s1,H1,P3,g1,x1,.inr ?_⟩;rcases hr with h|h
   . omega
   . exact h
 have r: ¬0<=r4:=by simpa using r
 have hl:OX s1:=by
  rcases hr with h| ⟨i,h,_⟩
  . exact h.2
  . omega
 refine ⟨λu m=>∃ (T:aI) (H':Pt->Sl),m=T.vars - T.done/\Pw w u b H H' T/\aN T/\j7 s T/\OX T,⟨_,s1,H1,rfl,P3,g1,x1,hl⟩,?_⟩;rintro w8 m _ ⟨T,H',rfl,P8,gT,xT,lT⟩;have h8:=P8.pm;refine ⟨_,rfl,_,ae h8.drew.st rfl,_,rfl,_,_,_,ae h8.drew.st rfl,?_⟩;rw [h8.len .tr rfl];refine ah (λr=>?_) (λr=>?_)
 . have hd:T.done< (T.R .tr).length:=by simpa using r
   have hD:=h8.drew.drew;refine ⟨_,rfl,_,_,_,ae hD.st rfl,_,rfl,_,ae hD.st rfl,hD.zi (x:=.tr) rfl (by omega) rfl (by omega) λgJ _ du=>⟨_,du,?_⟩⟩;rw [tn];have e6:(T.R .tr).getD T.done 0∈T.R .tr:=bE hd;generalize hX:(T.R .tr).getD T.done 0=X at*
   have c3:=gT.tv X e6;have gr:=c3.bd gT.eG;have ef:IntKind.i64.wrap (0 - X)= -X:=by rw [aA (by omega) (by omega)];omega
   try dsimp only
   rw [ef];have bi:=c3.neg;have bb:=bi.bd gT.eG;obtain ⟨f,hf⟩: ∃f,f= -X:=⟨_,rfl⟩
   rw [<- hf] at bi bb ⊢;have et:X= -f:=by omega
   have b8:=vN bi;refine ⟨(·=w8.drew.drew.drew),rfl,_,rfl,_,_,_,fF (ae hD.drew.st rfl),(iq bb _).mono ?_⟩;rintro e gw ⟨rfl,rfl⟩;have dh:=((P8.drew).drew).drew;have b9:=dh.pm;refine ⟨_,rfl,rfl,b9.TG b8 rfl rfl λgm _ c7=>⟨_,_,_,fF c7,?_⟩⟩;have bu:=b9.len (.w (aB f)) rfl;have bv:(T.R (.w (aB f))).length<=(H' (.w (aB f))).c:=by
    rcases (b9.row (.w (aB f)) rfl).un with ⟨_,_,e2⟩| ⟨_,_,_,_,e,_⟩
    . rw [e2];exact vx _
    . exact e
   have gy:=gT.wl (aB f);generalize aT:T.R (.w (aB f))=row at*
   refine ⟨λKP V u m=>∃ (kp v:Nat) (I:aI) (H2:Pt->Sl) (kept cur:List Int),KP=kp/\V=v/\v<=row.length/\kp<=v/\m=row.length - v/\kept.length=kp/\cur.length=row.length/\cur.take kp=kept/\cur.drop v=row.drop v/\
    I.R (.w (aB f))=cur/\H2 (.w (aB f))=H' (.w (aB f))/\Pw w u b H H2 I/\aN (I.set (.w (aB f)) (kept++row.drop v))/\j7 T I/\I.done=T.done/\I.R .lo=T.R .lo/\
    ∀k,I.aO k->(k:Int) ∉ row.drop v->Pg (I.set (.w (aB f)) (kept++row.drop v)) k,
    ⟨_,0,0,T,H',[],row,rfl,rfl,vx _,y4 _,rfl,rfl,rfl,rfl,rfl,aT,rfl,dh,?_,j7.refl T,rfl,rfl,?_⟩,?_⟩
   . rw [Vh,W5,<- aT,fO];exact gT
   . rw [Vh,W5,<- aT,fO];intro k O an cm x hx y hy c0 hm;rcases (dS hd).1 hm with hm|hm
     . exact gT.wd k O cm x hx y hy c0 hm
     . rw [hX] at hm;have:x=f:=by omega
       rw [this] at hx;exact absurd (gT.w2 k O f hx) an
   rintro KP V u m _ ⟨kp,v,I,H2,kept,cur,rfl,rfl,hv,gW,rfl,a6,a7,b6,d8,ag,Q,Pu,gV,x2,d2,bn,pg⟩;have hu:=Pu.pm;have b7:I.done< (I.R .tr).length:=by
    rw [d2];obtain ⟨e,he⟩:=x2.tr;rw [he,UH];omega
   have eg:(I.R .tr).getD I.done 0= -f:=by
    rw [d2];obtain ⟨e,he⟩:=x2.tr;rw [he,bX hd,hX,et]
   have ce:I.vars=T.vars:=x2.v;refine ah (λr2=>?_) (λr2=>?_)
   . have rv:v<row.length:=by rw [bu] at r2;simpa using r2
     clear r2;have J:row.drop v=row.getD v 0::row.drop (v+1):=by
      rw [VN rv];simp [List.getD,rv]
     have e4:cur.getD v 0=row.getD v 0:=by
      have e1:(cur.drop v).getD 0 0=cur.getD v 0:=by simp [List.getD]
      have e2:(row.drop v).getD 0 0=row.getD v 0:=by simp [List.getD]
      rw [<- e1,d8,e2]
     have ed:cur.drop (v+1)=row.drop (v+1):=by
      have e1:(cur.drop v).drop 1=cur.drop (v+1):=by rw [Ye]
      have e2:(row.drop v).drop 1=row.drop (v+1):=by rw [Ye]
      rw [<- e1,d8,e2]
     rw [<- Q];refine hu.zi (x:=.w (aB f)) rfl (by omega) rfl (by rw [ag];omega) λgd _ dk=>⟨_,dk,?_⟩
     rw [ag,tn,e4];generalize hc:row.getD v 0=c at*
     obtain ⟨i,rfl,U,z,hz,eR⟩:=gV.w1 (aB f) c (by rw [aS,J];simp);have:=nM eR;subst this;rw [ao (by simp)] at hz;have U:I.aO i:=U;have Z:(I.set (.w (aB z)) (kept++row.drop v)).R (.l i)=I.R (.l i):=ao (by simp);have b3:∀x∈I.R (.l i),dN I.vars x:=λx hx=>gV.cv i U x (by rw [Z];exact hx);have gp:(I.R (.l i)).length<=4096:=by have:=gV.cl i U;rw [Z] at this;exact this
     have kT:Wf I:=by
      have:=gV.wf;have e:I=(I.set (.w (aB z)) (kept++row.drop v)).set (.w (aB z)) (I.R (.w (aB z))):=by rw [set_set,fO]
      rw [e];exact this.set (by simp) (by simp) (by simp) (by simp) (by simp) _
     have hw:∀j,(I.R (.w j)).length<=262144:=λj=>by
      by_cases e:j=aB z
      . rw [e,ag];omega
      . have:=gV.wl j;rw [ao (by simpa using e)] at this;exact this
     have ap:∀ {u':World} {T':aI} {H3:Pt->Sl},Pw w u' b H H3 T'->T'.R (.w (aB z))=cur->H3 (.w (aB z))=H2 (.w (aB z))->∀ {K:World->Prop},
      (∀w3,Pw w w3 b H H3 (T'.set (.w (aB z)) (cur.set kp (i:Int)))->K w3)->aW (H2 (.w (aB z))).p (H2 (.w (aB z))).n (kp:Int) 1 λa=>∃w3,bB a 0 [.i (i:Int)] u' w3/\K w3:=by
      intro u' T' H3 P e1 e2 K O;rw [<- e2];refine P.pm.J4 (x:=.w (aB z)) rfl (by omega) rfl (by rw [e1];omega) (y:=(i:Int)) rfl rfl λw3 h3 m3=>O w3 ?_;rw [e1,tn] at h3;exact P.trans (Pw.T3 h3 m3)
     have cg:(cur.set kp (i:Int)).take (kp+1)=kept++ [(i:Int)]:=by rw [pC (by omega),b6]
     have co:(cur.set kp (i:Int)).drop (v+1)=row.drop (v+1):=by rw [EO (by omega),ed]
     have ay:kept++ [(i:Int)]++row.drop (v+1)=kept++row.drop v:=by rw [J];simp
     have eN:(H2 (.l i)).n=(I.R (.l i)).length:=hu.len (.l i) rfl;refine ⟨_,rfl,_,_,_,ae hu.st rfl,hu.Qg U.1 rfl rfl λgA d9=>⟨_,_,_,d9.get 1 _ rfl,?_⟩⟩;rw [eN];refine ah (λr3=>?_) (λr3=>?_)
     . have g5:((I.R (.l i)).length:Int)<2:=by simpa using r3
       have r3:(I.R (.l i)).length<2:=by omega
       refine ap Pu ag rfl λg0 fa=>?_;refine ⟨_,?_,kp+1,v+1,_,H2,kept++ [(i:Int)],cur.set kp (i:Int),wN,wN,rv,by omega,rfl,by simp [a6],by simp [a7],cg,co,aS,rfl,fa,by rw [set_set,ay];exact gV,
        x2.trans (j7.set (by simp) (by simp) (by simp) (by simp)),d2,by rw [ao (by simp)];exact bn,λk O an=>?_⟩
       . omega
       . rw [set_set,ay];by_cases e:k=i
         . subst e;intro cm;exact absurd (gV.o2 k O (by rw [Z];exact r3)) cm
         . refine pg k O λhm=>?_;rw [J] at hm;rcases UI.1 hm with h|h
           . omega
           . exact an h
     . have r3:2<=(I.R (.l i)).length:=by simp at r3;omega
       refine (Md hu kT U.1 b3 (by omega) (λj=>by have:=hw j;omega) r3 z).mono ?_;rintro e g2 ⟨st,br,rfl,s',H3,V3,eF,kv⟩;have vz:∀y,dN I.vars y->0<=I.val y->aB y≠aB z:=λy _ hy e=>by
        rw [nM e] at hy;have h1:(I.set (.w (aB z)) (kept++row.drop v)).val z<0:=(gV.Ky (by rw [show (I.set (.w (aB z)) (kept++row.drop v)).vars=T.vars from ce];exact bi)).2 (by
         rw [ao (by simp),<- eg];exact bE b7)
        rw [kx (s:=I) (ao (by simp))] at h1;omega
       have vm:∀y∈kI (I.R (.l i)) z,0<=I.val y->aB y≠aB z:=λy hy h0=>vz y (b3 y ((qY _ _).mem_iff.1 hy)) h0;have Y:H3 (.w (aB z))=H2 (.w (aB z)):=kv _ (by simp) λy hy h0 e=>vz y hy h0 (by injection e with e;exact e.symm);have b4:s'.R (.w (aB z))=cur:=(NS V3 vm).trans ag;have V4:=NY (r:=kept++row.drop v) V3 vm;rw [<- Z] at V4;have dT:((I.set (.w (aB z)) (kept++row.drop v)).R .tr).getD (I.set (.w (aB z)) (kept++row.drop v)).done 0= -z:=by rw [ao (by simp)];exact eg
       have d4:(I.set (.w (aB z)) (kept++row.drop v)).done< ((I.set (.w (aB z)) (kept++row.drop v)).R .tr).length:=by rw [ao (by simp)];exact b7
       have az:=Pu.trans eF;have gv:=az.pm;cases st with
       |true=>
        obtain ⟨G5,p5,q5,x5,b5,l5,d5,_⟩:=AH gV U (by rw [Z];exact r3) (by rw [Z];exact hz) d4 dT V4 (r:=kept++row.drop v) (λ_=>by rw [aS]) (λh=>by cases h);rw [set_set] at G5 p5 q5 x5;have x6:j7 T s':=x2.trans ((j7.set (x:=.w (aB z)) (by simp) (by simp) (by simp) (by simp)).trans (x5.trans (by
         have:=j7.set (s:=s'.set (.w (aB z)) (kept++row.drop v)) (x:=.w (aB z)) (by simp) (by simp) (by simp) (by simp) (l:=s'.R (.w (aB z)));rw [set_set,fO] at this;exact this)))
        have fd:s'.done=T.done:=d5.trans d2;have b':s'.R .lo=T.R .lo:=by
         rw [ao (by simp),ao (by simp)] at l5;exact l5.trans bn
        refine ⟨_,_,rfl,bP rfl (ap az b4 Y λdc cb=>?_)⟩;cases br with
        |true=>
         refine bP rfl ?_;rw [Q];have e1:IntKind.i64.wrap ((kp:Int)+1)=((kp+1:Nat):Int):=wN;have e2:IntKind.i64.wrap ((v:Int)+1)=((v+1:Nat):Int):=wN;rw [e1,e2,bu];refine eh (kp+1) row.length (H' (.w (aB z))).c rfl rfl rfl (y4 _) bv (by omega) ?_;refine eh (v+1) row.length (H' (.w (aB z))).c rfl rfl rfl (y4 _) bv (by omega) ?_;have aw:=cb.pm.drew;have d6:dz aq dc.drew (H' (.w (aB z))).p (H' (.w (aB z))).c (cur.set kp (i:Int)):=by
          have:=aw.row (.w (aB z)) rfl;rw [aS,Y,Q] at this;exact this
         have vw:Vw sT dc.drew (if (H' (.w (aB z))).c=v+1 then (H' (.w (aB z))).p else (H' (.w (aB z))).p.map (·.add ((v+1)*1))) (row.drop (v+1)):=by
          split
          . have:row.drop (v+1)= []:=W9 (by omega);rw [this];exact Vw.nil
          . have:=d6.vw.part (i:=v+1) (m:=row.length - (v+1)) (by simp [a7];omega);rw [co,UM (by simp)] at this;exact this
         refine d6.SM c9 (o:=kp+1) vw (by simp) (by omega) (λh=>?_) (by simp [a7];omega) fz λcT ej eb gn=>?_
         . rw [if_neg (by omega)]
         have bc:(cur.set kp (i:Int)).take (kp+1)++row.drop (v+1)=kept++row.drop v:=by rw [cg,ay]
         rw [bc] at ej;have d':=aw.Jb (x:=.w (aB z)) rfl (w':=cT.drew) (eb.trans (aD.refl _).drew|>.mono λk _ e=>by rw [Y,Q];exact e);have fy:=aw.st;have fA: ¬aG (H' (.w (aB z))).p=some b:=by
          have:=aw.kc (x:=.w (aB z)) (by simp) (y:=.st) (by simp) (k:=b) rfl;rw [Y,Q] at this;exact this
         refine ⟨(·=cT.drew),rfl,_,rfl,_,_,_,fF (ae d'.st rfl),(iq bb _).mono ?_⟩;rintro e gz ⟨rfl,rfl⟩;have e3:IntKind.i64.wrap (((kp+1:Nat):Int)+ ((row.length - (v+1):Nat):Int))=((kp+1+ (row.length - (v+1)):Nat):Int):=wN;refine ⟨_,rfl,rfl,?_⟩;rw [e3];refine eh 0 (kp+1+ (row.length - (v+1))) (H' (.w (aB z))).c rfl rfl rfl (y4 _) (by omega) (vx _) ?_;rw [Tc,Ve,Ve];have fm:dz aq cT.drew (H' (.w (aB z))).p (H' (.w (aB z))).c (kept++row.drop v):=by
          have:=ej.drew.take (k:=(kept++row.drop v).length) (by simp);rw [List.take_left'] at this
          . exact this
          . rfl
         have e7:kp+1+ (row.length - (v+1))=(kept++row.drop v).length:=by simp [a6];omega
         refine aw.HP (i:=aB z) (by show _<2* (s'.vars+1);rw [x6.v];exact b8) fm d' (λk O=> .inl (by rw [Y,Q];exact O)) e7 aw.wn rfl λfu ea e9=>?_;rw [set_set] at ea;have eK:Pw w fu b H _ (s'.set (.w (aB z)) (kept++row.drop v)):=cb.drew.trans (Pw.head (x:=.w (aB z)) (z:=.wa) (by simp) ea (eb.trans (aD.refl _).drew|>.mono λk _ e=>by rw [Y,Q];exact e) e9 λk O=> .inl (by rw [Y,Q];exact O));refine ⟨_,rfl,_,_,eK,G5,xT.trans (x6.trans (j7.set (by simp) (by simp) (by simp) (by simp))),.inr ⟨i,rfl,x5.lW.2 U,λx hx=>?_⟩⟩;have hb:=b5 rfl x (by
          rw [x5.a] at hx;exact (gV.ca i U x).2 hx)
         exact x5.mem hb
        |false=>
         refine bA rfl ?_;refine ⟨_,?_,kp+1,v+1,_,H3,kept++ [(i:Int)],cur.set kp (i:Int),wN,wN,rv,by omega,rfl,by simp [a6],by simp [a7],cg,co,aS,Y,cb,by rw [set_set,ay];exact G5,
          x6.trans (j7.set (by simp) (by simp) (by simp) (by simp)),fd,by rw [ao (by simp)];exact b',λk O an=>?_⟩
         . omega
         . rw [set_set,ay];by_cases e:k=i
           . subst e;exact p5 rfl
           . refine q5 k e (pg k (x5.lW.1 O) λhm=>?_);rw [J] at hm;rcases UI.1 hm with h|h
             . omega
             . exact an h
       |false=>
        have ez:br=false:=by cases V3;rfl
        subst ez;have cc:=gV.w3 (aB z);rw [aS,J] at cc;have fk:∀c,c∈kept++row.drop (v+1)↔c∈(I.set (.w (aB z)) (kept++row.drop v)).R (.w (aB z))/\c≠(i:Int):=λc=>by
         rw [aS,J,F',F',UI];have h1:=VQ.1 cc;have h2:=WV.1 h1.2.1;constructor
         . rintro (h|h)
           . exact ⟨.inl h,λe=>h1.2.2 c h (i:Int) (by simp) e⟩
           . exact ⟨.inr (.inr h),λe=>h2.1 (e▸h)⟩
         . rintro ⟨h|h|h,c0⟩
           . exact .inl h
           . exact absurd h c0
           . exact .inr h
        have ec:(kept++row.drop (v+1)).Sublist (kept++ (i:Int)::row.drop (v+1)):=Xp (Xd _) (W6 _ _);obtain ⟨G5,p5,q5,x5,b5,l5,d5,_⟩:=AH gV U (by rw [Z];exact r3) (by rw [Z];exact hz) d4 dT V4 (r:=kept++row.drop (v+1)) (λh=>by cases h) (λ_=>⟨fk,ec.nodup cc⟩);rw [set_set] at G5 p5 q5 x5;have x6:j7 T s':=x2.trans ((j7.set (x:=.w (aB z)) (by simp) (by simp) (by simp) (by simp)).trans (x5.trans (by
         have:=j7.set (s:=s'.set (.w (aB z)) (kept++row.drop (v+1))) (x:=.w (aB z)) (by simp) (by simp) (by simp) (by simp) (l:=s'.R (.w (aB z)));rw [set_set,fO] at this;exact this)))
        have b':s'.R .lo=T.R .lo:=by
         rw [ao (by simp),ao (by simp)] at l5;exact l5.trans bn
        refine ⟨_,_,rfl,bA rfl (bA rfl ?_)⟩;refine ⟨_,?_,kp,v+1,s',H3,kept,cur,rfl,wN,rv,by omega,rfl,a6,a7,b6,ed,b4,Y,az,G5,x6,d5.trans d2,b',λk O an=>?_⟩
        . omega
        . by_cases e:k=i
          . subst e;exact p5 rfl
          . refine q5 k e (pg k (x5.lW.1 O) λhm=>?_);rw [J] at hm;rcases UI.1 hm with h|h
            . omega
            . exact an h
   . have r2:v=row.length:=by rw [bu] at r2;simp at r2;omega
     subst r2;rw [V6,VF] at gV;have aa:=hu.drew;refine ⟨(·=u.drew),rfl,_,rfl,_,_,_,fF (ae aa.st rfl),(iq bb _).mono ?_⟩;rintro e g3 ⟨rfl,rfl⟩;refine ⟨_,rfl,rfl,?_⟩;rw [bu];refine eh 0 kp (H' (.w (aB f))).c rfl rfl rfl (y4 _) (by omega) (vx _) ?_;rw [Tc,Ve,Ve];have fh:dz aq u.drew (H' (.w (aB f))).p (H' (.w (aB f))).c kept:=by
      have:=(aa.row (.w (aB f)) rfl).take (k:=kp) (by rw [ag];omega);rw [ag,b6,Q] at this;exact this
     refine aa.HP (i:=aB f) (by rw [ce];exact b8) fh ⟨aa.st,aa.c,aa.wa,λy hy _=>aa.row y hy⟩ (λk O=> .inl (by rw [Q];exact O)) a6.symm aa.wn rfl λew b_ fj=>?_;have e5:Pw w ew b H _ (I.set (.w (aB f)) kept):=Pu.drew.trans (Pw.head (x:=.w (aB f)) (z:=.wa) (by simp) b_ (aD.refl _) fj λk O=> .inl (by rw [Q];exact O));refine ⟨_,rfl,_,ae b_.st rfl,_,rfl,?_⟩;have e1:IntKind.i64.wrap (((I.set (.w (aB f)) kept).done:Int)+1)=((I.done+1:Nat):Int):=wN rfl (by have:=gT.Ck;have:=gT.eG;omega);refine b_.HJ (n:=I.done+1) e1 λgl fq es=>?_;have gS:=IC gV (by rw [ao (by simp)];exact b7) λk O=>by
      have:=pg k O (by rw [V6];simp);rw [V6,VF] at this;exact this
     have ac:j7 I (I.set (.w (aB f)) kept):=j7.set (by simp) (by simp) (by simp) (by simp);have xS:j7 T (I.set (.w (aB f)) kept).step:=x2.trans ⟨ac.v,ac.n,ac.g,ac.a,ac.be,ac.ds,ac.tr⟩;refine ⟨_,?_,(I.set (.w (aB f)) kept).step,_,rfl,e5.trans ⟨fq,es.mono λk _ e=>⟨.st,by rw [e];rfl⟩,λx k O=> .inl ⟨x,O⟩⟩,gS,xT.trans xS,λk O hm=>?_⟩
     . show I.vars - (I.done+1)<T.vars - T.done;have:=gT.Ck;rw [ce,d2];omega
     . have eA:(k:Int)∈T.R .lo:=by
        have e:(I.set (.w (aB f)) kept).step.R .lo=I.R .lo:=ao (s:=I) (x:=.w (aB f)) (y:=.lo) (l:=kept) (by simp);rw [e,bn] at hm;exact hm
       obtain ⟨x,hx,e'⟩:=lT k (xS.lW.1 O) eA;exact ⟨x,by rw [xS.a];exact hx,xS.mem e'⟩
 . have hd:(T.R .tr).length<=T.done:=by simp at r;omega
   exact ⟨_,rfl,T,H',P8.drew,gT,xT,.inl ⟨rfl,Je gT hd lT⟩⟩
end
end Go.Proofs.YtbdghpjnifjlmaaGreat.W
