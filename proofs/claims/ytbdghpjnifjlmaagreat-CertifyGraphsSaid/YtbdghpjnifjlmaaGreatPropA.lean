/- Layer 6: what a propagator's small functions answer. -/
import Derived.Test.YtbdghpjnifjlmaaGreatQuotaA
import Derived.Test.YtbdghpjnifjlmaaGreatSortA
import Derived.Laws.CopyRow
import Derived.Laws.IdiomCopy
set_option linter.all false
namespace Go.Proofs.YtbdghpjnifjlmaaGreat.W
open Go Go.Fw Go.RowKit Go.SoP Go.LiP
open Go.Proofs.Tryz (prog)
open Go.IntKind (i64)
section
variable{w w' w2:World}{b:Nat}{H:Pt->Sl}{s:aH}{l:Int}
abbrev cj(b:Nat):Value:=.pointer (some ⟨b,0,none⟩)
theorem Ri:mg prog zU zj 1=true:=by kernel_rfl
def dZ(n:Nat)(l:Int):Prop:=l≠0/\ -(n:Int)<=l/\l<=n
def aA(l:Int):Nat:=if l<0 then (-2*l+1).toNat else (2*l).toNat
def aH.val(s:aH)(l:Int):Int:=if l<0 then -((s.R .va).getD (-l).toNat 0) else (s.R .va).getD l.toNat 0
def aH.bM(s:aH)(l:Int):Int:=(s.R .le).getD (bo l).toNat 0
def aH.nD(s:aH)(l:Int):Int:=(s.R .re).getD (bo l).toNat 0
def aH.rk(s:aH)(l:Int):Int:=if s.val l>=0 then 1048577 else s.bM l
structure Wf(s:aH):Prop where
 eM:s.vars<=1048576
 va:(s.R .va).length=s.vars+1
 vb:∀i,(s.R .va).getD i 0=0\/(s.R .va).getD i 0=1\/(s.R .va).getD i 0= -1
 le:(s.R .le).length=s.vars+1
 re:(s.R .re).length=s.vars+1
 be:(s.R .be).length<=2000000
 tr:(s.R .tr).length<=2000000
 nc:s.nc<=262144
theorem dZ.bo{n:Nat}(h:dZ n l):1<=Go.Proofs.YtbdghpjnifjlmaaGreat.W.bo l/\Go.Proofs.YtbdghpjnifjlmaaGreat.W.bo l<=n:=by
 obtain⟨h1,I,J⟩:=h;unfold Go.Proofs.YtbdghpjnifjlmaaGreat.W.bo;split<;>omega
theorem dZ.bd{n:Nat}(h:dZ n l)(hn:n<=1048576): -1048576<=l/\l<=1048576:=by
 obtain⟨h1,I,J⟩:=h;omega
theorem dZ.neg{n:Nat}(h:dZ n l):dZ n (-l):=by
 obtain⟨h1,I,J⟩:=h;exact⟨by omega,by omega,by omega⟩
theorem vC{n:Nat}(h:dZ n l):aA l<2* (n+1):=by
 obtain⟨h1,I,J⟩:=h;unfold aA;split<;>omega
theorem iw(hl: -1048576<=l/\l<=1048576)(w:World):Calls prog 182 #[.i l] w λe w'=>e=.returned (.i (bo l))/\w'=w:=by
 refine jg.aj ?_;have e:imax l (i64.wrap (0 - l))=bo l:=by
  rw[ao (by omega) (by omega)];unfold imax bo;split<;>split<;>omega
 exact⟨by rw[e],rfl⟩
theorem il(hl: -1048576<=l/\l<=1048576)(w:World):Calls prog 105 #[.i l] w λe w'=>e=.returned (.i (aA l))/\w'=w:=by
 refine pZ.aj ?_;refine ah (λs=>?_) (λs=>?_)
 .have s:l<0:=by simpa using s
  have e:i64.wrap (i64.wrap ((-2)*l)+1)=((aA l:Nat):Int):=by
   rw[ao (x:=(-2)*l) (by omega) (by omega),ao (by omega) (by omega)];unfold aA;rw[v8 s];omega
  exact⟨by rw[e],rfl⟩
 .have s: ¬l<0:=by simpa using s
  have e:i64.wrap (2*l)=((aA l:Nat):Int):=by
   rw[ao (by omega) (by omega)];unfold aA;rw[r8 s];omega
  exact⟨by rw[e],rfl⟩
theorem L9{x:Int}(h1: -128<=x)(I:x<128):IntKind.i8.wrap x=x:=by
 simp only[IntKind.wrap,IntKind.bits,IntKind.signed];simp only[Int.reducePow,Nat.reduceSub,W2,x7,I9];split<;>omega
theorem aH.rD(k:Wf s)(l:Int):s.val l=0\/s.val l=1\/s.val l= -1:=by
 unfold aH.val;split
 .rcases k.vb (-l).toNat with h|h|h<;>rw[h]<;>simp
 .exact k.vb l.toNat
theorem pQ(h:PM w b H s)(k:Wf s)(hl:dZ s.vars l):Calls prog 153 #[cj b,.i l] w λe w'=>e=.returned (.int .i8 (s.val l))/\w'=w:=by
 have hb:=hl.bd k.eM;obtain⟨h1,J,O⟩:=hl;refine iS.aj ?_;refine ah (λr=>?_) (λr=>?_)
 .have r:l<0:=by simpa using r
  have e:i64.wrap (0 - l)= -l:=by rw[ao (by omega) (by omega)];omega
  rw[show i64.wrap (0 - l)= -l from e];refine⟨_,rfl,_,_,_,ae h.st rfl,h.AJ (x:=.va) rfl (by omega) rfl (by rw[k.va];omega) λa ha I=>⟨_,I,?_,rfl⟩⟩;have:=k.vb (-l).toNat;rw[L9 (by omega) (by omega)];unfold aH.val;rw[v8 r];simp
 .have r: ¬l<0:=by simpa using r
  refine⟨_,rfl,_,_,_,ae h.st rfl,h.AJ (x:=.va) rfl (by omega) rfl (by rw[k.va];omega) λa ha I=>⟨_,I,?_,rfl⟩⟩;unfold aH.val;rw[r8 r]
theorem Pp(h:PM w b H s)(k:Wf s)(hl:dZ s.vars l):Calls prog 185 #[cj b,.i l] w λe w'=>e=.returned (.i (s.rk l))/\mO w w':=by
 have hb:=hl.bd k.eM;have ha:=hl.bo;refine gY.aj ?_;refine(pQ h k hl).mono ?_;rintro e w1⟨rfl,rfl⟩;refine⟨_,rfl,ah (λr=>⟨?_,mO.refl _⟩) (λr=>?_)⟩
 .unfold aH.rk;rw[v8 (by simpa using r)]
 .refine ⟨(·=w1.drew),rfl,_,rfl,_,_,_,fI (ae h.st rfl),(iw hb _).mono ?_⟩;rintro e w2⟨rfl,rfl⟩;refine⟨_,rfl,rfl,h.drew.AJ (x:=.le) rfl (by omega) rfl (by rw[k.le];omega) λa ha I=>⟨_,fI I,?_,(mO.refl _).drew⟩⟩;unfold aH.rk;rw[r8 (by simpa using r)];rfl
end
section
variable{w w' w2 w3:World}{b:Nat}{H H' H2:Pt->Sl}{s t u:aH}{l:Int}
structure Pw(w w':World)(b:Nat)(H H':Pt->Sl)(s':aH):Prop where
 pm:PM w' b H' s'
 mod:aE (λk=>∃x,own b H x=some k) w w'
 ft:∀x k,own b H' x=some k->(∃y,own b H y=some k)\/w.heap.size<=k
theorem Pw.refl(h:PM w' b H s)(g:ak w w'):Pw w w' b H H s:=⟨h,g.mono λ_ _ e=>e.elim,λx _ I=> .inl ⟨x,I⟩⟩
theorem Pw.trans(h:Pw w w2 b H H2 t)(k:Pw w2 w3 b H2 H' u):Pw w w3 b H H' u:=by
 refine⟨k.pm,h.mod.then k.mod λj I ⟨x,e⟩=>?_,λx j I=>?_⟩
 .rcases h.ft x j e with e|e
  .exact e
  .omega
 .rcases k.ft x j I with⟨y,e⟩|e
  .exact h.ft y j e
  .exact .inr (Wl h.mod.size e)
theorem Pw.grow(h:Pw w w2 b H H' t)(g:ak w2 w3):Pw w w3 b H H' t:=h.trans (.refl (h.pm.grow g) g)
theorem Pw.drew(h:Pw w w2 b H H' t):Pw w w2.drew b H H' t:=h.grow (aE.refl _).drew
theorem Pw.df{w0:World}(g:ak w0 w)(h:Pw w w2 b H H' t):Pw w0 w2 b H H' t:=
 ⟨h.pm,(g.mono λ_ _ e=>e.elim).trans h.mod,λx k I=> (h.ft x k I).imp id λe=>Wl g.size e⟩
theorem Pw.row(h:PM w' b H t){x:Pt}(J:x.row=true)(m:aE (λk=>aF (H x).p=some k) w w'):Pw w w' b H H t:=
 ⟨h,m.mono λk _ e=>⟨x,by rw[cy (dX J).1];exact e⟩,λx _ I=> .inl ⟨x,I⟩⟩
theorem Pw.head{x z:Pt}{q:Sl}(J:x≠ .st)(h:PM w3 b (bI H x q) t)(m:aE (λk=>aF (H x).p=some k) w w2)(m2:aE (λk=>own b H z=some k) w2 w3)
 (hp:∀k,aF q.p=some k->aF (H x).p=some k\/w.heap.size<=k):Pw w w3 b H (bI H x q) t:=by
 refine⟨h,(m.mono λk _ e=>⟨x,by rw[cy J];exact e⟩).trans (m2.mono λk _ e=>⟨z,e⟩),λy k I=>?_⟩;by_cases e:y=x
 .subst e;rw[cy J,bE]at I;rcases hp k I with e|e
  .exact .inl ⟨y,by rw[cy J];exact e⟩
  .exact .inr e
 .refine .inl ⟨y,?_⟩;cases y<;>first|exact I| (simp only[own]at I ⊢;rwa [aW e]at I)
theorem Gk(h:PM w b H s){J:sn}{x:Pt}{w1:World}(g:w.heap.size<=w1.heap.size)(hp:J=(H x).p\/J=some ⟨w1.heap.size,0,none⟩):
 (∀k,aF J=some k->aF (H x).p=some k\/∀y,own b H y≠some k)/\(∀k,aF J=some k->aF (H x).p=some k\/w.heap.size<=k):=by
 rcases hp with rfl|rfl
 .exact ⟨λk I=> .inl I,λk I=> .inl I⟩
 .exact ⟨λk I=> .inr (h.cE (by have:=aO I;omega)),λk I=> .inr (by have:=aO I;omega)⟩
theorem PM.jS(h:PM w b H s){x:Pt}(I:x.field=true)(y:Int)(hlen:(s.R x).length<=4000000){n:Nat}(hn:n=(H x).n){K:World->Prop}
 (U:∀w3 q,PM w3 b (bI H x q) (s.set x (s.R x++ [y]))->Pw w w3 b H (bI H x q) (s.set x (s.R x++ [y]))->K w3):
 ∀J w1,jz (.cells #[.i y] aB) w J w1->∃w2,∃ (Q:sn) (n' c':Nat),(Builtin.append_ #[aI,aI] aI #[.slice (H x).p n (H x).c,.slice (some (qw J)) 1 1]).run prog w1=.ok (.slice Q n' c') w2/\
  ∃a:Addr,(some ⟨b,0,none⟩:sn)=some a/\∃w3,bD (a.add x.off) 0 [.slice Q n' c'] w2 w3/\K w3:=by
 intro J w1 h1;have hr:=tj I;have X:x.f=Value.int .i64:=by cases x<;>simp[Pt.field]at I<;>rfl
 have Y:x.T=aB:=by cases x<;>simp[Pt.field]at I<;>rfl
 have V:=h.grow h1.mod;have o:d_ aB w1 (H x).p (H x).c (s.R x):=by have:=V.row x hr;rw[X,Y]at this;exact this
 refine o.jS cR y h1.has rfl (by rw[hn,h.len x hr]) eI (by omega) λw2 Q c' o2 m2 O ag=>⟨_,rfl,?_⟩
 have g1:=h1.mod.size;obtain⟨f1,f2⟩:=Gk h (x:=x) g1 O;refine V.head I (c':=c') (l':=s.R x++ [y]) (by rw[X,Y];exact o2) (V.Kd hr m2) (λk U=> (f1 k U)) (by simp) λw3 Z m3=>U w3 _ Z (Pw.head (z:=.st) (dX hr).1 Z ((h1.mod.mono λ_ _ e=>e.elim).trans m2) (m3.mono λk _ e=>by rw[e];rfl) f2)
def aH.put(s:aH)(l r:Int):aH:=
 (((s.set .va ((s.R .va).set (bo l).toNat (if l<0 then -1 else 1))).set .le ((s.R .le).set (bo l).toNat (s.R .be).length)).set .re ((s.R .re).set (bo l).toNat r)).set .tr (s.R .tr++ [l])
theorem Ig(h:PM w b H s)(k:Wf s)(hl:dZ s.vars l)(r:Int):Calls prog 156 #[cj b,.i l,.i r] w λe w'=>e=.returned (.tuple #[])/\∃q,Pw w w' b H (bI H .tr q) (s.put l r):=by
 have hb:=hl.bd k.eM;have ha:=hl.bo;have b':=hl;obtain⟨l1,l2,l3⟩:=b';have sz:∀x,x≠Pt.va->∀V,(s.set .va V).R x=s.R x:=λx hx V=>aW hx;have tail:∀w7:World,PM w7 b H (s.set .va ((s.R .va).set (bo l).toNat (if l<0 then -1 else 1)))->Pw w.drew w7 b H H (s.set .va ((s.R .va).set (bo l).toNat (if l<0 then -1 else 1)))->
  (∃I:World->Prop,I w7.drew/\
  ∃bb,(some ⟨b,0,none⟩:sn)=some bb/\∃Q ac a',yY I (bb.add 4) (.slice Q ac a')/\
  Calls prog 182 #[.i l] w7.drew λe b3=>∃bu,e=.returned (.i bu)/\
  I b3/\∃a8,(some ⟨b,0,none⟩:sn)=some a8/\∃ag an bg,yY I (a8.add 5) (.slice ag an bg)/\
  Calls prog 182 #[.i l] b3 λe a7=>∃az,e=.returned (.i az)/\
  I a7/\∃bY,(some ⟨b,0,none⟩:sn)=some bY/\∃a_ ap bn,yY I (bY.add 7) (.slice a_ ap bn)/\
  aV Q ac bu 1 λa46=>
  ∃aT,bD a46 0 [.i (ap:Int)] a7 aT/\
  aV ag an az 1 λb6=>
  ∃av,bD b6 0 [.i r] aT av/\
  ∃a50,(some ⟨b,0,none⟩:sn)=some a50/\∃O U Z,av.cell? (a50.add 6)=some (.slice O U Z)/\
  ∀bk a6,jz (.cells #[.i l] aB) av bk a6->
  ∃ay X Y ar,(Builtin.append_ #[aI,aI] aI #[.slice O U Z,.slice (some (qw bk)) 1 1]).run prog a6=.ok (.slice X Y ar) ay/\
  ∃ax,(some ⟨b,0,none⟩:sn)=some ax/\∃bx,bD (ax.add 6) 0 [.slice X Y ar] ay bx/\
  ((Ending.returned (.tuple #[])=.returned (.tuple #[]))/\∃q,Pw w bx b H (bI H .tr q) (s.put l r))):=by
  intro w7 J p7;generalize hV:(s.R .va).set (bo l).toNat (if l<0 then -1 else 1)=V at J p7;refine⟨(·=w7.drew),rfl,_,rfl,_,_,_,fI (ae J.drew.st rfl),(iw hb _).mono ?_⟩;rintro e w8⟨rfl,rfl⟩;refine⟨_,rfl,rfl,_,rfl,_,_,_,fI (ae J.drew.st rfl),(iw hb _).mono ?_⟩;rintro e w9⟨rfl,rfl⟩;refine⟨_,rfl,rfl,_,rfl,_,_,_,fI (ae J.drew.st rfl),J.drew.Lh (x:=.le) rfl (by omega) rfl (by rw[sz _ (by simp),k.le];omega) (y:=(s.R .be).length) (by rw[h.len .be rfl];rfl) rfl λcm bf b7=>?_⟩;refine bf.Lh (x:=.re) rfl (by omega) rfl (by simp[aH.set,bI,k.re];omega) (y:=r) rfl rfl λcr aw b5=>?_;have b_:=(p7.drew.trans (Pw.row bf (x:=.le) rfl b7)).trans (Pw.row aw (x:=.re) rfl b5);refine⟨_,rfl,_,_,_,ae aw.st rfl,?_⟩;refine aw.jS (x:=.tr) rfl l (by have:=k.tr;simp[aH.set,bI];omega) rfl λcp q ce b8=>?_;refine⟨rfl,q,?_⟩;have b9:s.put l r=((((s.set .va V).set .le (((s.set .va V).R .le).set (bo l).toNat ((s.R .be).length))).set .re ((((s.set .va V).set .le (((s.set .va V).R .le).set (bo l).toNat ((s.R .be).length))).R .re).set (bo l).toNat r)).set .tr
   ((((s.set .va V).set .le (((s.set .va V).R .le).set (bo l).toNat ((s.R .be).length))).set .re ((((s.set .va V).set .le (((s.set .va V).R .le).set (bo l).toNat ((s.R .be).length))).R .re).set (bo l).toNat r)).R .tr++ [l])):=by
   simp[aH.put,<- hV,aH.set,bI]
  rw[b9];exact(b_.trans b8).df (aE.refl w).drew
 refine iN.aj ?_;refine⟨(·=w.drew),rfl,_,rfl,_,_,_,fI (ae h.drew.st rfl),(iw hb _).mono ?_⟩;rintro e w1⟨rfl,rfl⟩;refine⟨_,rfl,rfl,h.drew.Lh (x:=.va) rfl (by omega) rfl (by rw[k.va];omega) (y:=1) rfl rfl λw3 h3 m3=>ah (λr=>?_) (λr=>?_)⟩
 .have r:l<0:=by simpa using r
  have e:i64.wrap (0 - l)=bo l:=by rw[ao (by omega) (by omega)];unfold bo;rw[v8 r];omega
  rw[e];refine⟨_,rfl,_,_,_,ae h3.st rfl,h3.Lh (x:=.va) rfl (by omega) rfl (by simp[aH.set,bE,k.va];omega) (y:= -1) rfl rfl λw7 J m7=>?_⟩;have e7:(s.set .va ((s.R .va).set (bo l).toNat 1)).set .va (((s.set .va ((s.R .va).set (bo l).toNat 1)).R .va).set (bo l).toNat (-1))=s.set .va ((s.R .va).set (bo l).toNat (if l<0 then -1 else 1)):=by
   rw[v8 r];simp only[aH.set,bE,List.set_set];congr 1;funext y;simp only[bI];split<;>rfl
  rw[e7]at J;have p7:=(Pw.row h3 (x:=.va) rfl m3).trans (Pw.row J (x:=.va) rfl m7);exact tail w7 J p7
 .have r: ¬l<0:=by simpa using r
  have p3:=Pw.row h3 (x:=.va) rfl m3;refine tail w3 ?_ ?_
  .rw [r8 r];exact h3
  .rw [r8 r];exact p3
end
section
variable{w w' w2 w3:World}{b:Nat}{H H' H2:Pt->Sl}{s t u:aH}{l:Int}
def C7(n:Nat)(l:Int):Bool:=cC l && decide (bo l<=n)
theorem iX{n:Nat}(hn:n<=1048576):C7 n l=true↔dZ n l:=by
 unfold C7 cC dZ bo;simp only[ts,x7];split<;>omega
theorem DZ(h:PM w b H s)(k:Wf s):∃a,(H .va).p=some a:=by
 rcases(h.row .va rfl).un with⟨_,_,e⟩| ⟨g,_,e,_⟩
 .have:=k.va;rw[e]at this;simp at this
 .exact ⟨_,e⟩
theorem xR(h:PM w b H s)(k:Wf s)(l:Int):Calls prog 149 #[cj b,.i l] w λe w'=>e=.returned (.bool (C7 s.vars l))/\ak w w':=by
 refine lV.aj ?_;obtain⟨Y,J⟩:=DZ h k;refine⟨λu=>ak w u,(aE.refl w).drew,bJ rfl ⟨_,rfl,_,_,_,λu g=>ae (h.grow g).st rfl,?_⟩⟩;rw[J];refine bJ rfl ?_;intro U w1 h1;have Q:ak w w1:=(aE.refl w).drew.trans h1.mod;have v1:Vw sT w1 (some ⟨U,0,none⟩) [l]:=by
  intro j O;have O:j=0:=by simpa using O
  subst O;exact⟨_,rfl,ae h1.has rfl⟩
 refine⟨Q,(fW v1 rfl (by simp[maxLen])).mono ?_⟩;rintro e w2⟨rfl,X⟩;have I:=Q.trans X;have V:jL [l]=cC l:=by simp[jL]
 refine⟨_,rfl,I,?_⟩;rw[V];cases hl:cC l with
 |false=>exact bq rfl ⟨by simp[C7,hl],I⟩
 |true=>
  refine bJ rfl ((iw (dj hl).2 _).mono ?_);rintro e w3⟨rfl,rfl⟩;exact⟨_,rfl,I,_,rfl,_,λu g=>ae (h.grow g).st rfl,by simp[C7,hl],I⟩
def aH.value(s:aH)(l:Int):Int:=if C7 s.vars l then s.val l else 0
def aH.o_(s:aH)(l:Int):Int:=if C7 s.vars l && s.val l !=0 then s.bM l else -1
def aH.fH(s:aH)(l:Int):Int:=if C7 s.vars l && s.val l !=0 then s.nD l else -1
theorem Br(h:PM w b H s)(k:Wf s)(l:Int):Calls prog 108 #[cj b,.i l] w λe w'=>e=.returned (.i (s.value l))/\ak w w':=by
 refine fR.aj ((xR h k l).mono ?_);rintro e w1⟨rfl,I⟩;refine⟨_,rfl,?_⟩;cases hi:C7 s.vars l with
 |false=>exact bJ rfl ⟨by simp[aH.value,hi],I⟩
 |true=>
  refine bq rfl ((pQ (h.grow I) k ((iX k.eM).1 hi)).mono ?_);rintro e w2⟨rfl,rfl⟩;refine⟨_,rfl,?_,I⟩;have:=aH.rD k l;rw[ao (by omega) (by omega)];simp[aH.value,hi]
theorem KG(h:PM w b H s)(k:Wf s)(l:Int):Calls prog 191 #[cj b,.i l] w λe w'=>e=.returned (.i (s.o_ l))/\ak w w':=by
 refine fV.aj ((xR h k l).mono ?_);rintro e w1⟨rfl,I⟩;refine⟨_,rfl,?_⟩;cases hi:C7 s.vars l with
 |false=>exact bJ rfl ⟨by simp[aH.o_,hi],I⟩
 |true=>
  have hv:=(iX k.eM).1 hi;have ha:=hv.bo;have h1:=h.grow I;refine bq rfl ((pQ h1 k hv).mono ?_);rintro e w2⟨rfl,rfl⟩;refine⟨_,rfl,ah (λr=>⟨by simp at r;simp[aH.o_,r],I⟩) (λr=>?_)⟩;refine⟨(·=w2.drew),rfl,_,rfl,_,_,_,fI (ae h1.drew.st rfl),(iw (hv.bd k.eM) _).mono ?_⟩;rintro e w3⟨rfl,rfl⟩;refine⟨_,rfl,rfl,h1.drew.AJ (x:=.le) rfl (by omega) rfl (by rw[k.le];omega) λa _ J=>⟨_,fI J,?_,I.drew⟩⟩;simp at r;simp[aH.o_,hi,r,aH.bM]
theorem Km(h:PM w b H s)(k:Wf s)(l:Int):Calls prog 193 #[cj b,.i l] w λe w'=>e=.returned (.i (s.fH l))/\ak w w':=by
 refine eW.aj ((xR h k l).mono ?_);rintro e w1⟨rfl,I⟩;refine⟨_,rfl,?_⟩;cases hi:C7 s.vars l with
 |false=>exact bJ rfl ⟨by simp[aH.fH,hi],I⟩
 |true=>
  have hv:=(iX k.eM).1 hi;have ha:=hv.bo;have h1:=h.grow I;refine bq rfl ((pQ h1 k hv).mono ?_);rintro e w2⟨rfl,rfl⟩;refine⟨_,rfl,ah (λr=>⟨by simp at r;simp[aH.fH,r],I⟩) (λr=>?_)⟩;refine⟨(·=w2.drew),rfl,_,rfl,_,_,_,fI (ae h1.drew.st rfl),(iw (hv.bd k.eM) _).mono ?_⟩;rintro e w3⟨rfl,rfl⟩;refine⟨_,rfl,rfl,h1.drew.AJ (x:=.re) rfl (by omega) rfl (by rw[k.re];omega) λa _ J=>⟨_,fI J,?_,I.drew⟩⟩;simp at r;simp[aH.fH,hi,r,aH.nD]
theorem KQ(h:PM w b H s):Calls prog 67 #[cj b] w λe w'=>e=.returned (.i (s.R .be).length)/\w'=w:=by
 refine gQ.aj (bq rfl ⟨_,rfl,_,_,_,ae h.st rfl,?_,rfl⟩);rw[h.len .be rfl]
theorem Bw(h:PM w b H s)(ht:(s.R .tr).length<=1000000):Calls prog 170 #[cj b] w λe w'=>∃ (q:sn) (d:Nat),e=.returned (.slice q (s.R .tr).length d)/\d_ aB w' q d (s.R .tr)/\ak w w'/\(∀b,aF q=some b->w.heap.size<=b):=by
 refine fM.aj (bq rfl ⟨_,rfl,_,_,_,ae h.st rfl,?_⟩);refine(iA (h.row .tr rfl).vw (h.len .tr rfl) (by rw[h.len .tr rfl];exact ht)).mono ?_;rintro e w1⟨q,d,rfl,o,g,f⟩;exact⟨_,_,_,rfl,q,d,rfl,o,g,f⟩
def aH.is(s:aH)(i:Int):Bool:=decide (0<=i/\i<s.nc) && !s.gone i.toNat
theorem Fa(h:PM w b H s)(i:Int):Calls prog 160 #[cj b,.i i] w λe w'=>e=.returned (.bool (s.is i))/\w'=w:=by
 refine iI.aj (bJ rfl (ah (λr=>?_) λr=>?_))
 .have r:0<=i:=by simpa using r
  refine⟨_,rfl,_,_,_,ae h.st rfl,ah (λI=>?_) λI=>?_⟩
  .have I:i<s.nc:=by rw[h.cn]at I;simpa using I
   refine⟨_,rfl,_,_,_,ae h.st rfl,h.O_ (i:=i.toNat) (by omega) rfl (by omega) λa J=>⟨_,J.get 2 _ rfl,?_,rfl⟩⟩;simp[aH.is,r,I]
  .have I: ¬i<s.nc:=by rw[h.cn]at I;simpa using I
   exact⟨by simp[aH.is,I],rfl⟩
 .have r: ¬0<=i:=by simpa using r
  exact⟨by simp[aH.is,r],rfl⟩
theorem Kb(h:PM w b H s)(i:Int)(ha:∀i,(s.R (.a i)).length<=1000000):Calls prog 110 #[cj b,.i i] w λe w'=>
 ∃ (q:sn) (d:Nat),e=.returned (.tuple #[.slice q (if s.is i then s.R (.a i.toNat) else []).length d,.bool (s.is i)])/\d_ aB w' q d (if s.is i then s.R (.a i.toNat) else [])/\ak w w'/\(∀b,aF q=some b->w.heap.size<=b):=by
 refine fe.aj ((Fa h i).mono ?_);rintro e w1⟨rfl,rfl⟩;refine⟨_,rfl,?_⟩;cases hi:s.is i with
 |false=>exact bJ rfl ⟨none,0,rfl,Ow.nil _ _ _,aE.refl _,λb e=>by simp[aF]at e⟩
 |true=>
  have J:0<=i/\i<s.nc:=by simp[aH.is]at hi;exact hi.1
  refine bq rfl ⟨_,rfl,_,_,_,ae h.st rfl,h.O_ (i:=i.toNat) (by omega) rfl (by omega) λa I=>⟨_,_,_,I.get 0 _ rfl,?_⟩⟩;refine(iA (h.row (.a i.toNat) rfl).vw (h.len _ rfl) (by rw[h.len _ rfl];exact ha _)).mono ?_;rintro e w1⟨q,d,rfl,o,g,f⟩;exact⟨_,_,_,rfl,q,d,rfl,o,g,f⟩
theorem TZ{i:Int}{I:Nat}(h:bO w I #[.i i])(x:Int):Calls prog 186 #[.i x,.pointer (some ⟨I,0,none⟩)] w λe w'=>e=.returned (.bool (x==i))/\ak w w':=
 dw.aj ⟨_,aP h rfl,rfl,aE.refl _⟩
theorem Uz{i:Int}{I:Nat}(h:bO w I #[.i i])(x:Int):Calls prog 183 #[.i x,.pointer (some ⟨I,0,none⟩)] w λe w'=>e=.returned (.bool (x==i))/\ak w w':=
 eV.aj ⟨_,aP h rfl,rfl,aE.refl _⟩
theorem J9:f_ prog 186=true:=by kernel_rfl
theorem KO:f_ prog 183=true:=by kernel_rfl
theorem SZ(h:PM w b H s)(k:Wf s){I:Nat}(h1:bO w I #[cj b]){x:Int}(J:dZ s.vars x):Calls prog 152 #[.i x,.pointer (some ⟨I,0,none⟩)] w λe w'=>e=.returned (.bool (decide (s.val x<0)))/\ak w w':=by
 refine dv.aj ⟨_,aP h1 rfl,(pQ h k J).mono ?_⟩;rintro e w1⟨rfl,rfl⟩;exact⟨_,rfl,rfl,aE.refl _⟩
theorem HK:f_ prog 152=true:=by kernel_rfl
theorem Vl(h:PM w b H s)(k:Wf s){I:Nat}(h1:bO w I #[cj b])(x:Int):Calls prog 148 #[.i x,.pointer (some ⟨I,0,none⟩)] w λe w'=>e=.returned (.bool (!C7 s.vars x))/\ak w w':=by
 refine fN.aj ⟨_,aP h1 rfl,(xR h k x).mono ?_⟩;rintro e w1⟨rfl,g⟩;exact⟨_,rfl,rfl,g⟩
theorem LH:f_ prog 148=true:=by kernel_rfl
end
section
variable{w w' w0 w2 w3 wA:World}{b:Nat}{H H' H2:Pt->Sl}{s t u:aH}{l:Int}
theorem Wf.set{x:Pt}(k:Wf s)(h1:x≠ .va)(J:x≠ .le)(O:x≠ .re)(I:x≠ .be)(h5:x≠ .tr)(l:List Int):Wf (s.set x l):=
 ⟨k.eM,by simp only[aH.set,aW (WL h1)];exact k.va,by simp only[aH.set,aW (WL h1)];exact k.vb,by simp only[aH.set,aW (WL J)];exact k.le,by simp only[aH.set,aW (WL O)];exact k.re,
   by simp only[aH.set,aW (WL I)];exact k.be,by simp only[aH.set,aW (WL h5)];exact k.tr,k.nc⟩
theorem kx(e:t.R .va=s.R .va)(l:Int):t.val l=s.val l:=by unfold aH.val;rw[e]
theorem Ma(e:t.R .va=s.R .va)(I:t.R .le=s.R .le)(l:Int):t.rk l=s.rk l:=by unfold aH.rk aH.bM;rw[kx e,I]
theorem aq{x y:Pt}{l:List Int}(h:y≠x):(s.set x l).R y=s.R y:=aW h
theorem aQ{x:Pt}{l:List Int}:(s.set x l).R x=l:=bE
theorem set_set{x:Pt}{l m:List Int}:(s.set x l).set x m=s.set x m:=by
 simp only[aH.set];congr 1;funext y;simp only[bI];split<;>rfl
theorem fJ{x:Pt}:s.set x (s.R x)=s:=by
 unfold aH.set;congr 1;funext y;simp only[bI];split
 .rename_i e;rw[e]
 .rfl
theorem PM.KR(h:PM w0 b H t){j:Nat}(V:j<2* (t.vars+1))(g:ak w0 wA){n:Nat}{i:Int}(hb:bO wA n #[.i i])(hlen:(t.R (.w j)).length<=4000000){K:World->Prop}
 (X:∀w3 q,Pw w0 w3 b H (bI H (.w j) q) (t.set (.w j) (t.R (.w j)++ [i]))->K w3) {I:Int} (U:I=j):
 ∃w2,∃ (O:sn) (n' c':Nat),(Builtin.append_ #[aI,aI] aI #[.slice (H (.w j)).p (H (.w j)).n (H (.w j)).c,.slice (some (qw n)) 1 1]).run prog wA=.ok (.slice O n' c') w2/\
  aE (λk=>aF (H (.w j)).p=some k) w0 w2/\aV (H .wa).p (H .wa).n I 1 λa=>∃w3,bD a 0 [.slice O n' c'] w2 w3/\K w3:=by
 have Q:=h.grow g;have o:d_ aB wA (H (.w j)).p (H (.w j)).c (t.R (.w j)):=Q.row (.w j) rfl;refine o.jS cR i hb rfl (h.len (.w j) rfl) eI (by omega) λw2 O c' o2 m2 J aa=>?_;have m:aE (λk=>aF (H (.w j)).p=some k) w0 w2:=(g.mono λ_ _ e=>e.elim).trans m2;obtain⟨Y,f2⟩:=Gk h (x:=.w j) g.size J;refine⟨m,Q.JE V o2 (Q.Kd rfl m2) Y (by simp) h.wn U λw3 Z m3=>X w3 _ (Pw.head (z:=.wa) (by simp) Z m m3 f2)⟩
def wF(i:Int)(t:aH)(I:List Int):aH:=I.foldl (λt x=>t.set (.w (aA x)) (t.R (.w (aA x))++ [i])) t
theorem Ka(i:Int)(t:aH)(I:List Int)(x:Int):wF i t (I++ [x])=(wF i t I).set (.w (aA x)) ((wF i t I).R (.w (aA x))++ [i]):=by simp[wF]
theorem sK(i:Int){y:Pt}(J:∀j,y≠ .w j):∀ (I:List Int) (t:aH),(wF i t I).R y=t.R y
 | [],_=>rfl
 |_::I,_=> (sK i J I _).trans (aq (J _))
theorem ry(i:Int):∀ (I:List Int) (t:aH),(wF i t I).vars=t.vars/\(wF i t I).nc=t.nc/\(wF i t I).gone=t.gone/\(wF i t I).done=t.done
 | [],_=>⟨rfl,rfl,rfl,rfl⟩
 |x::I,t=>ry i I (t.set (.w (aA x)) (t.R (.w (aA x))++ [i]))
theorem Mo(i:Int)(j:Nat):∀ (I:List Int) (t:aH),((wF i t I).R (.w j)).length<=(t.R (.w j)).length+I.length
 | [],_=>vy _
 |x::I,t=>by
  have:=Mo i j I (t.set (.w (aA x)) (t.R (.w (aA x))++ [i]));refine Wl this ?_;by_cases e:aA x=j
  .subst e;rw[aQ];simp;omega
  .rw [aq (λh=>e (by injection h with h;exact h.symm))];simp
def BR(rk:Int->Int)(n:Nat)(l:List Int):Prop:=∀t,t<n->∀j,t<=j->j<l.length->rk (l.getD j 0)<=rk (l.getD t 0)
def mD(s:aH)(i:Nat)(l':List Int):aH:=
 let u:=wF i (s.set (.l i) l') (l'.take 2)
 if l'.length<2\/s.val (l'.getD 1 0)<0 then u.set .lo (s.R .lo++ [(i:Int)]) else u
def uf(H H':Pt->Sl):Prop:=∀x,(∀j,x≠ .w j)->x≠ .lo->H' x=H x
theorem uf.refl:uf H H:=λ_ _ _=>rfl
theorem uf.wt(h:uf H H'){j:Nat}{q:Sl}:uf H (bI H' (.w j) q):=λx h1 I=>by rw[aW (h1 j)];exact h x h1 I
set_option linter.unusedVariables false in
theorem Di(h:PM w b H s)(k:Wf s){i:Nat}(hi:i<s.nc)(hl:∀x∈s.R (.l i),dZ s.vars x)(hn:(s.R (.l i)).length<=100000)(hw:∀j,(s.R (.w j)).length+2<=4000000)(ek:(s.R .lo).length<=4000000):
 Calls prog 150 #[cj b,.i i] w λe w'=>e=.returned (.tuple #[])/\∃l' H',BR s.rk 2 l'/\l'.Perm (s.R (.l i))/\Pw w w' b H H' (mD s i l')/\uf H H'/\(2<=l'.length->0<=s.val (l'.getD 1 0)->H' .lo=H .lo):=by
 have nc:=k.nc;refine eU.aj ?_;refine⟨_,rfl,_,_,_,ae h.st rfl,h.O_ hi rfl rfl λa3 dc=>⟨_,_,_,dc.get 1 _ rfl,?_⟩⟩;have aT:(H (.l i)).n=(s.R (.l i)).length:=h.len (.l i) rfl;generalize hN:(s.R (.l i)).length=N at*
 refine⟨λK u m=>∃ (t:Nat) (l':List Int),K=t/\t<=2/\t<=N/\m=2 - t/\l'.Perm (s.R (.l i))/\BR s.rk t l'/\Pw w u b H H (s.set (.l i) l'),
  ⟨_,0,s.R (.l i),rfl,xc _,xc _,rfl,YL _,λt ht=>by omega,by rw[fJ];exact Pw.refl h (aE.refl w)⟩,?_⟩
 rintro K w9 m _⟨t,l',rfl,ht,fa,rfl,pm,hb,P9⟩;have hlen:l'.length=N:=by rw[pm.length_eq,hN]
 have bg:∀x∈l',dZ s.vars x:=λx hx=>hl x (pm.mem_iff.1 hx);have e2:∀y,y≠Pt.l i->∀L,(s.set (.l i) L).R y=s.R y:=λy hy L=>aq hy;have c7:mP 2 ((H (.l i)).n:Int)=((min 2 N:Nat):Int):=by rw[aT];unfold mP;split<;>omega
 rw[c7];refine ah (λr=>?_) (λr=>?_)
 .have r:t<min 2 N:=by simp at r;omega
  have h9:=P9.pm;have k9:Wf (s.set (.l i) l'):=k.set (by simp) (by simp) (by simp) (by simp) (by simp) l';refine⟨λB J u m=>∃ (B' J':Nat),B=B'/\J=J'/\t<=B'/\B'<N/\B'<J'/\J'<=N/\m=N - J'/\(∀x,t<=x->x<J'->s.rk (l'.getD x 0)<=s.rk (l'.getD B' 0))/\ak w9 u,
   ⟨_,t,t+1,rfl,wN,vy _,by omega,by omega,by omega,rfl,λx x1 x2=> (by rw[show x=t by omega];exact Ww _),aE.refl _⟩,?_⟩
  rintro B J b5 m _⟨B,J,rfl,rfl,tB,BN,BJ,JN,rfl,Z,ac⟩;refine ah (λQ=>?_) (λQ=>?_)
  .have Q:J<N:=by rw[aT]at Q;simpa using Q
   have ag:=h9.grow ac;have hr:∀ {u:World} {X:Nat},ak w9 u->X<N->Calls prog 185 #[cj b,.i (l'.getD X 0)] u λe w'=>e=.returned (.i (s.rk (l'.getD X 0)))/\ak u w':=by
    intro u X g hX;refine(Pp (h9.grow g) k9 (bg _ (cw (by omega)))).mono ?_;rintro e w'⟨rfl,sm⟩;rw[Ma (s:=s) (aq (by simp)) (aq (by simp))];exact⟨rfl,sm.mod⟩
   refine⟨λu=>ak b5 u,(aE.refl _).drew,ag.AJ (x:=.l i) rfl (by omega) rfl (by rw[aQ];omega) λeR _ b_=>⟨_,λu g=>ee g b_ id,?_⟩⟩;rw[aQ,tn];refine(hr ac.drew Q).mono ?_;rintro e e7⟨rfl,d7⟩;have bb:=((aE.refl b5).drew).trans d7;refine⟨_,rfl,bb,ag.AJ (x:=.l i) rfl (by omega) rfl (by rw[aQ];omega) λe8 _ bY=>⟨_,λu g=>ee g bY id,?_⟩⟩;rw[aQ,tn];refine(hr (ac.trans bb) BN).mono ?_;rintro e er⟨rfl,d6⟩;have co:=ac.trans (bb.trans d6);refine⟨_,rfl,ah (λr3=>?_) (λr3=>?_)⟩
   .have r3:s.rk (l'.getD B 0)<s.rk (l'.getD J 0):=by simpa using r3
    refine⟨_,?_,J,J+1,rfl,wN,by omega,Q,by omega,by omega,rfl,λx x1 x2=>?_,co⟩
    .omega
    .by_cases e:x=J
     .rw [e];exact Ww _
     .have:=Z x x1 (by omega);omega
   .have r3:s.rk (l'.getD J 0)<=s.rk (l'.getD B 0):=by simpa using r3
    refine⟨_,?_,B,J+1,rfl,wN,tB,BN,by omega,by omega,rfl,λx x1 x2=>?_,co⟩
    .omega
    .by_cases e:x=J
     .rw [e];exact r3
     .exact Z x x1 (by omega)
  .have Q:J=N:=by rw[aT]at Q;simp at Q;omega
   subst Q;have ag:=(h9.grow ac).drew;refine ag.AJ (x:=.l i) rfl (by omega) rfl (by rw[aQ];omega) λa25 _ b8=>⟨_,b8,ag.AJ (x:=.l i) rfl (by omega) rfl (by rw[aQ];omega) λe4 _ b6=>⟨_,b6,?_⟩⟩
   rw[aQ,tn,tn];refine ag.Lh (x:=.l i) rfl (by omega) rfl (by rw[aQ];omega) (y:=l'.getD B 0) rfl rfl λe3 c2 c1=>c2.Lh (x:=.l i) rfl (by omega) rfl (by simp[aQ];omega) (y:=l'.getD t 0) rfl rfl λdq a8 dk=>?_;rw[aQ,tn,tn,set_set,aQ,set_set]at a8;have dA:(l'.set t (l'.getD B 0)).set B (l'.getD t 0)=wJ l' t B:=rfl;rw[dA]at a8;have dh:Pw w dq b H H (s.set (.l i) (wJ l' t B)):=(P9.grow ac.drew).trans ⟨a8,(c1.mono λk _ e=>⟨.l i,e⟩).trans (dk.mono λk _ e=>⟨.l i,e⟩),λx _ hk=> .inl ⟨x,hk⟩⟩;refine⟨_,?_,t+1,_,wN,by omega,by omega,rfl,(zN (by omega) (by omega)).trans pm,?_,dh⟩
   .omega
   .intro y hy j ay hj;rw[vY]at hj;rw[nK (by omega) (by omega),nK (by omega) (by omega)];by_cases e:y=t
    .subst e;have du:s.rk (l'.getD y 0)<=s.rk (l'.getD B 0):=Z y (vy _) (by omega);have e5:(if y=B then l'.getD y 0 else if y=y then l'.getD B 0 else l'.getD y 0)=l'.getD B 0:=by
      split
      .rename_i e;rw[<- e]
      .rw [v8 rfl]
     rw[e5];split
     .exact du
     .split
      .exact Ww _
      .exact Z j ay (by omega)
    .rw [r8 (show y≠B by omega),r8 e];have a_:y<t:=by omega
     split
     .exact hb y a_ t (by omega) (by omega)
     .split
      .exact hb y a_ B (by omega) (by omega)
      .exact hb y a_ j ay (by omega)
 .have r:t=min 2 N:=by simp at r;omega
  have h9:=P9.pm;have b7:BR s.rk 2 l':=λy hy j ay hj=>hb y (by omega) j ay hj;have ec:N<=(H (.l i)).c:=by
   rcases(h9.row (.l i) rfl).un with⟨_,e1,e2⟩| ⟨_,_,_,_,e,_⟩
   .rw [aQ]at e2;rw[e2]at hlen;simp at hlen;omega
   .rw [aQ]at e;omega
  refine gh 0 (min 2 N) (H (.l i)).c rfl rfl rfl (vy _) (by omega) (xc _) ?_;have ep:(if (H (.l i)).c=0 then (H (.l i)).p else (H (.l i)).p.map (·.add (0*1)))=(H (.l i)).p:=by rw[TT];split<;>rfl
  rw[ep,WO];refine⟨λV u m=>∃ (v:Nat) (H':Pt->Sl),V=v/\v<=min 2 N/\m=min 2 N - v/\Pw w u b H H' (wF i (s.set (.l i) l') (l'.take v))/\uf H H'/\H' .lo=H .lo,
   ⟨_,0,H,rfl,xc _,rfl,P9,uf.refl,rfl⟩,?_⟩
  rintro V U m _⟨v,H',rfl,hv,rfl,ar,kh,a7⟩;have O:=ar.pm;have eL:H' (.l i)=H (.l i):=kh _ (by simp) (by simp);have I:(wF i (s.set (.l i) l') (l'.take v)).vars=s.vars:=(ry i _ _).1;have av:(wF i (s.set (.l i) l') (l'.take v)).R (.l i)=l':=by rw[sK i (by simp),aQ]
  refine ah (λQ=>?_) (λQ=>?_)
  .have Q:v<min 2 N:=by simpa using Q
   rw[<- eL];have hx:=bg _ (cw (l:=l') (t:=v) (by omega));have ax:=hx.bd k.eM;have c3:=vC hx;refine O.PH (x:=.l i) rfl (n:=min 2 N) (by omega) (by rw[av];omega) (by omega) λa39 _ ce=>⟨_,ce,?_⟩
   rw[av,tn];have h0:=O.drew;generalize hT:wF i (s.set (.l i) l') (l'.take v)=T at*
   generalize hX:l'.getD v 0=X at*
   have Y:(T.R (.w (aA X))).length<=4000000:=by
    have:=Mo i (aA X) (l'.take v) (s.set (.l i) l');rw[hT,aq (by simp)]at this;have h2:=hw (aA X);have h3:(l'.take v).length<=2:=by simp;omega
    omega
   have aa:aA X<2* (T.vars+1):=by rw[I];exact c3
   have eh:∀w3 q,Pw U.drew w3 b H' (bI H' (.w (aA X)) q) (T.set (.w (aA X)) (T.R (.w (aA X))++ [(i:Int)]))->
    ∃b9,b9<min 2 N - v/\∃ (v':Nat) (H2:Pt->Sl),i64.wrap ((v:Int)+1)=v'/\v'<=min 2 N/\b9=min 2 N - v'/\Pw w w3 b H H2 (wF i (s.set (.l i) l') (l'.take v'))/\uf H H2/\H2 .lo=H .lo:=by
    intro w3 q P;refine⟨_,?_,v+1,_,wN,by omega,rfl,?_,kh.wt (q:=q) (j:=aA X),by rw[aW (by simp)];exact a7⟩
    .omega
    .have:l'.take (v+1)=l'.take v++ [X]:=by
      rw[Wo,<- hX];simp[List.getD,show v<l'.length by omega]
     rw[this,Ka,hT];exact ar.drew.trans P
   have aw:∀ {a:Addr} {u:Value},U.drew.cell? a=some u->a.block≠0\/True->¬aF (H' (.w (aA X))).p=some a.block->yY (aE (λk=>aF (H' (.w (aA X))).p=some k) U.drew) a u:=λhc _ d5 u' g=>ee g hc d5;have cg: ¬aF (H' (.w (aA X))).p=some b:=h0.j8 (x:=.w (aA X)) (by simp) (y:=.st) (by simp) rfl;refine⟨aE (λk=>aF (H' (.w (aA X))).p=some k) U.drew,aE.refl _,_,rfl,_,_,_,aw (ae h0.st rfl) (.inr trivial) (by rw[cV];exact cg),_,rfl,_,_,_,aw (ae h0.st rfl) (.inr trivial) (by rw[cV];exact cg),?_⟩;have rd:∀ {n:Nat} {w1 w2:World},jz (.cells #[.i (i:Int)] aB) w1 n w2->ak w1 w2/\bO w2 n #[.i (i:Int)]:=λh=>⟨h.mod,h.has⟩
   have gm:∀ {w1:World},ak U.drew w1->aE (λk=>aF (H' (.w (aA X))).p=some k) U.drew w1:=λg=>g.mono λ_ _ e=>e.elim;have cY:∀ {K:Addr->Prop},(∀a,yY (aE (λk=>aF (H' (.w (aA X))).p=some k) U.drew) a (H' (.w (aA X))).v->K a)->aV (H' .wa).p (H' .wa).n (aA X:Int) 1 K:=λhk=>
    h0.U6 aa rfl rfl λa hb hc=>hk a (aw hc (.inr trivial) λe=>h0.j8 (x:=.w (aA X)) (by simp) (y:=.wa) (by simp) hb e)
   refine⟨(il ax _).mono ?_,?_⟩
   .rintro e ew ⟨rfl,rfl⟩;refine⟨_,rfl,aE.refl _,(il ax _).mono ?_,?_⟩
    .rintro e eN ⟨rfl,rfl⟩;exact⟨_,rfl,aE.refl _,cY λa50 ha=>⟨_,_,_,ha,λe9 eK a'=>⟨gm a'.mod,h0.KR aa a'.mod a'.has Y eh rfl⟩⟩⟩
    .intro e' ez az;refine⟨gm az.mod,(il ax _).mono ?_⟩;rintro e fd⟨rfl,rfl⟩;exact⟨_,rfl,gm az.mod,cY λeg ha=>⟨_,_,_,ha,h0.KR aa az.mod az.has Y eh rfl⟩⟩
   .intro ej eT ap;refine⟨gm ap.mod,(il ax _).mono ?_⟩;rintro e eA⟨rfl,rfl⟩;refine⟨_,rfl,gm ap.mod,(il ax _).mono ?_⟩;rintro e el⟨rfl,rfl⟩;exact⟨_,rfl,gm ap.mod,cY λfb ha=>⟨_,_,_,ha,h0.KR aa ap.mod ap.has Y eh rfl⟩⟩
  .have Q:v=min 2 N:=by simp at Q;omega
   subst Q;have c0:l'.take (min 2 N)=l'.take 2:=by
    rw[<- hlen];by_cases e:2<=l'.length
    .rw [WK e]
    .rw [Nat.min_eq_right (by omega),L0,Wi (by omega)]
   rw[c0]at ar O I av;have kT:Wf (wF i (s.set (.l i) l') (l'.take 2)):=by
    have hR:∀y,(∀j,y≠Pt.w j)->y≠ .l i->(wF i (s.set (.l i) l') (l'.take 2)).R y=s.R y:=λy h1 h2=>by rw[sK i h1,aq h2]
    exact⟨by rw[I];exact k.eM,by rw[hR _ (by simp) (by simp),I];exact k.va,by rw[hR _ (by simp) (by simp)];exact k.vb,by rw[hR _ (by simp) (by simp),I];exact k.le,by rw[hR _ (by simp) (by simp),I];exact k.re,
     by rw[hR _ (by simp) (by simp)];exact k.be,by rw[hR _ (by simp) (by simp)];exact k.tr,by rw[(ry i _ _).2.1];exact k.nc⟩
   have dd:(wF i (s.set (.l i) l') (l'.take 2)).R .va=s.R .va:=by rw[sK i (by simp),aq (by simp)]
   have bf:(wF i (s.set (.l i) l') (l'.take 2)).R .lo=s.R .lo:=by rw[sK i (by simp),aq (by simp)]
   have loose:(l'.length<2\/s.val (l'.getD 1 0)<0)->∀ {u:World},ak U u->∀w3 q,PM w3 b (bI H' .lo q) ((wF i (s.set (.l i) l') (l'.take 2)).set .lo ((wF i (s.set (.l i) l') (l'.take 2)).R .lo++ [(i:Int)]))->
    Pw u w3 b H' (bI H' .lo q) ((wF i (s.set (.l i) l') (l'.take 2)).set .lo ((wF i (s.set (.l i) l') (l'.take 2)).R .lo++ [(i:Int)]))->
    Ending.returned (.tuple #[])=.returned (.tuple #[])/\∃l' H',BR s.rk 2 l'/\l'.Perm (s.R (.l i))/\Pw w w3 b H H' (mD s i l')/\uf H H'/\(2<=l'.length->0<=s.val (l'.getD 1 0)->H' .lo=H .lo):=by
    intro hc u gu w3 q _ P;refine⟨rfl,l',bI H' .lo q,b7,pm,?_,λx h1 h2=>by rw[aW h2];exact kh x h1 h2,λh1 h2=>by omega⟩;unfold mD;simp only[v8 hc];rw[bf]at P;exact(ar.grow gu).trans P
   rw[aT];refine ah (λr3=>?_) (λr3=>?_)
   .have et:(N:Int)<2:=by simpa using r3
    have r3:l'.length<2:=by rw[hlen];omega
    refine⟨_,rfl,_,_,_,ae O.st rfl,?_⟩;exact O.jS (x:=.lo) rfl (i:Int) (by rw[bf];omega) rfl λw3 q p P=>loose (.inl r3) (aE.refl _) w3 q p P
   .have r3:2<=l'.length:=by rw[hlen];simp at r3;omega
    rw[<- eL];refine O.PH (x:=.l i) rfl (by omega) (by rw[av];omega) (by omega) λeH _ b'=>⟨_,b',?_⟩
    rw[av];have hx:=bg _ (cw (l:=l') (t:=1) (by omega));refine(pQ O kT (by rw[I];exact hx)).mono ?_;rintro e en⟨rfl,rfl⟩;rw[kx dd];refine⟨_,rfl,ah (λr4=>?_) (λr4=>?_)⟩
    .have r4:s.val (l'.getD 1 0)<0:=by simpa using r4
     refine⟨_,rfl,_,_,_,ae O.st rfl,?_⟩;exact O.jS (x:=.lo) rfl (i:Int) (by rw[bf];omega) rfl λw3 q p P=>loose (.inr r4) (aE.refl _) w3 q p P
    .have r4: ¬s.val (l'.getD 1 0)<0:=by simpa using r4
     refine⟨rfl,l',H',b7,pm,?_,kh,λ_ _=>a7⟩;unfold mD;simp only[r8 (show ¬(l'.length<2\/s.val (l'.getD 1 0)<0) by omega)];exact ar
end
section
variable{w w' w0 w2 w3 wA:World}{b:Nat}{H H' H2:Pt->Sl}{s t u:aH}{l:Int}
def pq(i:Int)(t:aH)(I:List Int):aH:=I.foldl (λt x=>t.set (.w (aA x)) ((t.R (.w (aA x))).filter λk=> !(k==i))) t
theorem Ii(i:Int)(t:aH)(I:List Int)(x:Int):pq i t (I++ [x])=(pq i t I).set (.w (aA x)) (((pq i t I).R (.w (aA x))).filter λk=> !(k==i)):=by simp[pq]
theorem jE(i:Int){y:Pt}(J:∀j,y≠ .w j):∀ (I:List Int) (t:aH),(pq i t I).R y=t.R y
 | [],_=>rfl
 |_::I,_=> (jE i J I _).trans (aq (J _))
theorem jb(i:Int):∀ (I:List Int) (t:aH),(pq i t I).vars=t.vars/\(pq i t I).nc=t.nc/\(pq i t I).gone=t.gone/\(pq i t I).done=t.done
 | [],_=>⟨rfl,rfl,rfl,rfl⟩
 |x::I,t=>jb i I (t.set (.w (aA x)) ((t.R (.w (aA x))).filter λk=> !(k==i)))
theorem D3(i:Int)(j:Nat):∀ (I:List Int) (t:aH),((pq i t I).R (.w j)).length<=(t.R (.w j)).length
 | [],_=>vy _
 |x::I,t=>by
  have:=D3 i j I (t.set (.w (aA x)) ((t.R (.w (aA x))).filter λk=> !(k==i)));refine Wl this ?_;by_cases e:aA x=j
  .subst e;rw[aQ];exact WZ _ _
  .rw [aq (λh=>e (by injection h with h;exact h.symm))];exact vy _
def oW(H H':Pt->Sl):Prop:=∀x,(∀j,x≠ .w j)->H' x=H x
theorem oW.refl:oW H H:=λ_ _=>rfl
theorem oW.wt(h:oW H H'){j:Nat}{q:Sl}:oW H (bI H' (.w j) q):=λx h1=>by rw[aW (h1 j)];exact h x h1
theorem oW.trans(h:oW H H2)(k:oW H2 H'):oW H H':=λx I=> (k x I).trans (h x I)
theorem K0(h:PM w b H s){i:Nat}(hn:(s.R (.l i)).length<=100000):(s.R (.l i)).length<=(H (.l i)).c/\mP 2 ((H (.l i)).n:Int)=((min 2 (s.R (.l i)).length:Nat):Int):=by
 have I:=h.len (.l i) rfl;refine⟨?_,by rw[I];unfold mP;split<;>omega⟩;rcases(h.row (.l i) rfl).un with⟨_,_,J⟩| ⟨_,_,_,_,e,_⟩
 .rw [J];exact xc _
 .exact e
theorem Ax(h:PM w b H s)(hv:s.vars<=1048576){i:Nat}(hi:i<s.nc)(hl:∀x∈s.R (.l i),dZ s.vars x)(hn:(s.R (.l i)).length<=100000)(hw:∀j,(s.R (.w j)).length<=1000000):
 Calls prog 154 #[cj b,.i i] w λe w'=>e=.returned (.tuple #[])/\∃H',Pw w w' b H H' (pq i s ((s.R (.l i)).take 2))/\oW H H':=by
 refine gi.aj ?_;intro n1 w1 h1;have hA:=(h.grow h1.mod)
 obtain⟨b3,bn⟩:=K0 h hn;refine⟨_,rfl,_,_,_,ae hA.drew.st rfl,_,aP h1.has.drew rfl,hA.drew.O_ hi rfl rfl λa6 a'=>⟨_,_,_,a'.get 1 _ rfl,?_⟩⟩;try dsimp only
 rw[bn];generalize hN:(s.R (.l i)).length=N at*
 refine gh 0 (min 2 N) (H (.l i)).c rfl rfl rfl (vy _) (by omega) (xc _) ?_;have ep:(if (H (.l i)).c=0 then (H (.l i)).p else (H (.l i)).p.map (·.add (0*1)))=(H (.l i)).p:=by rw[TT];split<;>rfl
 rw[ep,WO];have Q:∀x,¬own b H x=some n1:=λx e=>by have:=h.lt x n1 e;have:=h1.num;omega
 refine⟨λV u m=>∃ (v:Nat) (H':Pt->Sl),V=v/\v<=min 2 N/\m=min 2 N - v/\Pw w1 u b H H' (pq i s ((s.R (.l i)).take v))/\oW H H',
  ⟨_,0,H,rfl,xc _,rfl,Pw.refl hA.drew (aE.refl w1).drew,oW.refl⟩,?_⟩
 rintro V I m _⟨v,H',rfl,cm,rfl,J,kh⟩;have qW:=J.pm;have eL:H' (.l i)=H (.l i):=kh _ (by simp);have Z:(pq i s ((s.R (.l i)).take v)).vars=s.vars:=(jb i _ _).1;have an:(pq i s ((s.R (.l i)).take v)).R (.l i)=s.R (.l i):=jE i (by simp) _ _;refine ah (λr2=>?_) (λr2=>?_)
 .have r2:v<min 2 N:=by simpa using r2
  rw[<- eL];have hx:=hl _ (cw (l:=s.R (.l i)) (t:=v) (by omega));have ax:=hx.bd hv;have bb:=vC hx;refine qW.PH (x:=.l i) rfl (n:=min 2 N) (by omega) (by rw[an];omega) (by omega) λb6 _ av=>⟨_,av,?_⟩
  rw[an,tn];have ar:bO I n1 #[.i (i:Int)]:=h1.has.keep J.mod λ⟨x,e⟩=>Q x e;generalize hT:pq i s ((s.R (.l i)).take v)=T at*
  generalize hX:(s.R (.l i)).getD v 0=X at*
  have Y:(T.R (.w (aA X))).length<=1000000:=by
   have:=D3 i (aA X) ((s.R (.l i)).take v) s;rw[hT]at this;exact Wl this (hw _)
  have U:aA X<2* (T.vars+1):=by rw[Z];exact bb
  refine⟨(·=I.drew),rfl,_,rfl,_,_,_,fI (ae qW.drew.st rfl),(il ax _).mono ?_⟩;rintro e b_⟨rfl,rfl⟩;refine⟨_,rfl,rfl,qW.drew.U6 U rfl rfl λb' _ ag=>⟨_,_,_,fI ag,?_⟩⟩;have O:=qW.drew.drew;have aw:∀ {a:Addr} {u:Value},I.drew.drew.cell? a=some u->¬aF (H' (.w (aA X))).p=some a.block->yY (aE (λk=>aF (H' (.w (aA X))).p=some k) I.drew.drew) a u:=λhc bk u' g=>ee g hc bk;have aT: ¬aF (H' (.w (aA X))).p=some b:=O.j8 (x:=.w (aA X)) (by simp) (y:=.st) (by simp) rfl;have a8: ¬aF (H' (.w (aA X))).p=some n1:=λe=>by
   rcases J.ft (.w (aA X)) n1 e with⟨y,e2⟩|e2
   .exact Q y e2
   .have:=h1.has.lt;omega
  refine⟨aE (λk=>aF (H' (.w (aA X))).p=some k) I.drew.drew,aE.refl _,_,rfl,_,_,_,aw (ae O.st rfl) (by rw[cV];exact aT),(il ax _).mono ?_⟩;rintro e cg⟨rfl,rfl⟩;have o:d_ aB I.drew.drew (H' (.w (aA X))).p (H' (.w (aA X))).c (T.R (.w (aA X))):=O.row (.w (aA X)) rfl;refine⟨_,rfl,aE.refl _,(xp o (O.len (.w (aA X)) rfl) (by rw[O.len (.w (aA X)) rfl];exact Y) J9 (λx=>x==(i:Int)) λx _ w' g=>?_).mono ?_⟩
  .rw [w_];exact TZ (ar.drew.drew.keep g a8) x
  rintro e co⟨rfl,bf,aa⟩;refine⟨_,_,_,rfl,aa,?_⟩;refine O.JE U bf (O.Kd rfl aa) (λk hk=> .inl hk) rfl O.wn rfl λcb bi a7=>?_;refine⟨_,?_,v+1,bI H' (.w (aA X)) ⟨(H' (.w (aA X))).p,((T.R (.w (aA X))).filter λx=> !(x==(i:Int))).length,(H' (.w (aA X))).c⟩,wN,by omega,rfl,?_,kh.wt⟩
  .omega
  .have:(s.R (.l i)).take (v+1)=(s.R (.l i)).take v++ [X]:=by
    rw[Wo,<- hX];simp[List.getD,show v< (s.R (.l i)).length by omega]
   rw[this,Ii,hT];exact J.drew.drew.trans (Pw.head (z:=.wa) (by simp) bi aa a7 λk hk=> .inl hk)
 .have r2:v=min 2 N:=by simp at r2;omega
  subst r2;refine⟨rfl,H',?_,kh⟩;have ay:(s.R (.l i)).take (min 2 N)=(s.R (.l i)).take 2:=by
   rw[<- hN];by_cases e:2<=(s.R (.l i)).length
   .rw [WK e]
   .rw [Nat.min_eq_right (by omega),L0,Wi (by omega)]
  rw[ay]at J;exact J.df h1.mod
theorem BR.aC{l':List Int}(hb:BR s.rk 2 l')(I:∀x∈l',s.val x<0->s.bM x<1048577){m:List Int}(pm:l'.Perm m)(h2:2<=(m.filter λx=> !decide (s.val x<0)).length):
 2<=l'.length/\0<=s.val (l'.getD 1 0)/\0<=s.val (l'.getD 0 0):=by
 have hf:(l'.filter λx=> !decide (s.val x<0)).length=(m.filter λx=> !decide (s.val x<0)).length:=(pm.filter _).length_eq;have J:2<=l'.length:=by have:=WZ (λx=> !decide (s.val x<0)) l';omega
 match l',J with
 |x::y::r,_=>
  have key:0<=s.val y:=by
   rcases Zk (s.val y) 0 with O|O
   .exfalso;have U:s.rk y<1048577:=by unfold aH.rk;rw[r8 (by omega)];exact I y (by simp) O
    have:∀z∈y::r,s.val z<0:=by
     intro z V;obtain⟨j,X,e⟩:=Bs.1 V;have:=hb 1 (by omega) (j+1) (by omega) (by simpa using X);have Z:(x::y::r).getD (j+1) 0=z:=by
      show (y::r).getD j 0=z;rw[<- e,vx,V9 X];rfl
     rw[Z]at this;have Q:(x::y::r).getD 1 0=y:=rfl;rw[Q]at this;rcases Zk (s.val z) 0 with h|h
     .exact h
     .unfold aH.rk at this U;rw[v8 (show s.val z>=0 from h)]at this;omega
    have e0:((y::r).filter λx=> !decide (s.val x<0))= []:=by
     rw[Yx];intro z V;simp[this z V]
    rw[Yh,e0]at hf;split at hf<;>simp at hf<;>omega
   .exact O
  refine⟨by simp,key,?_⟩;have:=hb 0 (by omega) 1 (by omega) (by simp);have Q:(x::y::r).getD 1 0=y:=rfl;have Y:(x::y::r).getD 0 0=x:=rfl;rw[Q,Y]at this;rw[Y];rcases Zk (s.val x) 0 with h|h
  .unfold aH.rk at this;rw[v8 (show s.val y>=0 from key),r8 (show ¬s.val x>=0 by omega)]at this;have:=I x (by simp) h;omega
  .exact h
theorem Hu{i:Nat}{l':List Int}(h1:2<=l'.length)(I:0<=s.val (l'.getD 1 0)):mD s i l'=wF i (s.set (.l i) l') (l'.take 2):=by
 unfold mD;simp only[r8 (show ¬(l'.length<2\/s.val (l'.getD 1 0)<0) by omega)]
theorem Oh(h:PM w b H s)(k:Wf s){i:Nat}(hi:i<s.nc)(hl:∀x∈s.R (.l i),dZ s.vars x)(hn:(s.R (.l i)).length<=100000)(hw:∀j,(s.R (.w j)).length+2<=4000000)(V:(s.R .lo).length<=4000000)
 (J:∀x∈s.R (.l i),s.val x<0->s.bM x<1048577) (Z:2<=((s.R (.l i)).filter λx=> !decide (s.val x<0)).length):
 Calls prog 155 #[cj b,.i i] w λe w'=>e=.returned (.tuple #[])/\∃l' H',BR s.rk 2 l'/\l'.Perm (s.R (.l i))/\2<=l'.length/\0<=s.val (l'.getD 1 0)/\0<=s.val (l'.getD 0 0)/\Pw w w' b H H' (wF i (s.set (.l i) l') (l'.take 2))/\oW H H':=by
 refine iD.aj ?_;refine⟨_,rfl,_,_,_,ae h.st rfl,(Di h k hi hl hn hw V).mono ?_⟩;rintro e w3⟨rfl,l',H',hb,pm,Y,kh,Q⟩;obtain⟨b1,b2,b3⟩:=hb.aC (λx U=>J x (pm.mem_iff.1 U)) pm Z;rw[Hu b1 b2]at Y;have O:=Q b1 b2;have I:=Y.pm;refine⟨rfl,_,rfl,?_⟩;have o:=I.row .lo rfl;rw[O]at o;have:=I.head (x:=.lo) rfl o ⟨I.st,I.c,I.wa,λy hy _=>I.row y hy⟩ (λk X=> .inl (by rw[O];exact X)) (n':=(H .lo).n) (by rw[<- O];exact I.len .lo rfl) (K:=λw'=>Ending.returned (.tuple #[])=.returned (.tuple #[])/\∃l' H',BR s.rk 2 l'/\l'.Perm (s.R (.l i))/\2<=l'.length/\0<=s.val (l'.getD 1 0)/\0<=s.val (l'.getD 0 0)/\Pw w w' b H H' (wF i (s.set (.l i) l') (l'.take 2))/\oW H H') ?_
 .exact this
 .intro w5 h5 m5;have eH:bI H' .lo ⟨(H .lo).p,(H .lo).n,(H .lo).c⟩=H':=by
   funext y;simp only[bI];split
   .rename_i e;rw[e,O]
   .rfl
  rw[eH,fJ]at h5;refine⟨rfl,l',H',hb,pm,b1,b2,b3,Y.trans ⟨h5,m5.mono λk _ e=>⟨.st,by rw[e];rfl⟩,λx k X=> .inl ⟨x,X⟩⟩,λx U=>?_⟩;by_cases e:x=.lo
  .rw [e,O]
  .exact kh x U e
end
section
variable{w w' w0 w2 w3 wA:World}{b:Nat}{H H' H2:Pt->Sl}{s t u:aH}{l:Int}
def kA(l:List Int)(f:Int):List Int:=if l.getD 0 0=f/\1<l.length then wJ l 0 1 else l
theorem Db(l:List Int)(f:Int):(kA l f).length=l.length:=by unfold kA;split<;>simp[vY]
theorem rF(l:List Int)(f:Int):(kA l f).Perm l:=by
 unfold kA;split
 .rename_i h;exact zN (by omega) h.2
 .exact YL _
inductive xg (s:aH) (i:Nat) (m:List Int):aH->Bool->Bool->Prop
 |Uo:0<s.val (m.getD 0 0)->xg s i m (s.set (.l i) m) true false
 |EE (k:Nat): ¬0<s.val (m.getD 0 0)->2<=k->k<m.length->0<=s.val (m.getD k 0)->
   xg s i m ((s.set (.l i) (wJ m 1 k)).set (.w (aA (m.getD k 0))) (s.R (.w (aA (m.getD k 0)))++ [(i:Int)])) false false
 |ri:s.val (m.getD 0 0)<0->(∀k,2<=k->k<m.length->s.val (m.getD k 0)<0)->xg s i m (s.set (.l i) m) true true
 |unit:s.val (m.getD 0 0)=0->(∀k,2<=k->k<m.length->s.val (m.getD k 0)<0)->xg s i m ((s.set (.l i) m).put (m.getD 0 0) i) true false
def LM(s:aH)(H H':Pt->Sl):Prop:=∀x,x≠ .tr->(∀z,dZ s.vars z->0<=s.val z->x≠ .w (aA z))->H' x=H x
theorem NR(h:PM w b H s)(k:Wf s){i:Nat}(hi:i<s.nc)(hl:∀x∈s.R (.l i),dZ s.vars x)(hn:(s.R (.l i)).length<=100000)(hw:∀j,(s.R (.w j)).length<=1000000)(h2:2<=(s.R (.l i)).length)(f:Int):
 Calls prog 106 #[cj b,.i i,.i f] w λe w'=>∃st br,e=.returned (.tuple #[.bool st,.bool br])/\∃s' H',xg s i (kA (s.R (.l i)) f) s' st br/\Pw w w' b H H' s'/\LM s H H':=by
 have bx:=h.len (.l i) rfl;refine iF.aj ?_;refine⟨_,rfl,_,_,_,ae h.st rfl,h.O_ hi rfl rfl λa3 c2=>⟨_,_,_,c2.get 1 _ rfl,?_⟩⟩;generalize hm:kA (s.R (.l i)) f=m at*
 have ek:m.length=(s.R (.l i)).length:=by rw[<- hm,Db]
 have cT:m.Perm (s.R (.l i)):=by rw[<- hm];exact rF _ _
 have bf:∀x∈m,dZ s.vars x:=λx hx=>hl x (cT.mem_iff.1 hx);generalize hN:(s.R (.l i)).length=N at*
 have P0:=Pw.refl h (aE.refl w);refine⟨λu=>Pw w u b H H (s.set (.l i) m),?_,?_⟩
 .refine h.AJ (x:=.l i) rfl (by omega) rfl (by omega) λa6 _ cm=>⟨_,cm,ah (λr=>ah (λY=>?_) λY=>?_) λr=>?_⟩
  .have r:(s.R (.l i)).getD 0 0=f:=by simpa using r
   have em:m=wJ (s.R (.l i)) 0 1:=by rw[<- hm];unfold kA;rw[v8 ⟨r,by omega⟩]
   have O:=h.drew;refine O.AJ (x:=.l i) rfl (by omega) rfl (by omega) λa8 _ ce=>⟨_,ce,O.AJ (x:=.l i) rfl (by omega) rfl (by omega) λed _ b7=>⟨_,b7,?_⟩⟩
   refine O.Lh (x:=.l i) rfl (by omega) rfl (by omega) (y:=(s.R (.l i)).getD 1 0) rfl rfl λdA qW c7=>qW.Lh (x:=.l i) rfl (by omega) rfl (by simp[aQ];omega) (y:=(s.R (.l i)).getD 0 0) rfl rfl λdT bY c4=>?_;rw[aQ,set_set]at bY;rw[em];exact P0.drew.trans ⟨bY,(c7.mono λk _ e=>⟨.l i,e⟩).trans (c4.mono λk _ e=>⟨.l i,e⟩),λx _ hk=> .inl ⟨x,hk⟩⟩
  .simp at Y;omega
  .have r: ¬(s.R (.l i)).getD 0 0=f:=by simpa using r
   have em:m=s.R (.l i):=by rw[<- hm];unfold kA;rw[r8 (λe=>r e.1)]
   rw[em,fJ];exact P0
 intro a' _ ag;have az:=ag.pm;have bu:Wf (s.set (.l i) m):=k.set (by simp) (by simp) (by simp) (by simp) (by simp) m;have ev:∀x,(s.set (.l i) m).val x=s.val x:=λx=>kx (aq (by simp)) x;have kv:LM s H H:=λ_ _ _=>rfl;have cY:∀ {I:Int} (j:Nat),I=j->j<N->∀ {K:Addr->Prop},(∀a,a'.cell? a=some (.i (m.getD j 0))->K a)->aV (H (.l i)).p (H (.l i)).n I 1 K:=λ{I} j hI hj {K} hk=>by
  subst hI;refine az.AJ (x:=.l i) rfl (by omega) rfl (by rw[aQ];omega) λa _ hc=>hk a ?_;rw[aQ,tn]at hc;exact hc
 have a_:∀j,j<N->Calls prog 153 #[cj b,.i (m.getD j 0)] a' λe w'=>e=.returned (.int .i8 (s.val (m.getD j 0)))/\w'=a':=λj hj=>by
  have:=pQ az bu (l:=m.getD j 0) (bf _ (cw (by omega)));rw[ev]at this;exact this
 refine cY 0 rfl (by omega) λei b4=>⟨_,b4,(a_ 0 (by omega)).mono ?_⟩
 rintro e dc⟨rfl,rfl⟩;refine⟨_,rfl,ah (λr=>⟨true,false,rfl,_,H,.Uo (by simpa using r),ag,kv⟩) λr=>?_⟩;have r: ¬0<s.val (m.getD 0 0):=by simpa using r
 refine⟨λK u z=>∃j:Nat,K=j/\2<=j/\j<=N/\z=N - j/\u=dc/\∀y,2<=y->y<j->s.val (m.getD y 0)<0,⟨_,2,rfl,vy _,h2,rfl,rfl,λy y1 y2=>by omega⟩,?_⟩;rintro K u z _⟨j,rfl,j2,jN,rfl,rfl,an⟩;refine ah (λY=>?_) (λY=>?_)
 .have Y:j<N:=by rw[bx]at Y;simpa using Y
  refine cY j rfl Y λep b3=>⟨_,b3,(a_ j Y).mono ?_⟩
  rintro e ec⟨rfl,rfl⟩;refine⟨_,rfl,ah (λr3=>?_) (λr3=>?_)⟩
  .have r3:0<=s.val (m.getD j 0):=by simpa using r3
   have O:=az.drew;refine O.AJ (x:=.l i) rfl (by omega) rfl (by rw[aQ];omega) λd8 _ b9=>⟨_,b9,O.AJ (x:=.l i) rfl (by omega) rfl (by rw[aQ];omega) λen _ b8=>⟨_,b8,?_⟩⟩
   rw[aQ,tn];refine O.Lh (x:=.l i) rfl (by omega) rfl (by rw[aQ];omega) (y:=m.getD j 0) rfl rfl λer dd cr=>dd.Lh (x:=.l i) rfl (by omega) rfl (by simp[aQ];omega) (y:=m.getD 1 0) rfl rfl λJ ay c0=>?_;rw[aQ,set_set,aQ,tn,set_set]at ay;have dh:(m.set (Int.toNat 1) (m.getD j 0)).set j (m.getD 1 0)=wJ m 1 j:=rfl;rw[dh]at ay;have cg:Pw w J b H H (s.set (.l i) (wJ m 1 j)):=ag.drew.trans ⟨ay,(cr.mono λk _ e=>⟨.l i,e⟩).trans (c0.mono λk _ e=>⟨.l i,e⟩),λx _ hk=> .inl ⟨x,hk⟩⟩;generalize hX:m.getD j 0=X at*
   have hx:dZ s.vars X:=by rw[<- hX];exact bf _ (cw (by omega))
   have ar:=hx.bd k.eM;have co:=vC hx;have O:=ay.drew;have e1:(wJ m 1 j).getD 1 0=X:=by
    rw[nK (by omega) (by omega)];by_cases e:1=j
    .omega
    .rw [r8 e,v8 rfl,hX]
   have U:((s.set (.l i) (wJ m 1 j)).R (.w (aA X))).length<=4000000:=by rw[aq (by simp)];have:=hw (aA X);omega
   have Z:aA X<2* ((s.set (.l i) (wJ m 1 j)).vars+1):=co;have eh:∀w3 q,Pw J.drew w3 b H (bI H (.w (aA X)) q) ((s.set (.l i) (wJ m 1 j)).set (.w (aA X)) ((s.set (.l i) (wJ m 1 j)).R (.w (aA X))++ [(i:Int)]))->
    ∃st br,Ending.returned (.tuple #[.bool false,.bool false])=.returned (.tuple #[.bool st,.bool br])/\∃s' H',xg s i m s' st br/\Pw w w3 b H H' s'/\LM s H H':=by
    intro w3 q P;have V:=xg.EE (s:=s) (i:=i) (m:=m) j r j2 (by omega) (by rw[hX];exact r3);rw[hX]at V;rw[aq (by simp)]at P;refine⟨_,_,rfl,_,_,V,cg.drew.trans P,λx dB c1=>?_⟩;exact aW (c1 X hx r3)
   have aw:∀ {a:Addr} {u:Value},J.drew.cell? a=some u->¬aF (H (.w (aA X))).p=some a.block->yY (aE (λk=>aF (H (.w (aA X))).p=some k) J.drew) a u:=λhc dk u' g=>ee g hc dk;have b5: ¬aF (H (.w (aA X))).p=some b:=O.j8 (x:=.w (aA X)) (by simp) (y:=.st) (by simp) rfl;have gm:∀ {w1:World},ak J.drew w1->aE (λk=>aF (H (.w (aA X))).p=some k) J.drew w1:=λg=>g.mono λ_ _ e=>e.elim;have Q:∀ {K:Addr->Prop},(∀a,yY (aE (λk=>aF (H (.w (aA X))).p=some k) J.drew) a (H (.w (aA X))).v->K a)->aV (H .wa).p (H .wa).n (aA X:Int) 1 K:=λhk=>
    O.U6 Z rfl rfl λa hb hc=>hk a (aw hc λe=>O.j8 (x:=.w (aA X)) (by simp) (y:=.wa) (by simp) hb e)
   have ap:∀ {K:Addr->Prop},(∀a,yY (aE (λk=>aF (H (.w (aA X))).p=some k) J.drew) a (.i X)->K a)->aV (H (.l i)).p (H (.l i)).n 1 1 K:=λhk=>by
    refine O.AJ (x:=.l i) rfl (by omega) rfl (by rw[aQ,vY];omega) λa hb hc=>hk a ?_;rw[aQ]at hc;have e2:(wJ m 1 j).getD (Int.toNat 1) 0=X:=e1;rw[e2]at hc;exact aw hc λe=>O.j8 (x:=.w (aA X)) (by simp) (y:=.l i) (by simp) hb e
   refine⟨aE (λk=>aF (H (.w (aA X))).p=some k) J.drew,aE.refl _,_,rfl,_,_,_,aw (ae O.st rfl) (by rw[cV];exact b5),ap λet b6=>⟨_,b6,_,rfl,_,_,_,aw (ae O.st rfl) (by rw[cV];exact b5),ap λa45 b_=>⟨_,b_,?_⟩⟩⟩;refine⟨(il ar _).mono ?_,?_⟩
   .rintro e d9 ⟨rfl,rfl⟩;refine⟨_,rfl,aE.refl _,(il ar _).mono ?_,?_⟩
    .rintro e eg ⟨rfl,rfl⟩;exact⟨_,rfl,aE.refl _,Q λa50 ha=>⟨_,_,_,ha,λew ef a7=>⟨gm a7.mod,O.KR Z a7.mod a7.has U eh rfl⟩⟩⟩
    .intro ey ea ax;refine⟨gm ax.mod,(il ar _).mono ?_⟩;rintro e eK⟨rfl,rfl⟩;exact⟨_,rfl,gm ax.mod,Q λdq ha=>⟨_,_,_,ha,O.KR Z ax.mod ax.has U eh rfl⟩⟩
   .intro du ej ac;refine⟨gm ac.mod,(il ar _).mono ?_⟩;rintro e eb⟨rfl,rfl⟩;refine⟨_,rfl,gm ac.mod,(il ar _).mono ?_⟩;rintro e d4⟨rfl,rfl⟩;exact⟨_,rfl,gm ac.mod,Q λeA ha=>⟨_,_,_,ha,O.KR Z ac.mod ac.has U eh rfl⟩⟩
  .have r3:s.val (m.getD j 0)<0:=by simpa using r3
   refine⟨_,?_,j+1,wN,by omega,Y,rfl,rfl,λy y1 y2=>?_⟩
   .omega
   .by_cases e:y=j
    .rw [e];exact r3
    .exact an y y1 (by omega)
 .have Y:j=N:=by rw[bx]at Y;simp at Y;omega
  subst Y;refine cY 0 rfl (by omega) λd' bk=>⟨_,bk,(a_ 0 (by omega)).mono ?_⟩
  rintro e eH⟨rfl,rfl⟩;refine⟨_,rfl,ah (λr3=>⟨true,true,rfl,_,H,.ri (by simpa using r3) (λy y1 y2=>an y y1 (by omega)),ag,kv⟩) λr3=>?_⟩;have r3:0<=s.val (m.getD 0 0):=by simpa using r3
  refine cY 0 rfl (by omega) λeF bn=>⟨_,bn,(Ig az bu (l:=m.getD 0 0) (bf _ (cw (by omega))) i).mono ?_⟩
  rintro e eL⟨rfl,q,c3⟩;exact⟨rfl,true,false,rfl,_,_,.unit (by omega) (λy y1 y2=>an y y1 (by omega)),ag.trans c3,λx hx _=>aW hx⟩
end
section
variable{s t u:aH}{l x y:Int}
def aH.aN(s:aH)(i:Nat):Prop:=i<s.nc/\s.gone i=false
def W1(s:aH)(i D:Nat)(t:List Int):Prop:=∀x∈(s.R (.l i)).take 2,∀y∈(s.R (.l i)).take 2,x≠y-> -x∈(s.R .tr).take D->y∈t
structure aL(s:aH):Prop where
 eM:s.vars<=1048576
 Lj:s.nc<=262144
 va:(s.R .va).length=s.vars+1
 vb:∀i,(s.R .va).getD i 0=0\/(s.R .va).getD i 0=1\/(s.R .va).getD i 0= -1
 le:(s.R .le).length=s.vars+1
 rl:(s.R .re).length=s.vars+1
 tv:∀x∈s.R .tr,dZ s.vars x
 nd:((s.R .tr).map bo).Nodup
 v1:∀x,dZ s.vars x->(s.val x=1↔x∈s.R .tr)
 bl:∀j,j< (s.R .be).length->0<=(s.R .be).getD j 0/\(s.R .be).getD j 0< (s.R .tr).length
 bs:∀i j,i<j->j< (s.R .be).length->(s.R .be).getD i 0< (s.R .be).getD j 0
 dl:(s.R .ds).length=(s.R .be).length
 db:∀j,j< (s.R .be).length->0<=(s.R .ds).getD j 0/\(s.R .ds).getD j 0<=(s.R .be).getD j 0
 lv:∀p,p< (s.R .tr).length->s.bM ((s.R .tr).getD p 0)=((s.R .be).countP λe=>decide (e<=(p:Int)):Nat)
 Tk:∀p,p< (s.R .tr).length->(p:Int)∈s.R .be->s.nD ((s.R .tr).getD p 0)= -1
 Ru:∀p,p< (s.R .tr).length->(p:Int) ∉ s.R .be->∃i:Nat,s.nD ((s.R .tr).getD p 0)=i/\s.aN i/\(s.R .tr).getD p 0∈s.R (.l i)/\∀x∈s.R (.l i),x≠(s.R .tr).getD p 0-> -x∈(s.R .tr).take p
 dn:s.done<=(s.R .tr).length
 cv:∀i,s.aN i->∀x∈s.R (.l i),dZ s.vars x
 cn:∀i,s.aN i->(s.R (.l i)).Nodup
 cl:∀i,s.aN i->(s.R (.l i)).length<=4096
 ca:∀i,s.aN i->∀x,x∈s.R (.l i)↔x∈s.R (.a i)
 al:∀i,(s.R (.a i)).length<=4096
 w1:∀j,∀c∈s.R (.w j),∃i:Nat,c=i/\s.aN i/\∃x∈(s.R (.l i)).take 2,aA x=j
 w2:∀i,s.aN i->∀x∈(s.R (.l i)).take 2,(i:Int)∈s.R (.w (aA x))
 w3:∀j,(s.R (.w j)).Nodup
 o1:∀c∈s.R .lo,∃i:Nat,c=i/\s.aN i
 o2:∀i,s.aN i->(s.R (.l i)).length<2->(i:Int)∈s.R .lo
 o3:(s.R .lo).Nodup
 wd:∀i,s.aN i->(i:Int) ∉ s.R .lo->W1 s i s.done (s.R .tr)
 wj:∀j,j< (s.R .be).length->∀i,s.aN i->(i:Int) ∉ s.R .lo->W1 s i ((s.R .ds).getD j 0).toNat ((s.R .tr).take ((s.R .be).getD j 0).toNat)
theorem pN{n:Nat}(h:dZ n l):s.val (-l)= -s.val l:=by
 obtain⟨h1,_,_⟩:=h;unfold aH.val;by_cases e:l<0
 .rw [v8 e,r8 (by omega)];omega
 .rw [r8 e,v8 (by omega),WJ]
theorem Eh(h:bo x=bo y):x=y\/x= -y:=by
 unfold bo at h;split at h<;>split at h<;>omega
theorem pz(x:Int):bo (-x)=bo x:=by unfold bo;split<;>split<;>omega
theorem qJ{n:Nat}{l:List Int}(Q:l.Nodup)(h:∀x∈l,0<=x/\x<n):l.length<=n:=by
 have inj:(l.map Int.toNat).Nodup:=by
  refine X2.2 (XX (λ{x y} I J O e=>?_) Q);have:=h x I;have:=h y J;exact O (by omega)
 have:=WR inj (l₂:=List.range n) λy J=>by
  obtain⟨x,I,rfl⟩:=LV.1 J;have:=h x I;exact Wv.2 (by omega)
 simpa using this
theorem aL.CQ(g:aL s):(s.R .tr).length<=s.vars:=by
 have h:=qJ (n:=s.vars+1) (l:=0::(s.R .tr).map bo) (Ym.2 ⟨λh=>by
  obtain⟨x,I,e⟩:=LV.1 h;have:=(g.tv x I).bo;omega,g.nd⟩) λx I=>by
   rcases V'.1 I with rfl|I
   .omega
   .obtain ⟨y,J,rfl⟩:=LV.1 I;have:=(g.tv y J).bo;omega
 simpa using h
theorem aL.RK(g:aL s):(s.R .be).length<=(s.R .tr).length:=by
 refine qJ ?_ λx O=>?_
 .rw [List.nodup_iff_pairwise_ne,Wy];intro i j hi I J;have:=g.bs i j J I;simp only[List.getD,V9 hi,V9 I,Wn]at this;omega
 .obtain ⟨j,I,e⟩:=Bs.1 O;have:=g.bl j I;simp only[List.getD,V9 I,Wn,e]at this;exact this
theorem aL.wf(g:aL s):Wf s:=⟨g.eM,g.va,g.vb,g.le,g.rl,by have:=g.CQ;have:=g.RK;have:=g.eM;omega,by have:=g.CQ;have:=g.eM;omega,g.Lj⟩
theorem aL.wl(g:aL s)(j:Nat):(s.R (.w j)).length<=262144:=by
 refine Wl (qJ (n:=s.nc) (g.w3 j) λx I=>?_) g.Lj;obtain⟨i,rfl,⟨hi,_⟩,_⟩:=g.w1 j x I;omega
theorem aL.Vt(g:aL s):(s.R .lo).length<=262144:=by
 refine Wl (qJ (n:=s.nc) g.o3 λx I=>?_) g.Lj;obtain⟨i,rfl,⟨hi,_⟩⟩:=g.o1 x I;omega
theorem aL.vm(g:aL s)(h:dZ s.vars x):s.val x= -1↔ -x∈s.R .tr:=by
 rw[<- g.v1 _ h.neg,pN h];omega
theorem aL.v0(g:aL s)(h:dZ s.vars x):s.val x=0↔x ∉ s.R .tr/\ -x ∉ s.R .tr:=by
 have h1:=g.v1 x h;have I:=g.vm h;have:=aH.rD g.wf x;constructor
 .intro e;exact⟨λm=>by have:=h1.2 m;omega,λm=>by have:=I.2 m;omega⟩
 .rintro ⟨a,b⟩;rcases this with e|e|e
  .exact e
  .exact absurd (h1.1 e) a
  .exact absurd (I.1 e) b
theorem aL.OL(g:aL s)(h:dZ s.vars x):s.val x<0↔ -x∈s.R .tr:=by
 rw[<- g.vm h];have:=aH.rD g.wf x;omega
theorem aL.Vx(g:aL s)(h:dZ s.vars x):0<s.val x↔x∈s.R .tr:=by
 rw[<- g.v1 x h];have:=aH.rD g.wf x;omega
theorem aL.cons(g:aL s)(h:x∈s.R .tr): -x ∉ s.R .tr:=λe=>by
 have hv:=g.tv x h;have:=(g.v1 x hv).2 h;have:=(g.vm hv).2 e;omega
theorem aL.Ul(g:aL s){x:Int}(h:dZ s.vars x)(J:s.val x<0):s.bM x<1048577:=by
 have hm:=(g.OL h).1 J;obtain⟨p,hp,e⟩:=Bs.1 hm;have I:=g.lv p hp;have O:(s.R .tr).getD p 0= -x:=by simp[List.getD,hp,e]
 rw[O]at I;have U:s.bM (-x)=s.bM x:=by unfold aH.bM;rw[pz]
 have Q:=Xm (p:=λe=>decide (e<=(p:Int))) (l:=s.R .be);have:=g.RK;have:=g.CQ;have:=g.eM;omega
theorem kO{r:Int}{y:Pt}(h1:y≠ .va)(J:y≠ .le)(O:y≠ .re)(I:y≠ .tr):(s.put l r).R y=s.R y:=by
 unfold aH.put;rw[aq I,aq O,aq J,aq h1]
theorem sQ{r:Int}:(s.put l r).R .tr=s.R .tr++ [l]:=by unfold aH.put;rw[aQ]
theorem Hb{r:Int}:(s.put l r).R .va=(s.R .va).set (bo l).toNat (if l<0 then -1 else 1):=by
 unfold aH.put;rw[aq (by simp),aq (by simp),aq (by simp),aQ]
theorem Mh{r:Int}:(s.put l r).R .le=(s.R .le).set (bo l).toNat (s.R .be).length:=by
 unfold aH.put;rw[aq (by simp),aq (by simp),aQ]
theorem LN{r:Int}:(s.put l r).R .re=(s.R .re).set (bo l).toNat r:=by
 unfold aH.put;rw[aq (by simp),aQ]
theorem Qr(g:(s.R .va).length=s.vars+1){r:Int}(hl:dZ s.vars l)(J:dZ s.vars y):(s.put l r).val y=if bo y=bo l then (if y=l then 1 else -1) else s.val y:=by
 have a1:=hl.bo;have a2:=J.bo;obtain⟨Q,_,_⟩:=J;obtain⟨l0,_,_⟩:=hl;unfold aH.val;rw[Hb];by_cases e:y<0
 .have O:bo y= -y:=by unfold bo;rw[v8 e]
  rw[v8 e,v8 e,kD (by omega)];by_cases I:bo y=bo l
  .rw [v8 (show (-y).toNat=(bo l).toNat by omega),v8 I];unfold bo at I;rw[v8 e]at I;split at I
   .rename_i h;rw[v8 h,v8 (by omega)];rfl
   .rename_i h;rw[r8 h,r8 (by omega)]
  .rw [r8 (show ¬(-y).toNat=(bo l).toNat by omega),r8 I]
 .have O:bo y=y:=by unfold bo;rw[r8 e]
  rw[r8 e,r8 e,kD (by omega)];by_cases I:bo y=bo l
  .rw [v8 (show y.toNat=(bo l).toNat by omega),v8 I];unfold bo at I;rw[r8 e]at I;split at I
   .rename_i h;rw[v8 h,r8 (by omega)]
   .rename_i h;rw[r8 h,v8 (by omega)]
  .rw [r8 (show ¬y.toNat=(bo l).toNat by omega),r8 I]
theorem bL{l:List Int}{p:Nat}(h:p<l.length):l.getD p 0∈l:=by simp[List.getD,h]
theorem bW{l m:List Int}{p:Nat}(h:p<l.length):(l++m).getD p 0=l.getD p 0:=by
 simp only[vx];rw[Wd h]
theorem cW{l:List Int}{x:Int}:(l++ [x]).getD l.length 0=x:=by simp[List.getD]
end
section
variable{s t u:aH}{l x y:Int}
theorem IB{l:List Int}{p:Int->Bool}(h:∀x∈l,p x=true):l.countP p=l.length:=List.countP_eq_length.2 h
theorem AL(g:aL s)(hl:dZ s.vars l)(h0:s.val l=0)(ht:∀y,y≠ .be->y≠ .ds->t.R y=s.R y)(hv:t.vars=s.vars)(hn:t.nc=s.nc)(hg:t.gone=s.gone)(hd:t.done=s.done){r:Int}
 (hb:(t.R .be=s.R .be/\t.R .ds=s.R .ds/\∃i:Nat,r=i/\s.aN i/\l∈s.R (.l i)/\∀x∈s.R (.l i),x≠l-> -x∈s.R .tr)\/(t.R .be=s.R .be++ [((s.R .tr).length:Int)]/\t.R .ds=s.R .ds++ [(s.done:Int)]/\r= -1)):
 aL (t.put l r):=by
 have eR:∀y,y≠ .va->y≠ .le->y≠ .re->y≠ .tr->y≠ .be->y≠ .ds->(t.put l r).R y=s.R y:=λy a1 a2 a3 a4 a5 a6=>by rw[kO a1 a2 a3 a4,ht y a5 a6]
 have U:(t.put l r).R .tr=s.R .tr++ [l]:=by rw[sQ,ht _ (by simp) (by simp)]
 have V:(t.put l r).R .be=t.R .be:=kO (by simp) (by simp) (by simp) (by simp);have ax:(t.put l r).R .ds=t.R .ds:=kO (by simp) (by simp) (by simp) (by simp);have Z:∀i,(t.put l r).R (.l i)=s.R (.l i):=λi=>eR _ (by simp) (by simp) (by simp) (by simp) (by simp) (by simp);have ea:∀i,(t.put l r).R (.a i)=s.R (.a i):=λi=>eR _ (by simp) (by simp) (by simp) (by simp) (by simp) (by simp);have ew:∀i,(t.put l r).R (.w i)=s.R (.w i):=λi=>eR _ (by simp) (by simp) (by simp) (by simp) (by simp) (by simp);have aa:(t.put l r).R .lo=s.R .lo:=eR _ (by simp) (by simp) (by simp) (by simp) (by simp) (by simp);have O:∀i,(t.put l r).aN i↔s.aN i:=λi=>by show (i<t.nc/\t.gone i=false)↔_;rw[hn,hg];exact Yb
 have Y:(t.put l r).vars=s.vars:=hv;have b4:=hl.bo;have a_:(t.R .va).length=t.vars+1:=by rw[ht _ (by simp) (by simp),hv];exact g.va
 have eval:∀y,dZ s.vars y->(t.put l r).val y=if bo y=bo l then (if y=l then 1 else -1) else s.val y:=λy hy=>by
  rw[Qr a_ (by rw[hv];exact hl) (by rw[hv];exact hy),kx (s:=s) (ht _ (by simp) (by simp))]
 have aT:=(g.v0 hl).1 h0;have fr:∀x∈s.R .tr,bo x≠bo l:=λx I e=>by
  rcases Eh e with rfl|rfl
  .exact aT.1 I
  .exact aT.2 I
 have az:∀x,(t.put l r).bM x=if (bo x).toNat=(bo l).toNat then ((t.R .be).length:Int) else s.bM x:=λx=>by
  unfold aH.bM;rw[Mh,ht .le (by simp) (by simp),kD (by rw[g.le];omega)]
 have ap:∀x,(t.put l r).nD x=if (bo x).toNat=(bo l).toNat then r else s.nD x:=λx=>by
  unfold aH.nD;rw[LN,ht .re (by simp) (by simp),kD (by rw[g.rl];omega)]
 have vU:∀p,p< (s.R .tr).length->¬(bo ((s.R .tr).getD p 0)).toNat=(bo l).toNat:=λp hp e=>by
  have:=g.tv _ (bL hp);have h2:=this.bo;exact fr _ (bL hp) (by omega)
 have bx:(t.R .be).length<=(s.R .be).length+1:=by rcases hb with⟨e,_⟩| ⟨e,_⟩<;>rw[e]<;>simp
 have ar:∀ {i D:Nat} {T T':List Int},W1 s i D T->D<=(s.R .tr).length->(∀y∈T,y∈T')->W1 (t.put l r) i D T':=λ{i D T T'} h hD hT x I y hy ac hm=>by
  rw[Z]at I hy;rw[U,Wg hD]at hm;exact hT y (h x I y hy ac hm)
 refine⟨by rw[Y];exact g.eM,by show t.nc<=_;rw[hn];exact g.Lj,by rw[Hb,Xv,Y,a_,hv],?_,by rw[Mh,Xv,Y,ht _ (by simp) (by simp)];exact g.le,by rw[LN,Xv,Y,ht _ (by simp) (by simp)];exact g.rl,
  ?_,?_,?_,?_,?_,?_,?_,?_,?_,?_,?_,?_,?_,?_,?_,?_,?_,?_,?_,?_,?_,?_,?_,?_⟩
 .intro i;rw[Hb,ht _ (by simp) (by simp)];rw[kD (by rw[g.va];omega)];split
  .split<;>simp
  .exact g.vb i
 .intro x I;rw[U,y4,xv]at I;rw[Y];rcases I with I|rfl
  .exact g.tv x I
  .exact hl
 .rw [U,GD,Xu];refine⟨g.nd,by simp,λa ha c hc e=>?_⟩;obtain⟨x,I,rfl⟩:=LV.1 ha;simp at hc;rw[hc]at e;exact fr x I e
 .intro x I;rw[Y]at I;rw[eval x I,U,y4,xv];by_cases e:bo x=bo l
  .rw [v8 e];by_cases Q:x=l
   .rw [v8 Q];simp[Q]
   .rw [r8 Q];constructor
    .intro h;omega
    .rintro (h|h)
     .exact absurd e (fr x h)
     .exact absurd h Q
  .rw [r8 e,g.v1 x I];constructor
   .intro h;exact .inl h
   .rintro (h|h)
    .exact h
    .rw [h]at e;exact absurd rfl e
 .intro j J;rw[V]at J ⊢;rw[U,I'];rcases hb with⟨e,_⟩| ⟨e,_⟩
  .rw [e]at J ⊢;have:=g.bl j J;simp only[Wz,Xi];omega
  .rw [e]at J ⊢;by_cases h:j< (s.R .be).length
   .rw [bW h];have:=g.bl j h;simp only[Wz,Xi];omega
   .have:j=(s.R .be).length:=by simp at J;omega
    rw[this,cW];simp;omega
 .intro i j a8 J;rw[V]at J ⊢;rcases hb with⟨e,_⟩| ⟨e,_⟩
  .rw [e]at J ⊢;exact g.bs i j a8 J
  .rw [e]at J ⊢;by_cases h:j< (s.R .be).length
   .rw [bW h,bW (by omega)];exact g.bs i j a8 h
   .have:j=(s.R .be).length:=by simp at J;omega
    rw[this,cW,bW (by omega)];have:=g.bl i (by omega);omega
 .rw [V,ax];rcases hb with⟨e,Q,_⟩| ⟨e,Q,_⟩
  .rw [e,Q];exact g.dl
  .rw [e,Q];simp[g.dl]
 .intro j J;rw[V]at J ⊢;rw[ax];have gl:=g.dl;rcases hb with⟨e,Q,_⟩| ⟨e,Q,_⟩
  .rw [e]at J ⊢;rw[Q];exact g.db j J
  .rw [e]at J ⊢;rw[Q];by_cases h:j< (s.R .be).length
   .rw [bW h,bW (by omega)];exact g.db j h
   .have:j=(s.R .be).length:=by simp at J;omega
    rw[this,cW];rw[<- gl,cW];have:=g.dn;omega
 .intro p hp;rw[U]at hp ⊢;rw[V,az];by_cases h:p< (s.R .tr).length
  .rw [bW h,r8 (vU p h),g.lv p h];rcases hb with⟨e,_⟩| ⟨e,_⟩
   .rw [e]
   .have e9: [((s.R .tr).length:Int)].countP (λe=>decide (e<=(p:Int)))=0:=X9.2 λx I=>by
     rw[xv]at I;rw[x7];omega
    rw[e,Xz,e9,XN]
  .have X:p=(s.R .tr).length:=by simp at hp;omega
   rw[X,cW,v8 rfl,IB];intro x I;rw[x7];have key:∀x∈s.R .be,x< ((s.R .tr).length:Int):=λx I=>by
    obtain⟨j,J,e⟩:=Bs.1 I;have:=(g.bl j J).2;simp only[List.getD,V9 J,Wn,e]at this;exact this
   rcases hb with⟨e,_⟩| ⟨e,_⟩
   .rw [e]at I;have:=key x I;omega
   .rw [e,y4,xv]at I;rcases I with I|rfl
    .have:=key x I;omega
    .exact Ww _
 .intro p hp hm;rw[U]at hp ⊢;rw[V]at hm;rw[ap];by_cases h:p< (s.R .tr).length
  .rw [bW h,r8 (vU p h)];refine g.Tk p h ?_;rcases hb with⟨e,_⟩| ⟨e,_⟩
   .rw [e]at hm;exact hm
   .rw [e,y4,xv]at hm;rcases hm with hm|hm
    .exact hm
    .omega
  .have X:p=(s.R .tr).length:=by simp at hp;omega
   rw[X,cW,v8 rfl];rw[X]at hm;rcases hb with⟨e,_⟩| ⟨e,_,e3⟩
   .exfalso;rw[e]at hm;obtain⟨j,J,e⟩:=Bs.1 hm;have:=(g.bl j J).2;simp only[List.getD,V9 J,Wn,e]at this;omega
   .exact e3
 .intro p hp hm;rw[U]at hp ⊢;rw[V]at hm;rw[ap];by_cases h:p< (s.R .tr).length
  .rw [bW h,r8 (vU p h)];have bb:(p:Int) ∉ s.R .be:=by
    rcases hb with⟨e,_⟩| ⟨e,_⟩
    .rw [e]at hm;exact hm
    .rw [e]at hm;exactλh2=>hm (Wq _ h2)
   obtain⟨i,e1,Q,e3,e4⟩:=g.Ru p h bb;refine⟨i,e1,(O i).2 Q,by rw[Z];exact e3,λx I ac=>?_⟩;rw[Z]at I;rw[Wg (by omega)];exact e4 x I ac
  .have X:p=(s.R .tr).length:=by simp at hp;omega
   rw[X,cW,v8 rfl];rw[X]at hm;rcases hb with⟨e,_,i,e1,Q,e3,e4⟩| ⟨e,_⟩
   .refine ⟨i,e1,(O i).2 Q,by rw[Z];exact e3,λx I ac=>?_⟩;rw[Z]at I;rw[Wg (vy _),L0];exact e4 x I ac
   .rw [e]at hm;exact absurd (WB _ (by simp)) hm
 .show t.done<=_;rw[hd,U,I'];have:=g.dn;omega
 .intro i hi x I;rw[Z]at I;rw[Y];exact g.cv i ((O i).1 hi) x I
 .intro i hi;rw[Z];exact g.cn i ((O i).1 hi)
 .intro i hi;rw[Z];exact g.cl i ((O i).1 hi)
 .intro i hi;rw[Z,ea];exact g.ca i ((O i).1 hi)
 .intro i;rw[ea];exact g.al i
 .intro j c hc;rw[ew]at hc;obtain⟨i,e1,Q,e3⟩:=g.w1 j c hc;exact⟨i,e1,(O i).2 Q,by rw[Z];exact e3⟩
 .intro i hi x I;rw[Z]at I;rw[ew];exact g.w2 i ((O i).1 hi) x I
 .intro j;rw[ew];exact g.w3 j
 .intro c hc;rw[aa]at hc;obtain⟨i,e1,Q⟩:=g.o1 c hc;exact⟨i,e1,(O i).2 Q⟩
 .intro i hi h;rw[Z]at h;rw[aa];exact g.o2 i ((O i).1 hi) h
 .rw [aa];exact g.o3
 .intro i hi h;rw[aa]at h;show W1 (t.put l r) i t.done _;rw[hd,U];exact ar (g.wd i ((O i).1 hi) h) g.dn λy hy=>Wq _ hy
 .intro j J i hi h;rw[aa]at h;rw[V]at J ⊢;rw[ax,U];have gl:=g.dl;have a7:∀j,j< (s.R .be).length->W1 (t.put l r) i ((s.R .ds).getD j 0).toNat ((s.R .tr++ [l]).take ((s.R .be).getD j 0).toNat):=λj J=>by
   have h1:=g.bl j J;have h2:=g.db j J;rw[Wg (by omega)];exact ar (g.wj j J i ((O i).1 hi) h) (by omega) λy hy=>hy
  rcases hb with⟨e,Q,_⟩| ⟨e,Q,_⟩
  .rw [e]at J ⊢;rw[Q];exact a7 j J
  .rw [e]at J ⊢;rw[Q];by_cases h2:j< (s.R .be).length
   .rw [bW h2,bW (by omega)];exact a7 j h2
   .have:j=(s.R .be).length:=by simp at J;omega
    rw[this,cW,<- gl,cW,tn,tn,Wg (vy _),L0];exact ar (g.wd i ((O i).1 hi) h) g.dn λy hy=>hy
end
section
variable{s t u:aH}{l x y:Int}
theorem nX(h:aA x=aA y):x=y:=by
 unfold aA at h;split at h<;>split at h<;>omega
theorem jB{l:List Int}:x∈l.take 2↔(0<l.length/\x=l.getD 0 0)\/(1<l.length/\x=l.getD 1 0):=by
 match l with
 | []=>simp
 | [a]=>simp[List.getD]
 |a::b::r=>simp[List.getD]
theorem ru(g:aL s)(hs:∀y,(∀i,y≠Pt.l i)->(∀j,y≠Pt.w j)->y≠ .lo->t.R y=s.R y)(hv:t.vars=s.vars)(hn:t.nc=s.nc)(hg:t.gone=s.gone)(hd:t.done=s.done)
 (pm:∀i,s.aN i->(t.R (.l i)).Perm (s.R (.l i)))
 (wm:∀j c,c∈t.R (.w j)↔∃i:Nat,c=i/\s.aN i/\∃x∈(t.R (.l i)).take 2,aA x=j) (wn:∀j,(t.R (.w j)).Nodup)
 (o1:∀c∈t.R .lo,∃i:Nat,c=i/\s.aN i) (o2:∀i,s.aN i->(s.R (.l i)).length<2->(i:Int)∈t.R .lo) (o3:(t.R .lo).Nodup)
 (wz:∀i,s.aN i->(i:Int) ∉ t.R .lo->((i:Int) ∉ s.R .lo/\∀x,x∈(t.R (.l i)).take 2↔x∈(s.R (.l i)).take 2)\/
   ∀x∈(t.R (.l i)).take 2,-x ∉ (s.R .tr).take s.done/\∀j,j< (s.R .be).length-> -x ∉ (s.R .tr).take ((s.R .ds).getD j 0).toNat):aL t:=by
 have e:∀y,(∀i,y≠Pt.l i)->(∀j,y≠Pt.w j)->y≠ .lo->t.R y=s.R y:=hs;have J:t.R .tr=s.R .tr:=e _ (by simp) (by simp) (by simp);have O:t.R .be=s.R .be:=e _ (by simp) (by simp) (by simp);have Y:t.R .ds=s.R .ds:=e _ (by simp) (by simp) (by simp);have Z:t.R .va=s.R .va:=e _ (by simp) (by simp) (by simp);have an:t.R .le=s.R .le:=e _ (by simp) (by simp) (by simp);have ac:t.R .re=s.R .re:=e _ (by simp) (by simp) (by simp);have ea:∀i,t.R (.a i)=s.R (.a i):=λi=>e _ (by simp) (by simp) (by simp);have I:∀i,t.aN i↔s.aN i:=λi=>by show (i<t.nc/\t.gone i=false)↔_;rw[hn,hg];exact Yb
 have ev:∀x,t.val x=s.val x:=λx=>kx Z x;have ag:∀x,t.bM x=s.bM x:=λx=>by unfold aH.bM;rw[an]
 have V:∀x,t.nD x=s.nD x:=λx=>by unfold aH.nD;rw[ac]
 refine⟨by rw[hv];exact g.eM,by rw[hn];exact g.Lj,by rw[Z,hv];exact g.va,by rw[Z];exact g.vb,by rw[an,hv];exact g.le,by rw[ac,hv];exact g.rl,by rw[J,hv];exact g.tv,by rw[J];exact g.nd,λx Q=>by rw[ev,J];exact g.v1 x (by rw[hv]at Q;exact Q),
  by rw[O,J];exact g.bl,by rw[O];exact g.bs,by rw[Y,O];exact g.dl,by rw[O,Y];exact g.db,λp hp=>by rw[J]at hp ⊢;rw[ag,O];exact g.lv p hp,λp hp hm=>by rw[J]at hp ⊢;rw[V];rw[O]at hm;exact g.Tk p hp hm,
  λp hp hm=>?_,by rw[hd,J];exact g.dn,λi hi x Q=>by rw[hv];exact g.cv i ((I i).1 hi) x ((pm i ((I i).1 hi)).mem_iff.1 Q),λi hi=> (pm i ((I i).1 hi)).nodup_iff.2 (g.cn i ((I i).1 hi)),
  λi hi=>by rw[(pm i ((I i).1 hi)).length_eq];exact g.cl i ((I i).1 hi),λi hi x=>by rw[(pm i ((I i).1 hi)).mem_iff,ea];exact g.ca i ((I i).1 hi) x,λi=>by rw[ea];exact g.al i,
  λj c hc=>?_,λi hi x Q=>?_,wn,λc hc=>?_,λi hi h=>?_,o3,λi hi h=>?_,λj hj i hi h=>?_⟩
 .rw [J]at hp ⊢;rw[O]at hm;obtain⟨i,e1,X,e3,e4⟩:=g.Ru p hp hm;exact⟨i,by rw[V];exact e1,(I i).2 X,(pm i X).mem_iff.2 e3,λx Q U=>e4 x ((pm i X).mem_iff.1 Q) U⟩
 .obtain ⟨i,e1,X,e3⟩:=(wm j c).1 hc;exact⟨i,e1,(I i).2 X,e3⟩
 .exact (wm _ _).2 ⟨i,rfl,(I i).1 hi,x,Q,rfl⟩
 .obtain ⟨i,e1,X⟩:=o1 c hc;exact⟨i,e1,(I i).2 X⟩
 .rw [(pm i ((I i).1 hi)).length_eq]at h;exact o2 i ((I i).1 hi) h
 .intro x Q y hy U hm;rw[J,hd]at hm;rw[J];rcases wz i ((I i).1 hi) h with⟨h1,h2⟩|h1
  .exact g.wd i ((I i).1 hi) h1 x ((h2 x).1 Q) y ((h2 y).1 hy) U hm
  .exact absurd hm (h1 x Q).1
 .intro x Q y hy U hm;rw[O]at hj;rw[J,Y]at hm;rw[J,O];rcases wz i ((I i).1 hi) h with⟨h1,h2⟩|h1
  .exact g.wj j hj i ((I i).1 hi) h1 x ((h2 x).1 Q) y ((h2 y).1 hy) U hm
  .exact absurd hm ((h1 x Q).2 j hj)
theorem aL.wm(g:aL s)(j:Nat)(c:Int):c∈s.R (.w j)↔∃i:Nat,c=i/\s.aN i/\∃x∈(s.R (.l i)).take 2,aA x=j:=
 ⟨g.w1 j c,λ⟨i,I,J,x,O,Q⟩=>by subst I Q;exact g.w2 i J x O⟩
theorem yM(i:Int)(j:Nat)(c:Int):∀ (J:List Int) (t:aH),c∈(pq i t J).R (.w j)↔c∈t.R (.w j)/\(c≠i\/∀x∈J,aA x≠j)
 | [],t=>by simp[pq]
 |z::J,t=>by
  show c∈(pq i (t.set (.w (aA z)) ((t.R (.w (aA z))).filter λk=> !(k==i))) J).R (.w j)↔_;rw[yM i j c J];by_cases e:aA z=j
  .subst e;rw[aQ,WC];simp only[V',WU,ZI,J5];constructor
   .rintro ⟨⟨h1,I⟩,_⟩;exact⟨h1,.inl I⟩
   .rintro ⟨h1,I|I⟩
    .exact ⟨⟨h1,I⟩,.inl I⟩
    .exact absurd rfl (I z (.inl rfl))
  .rw [aq (λh=>e (by injection h with h;exact h.symm))];simp only[V',J5];constructor
   .rintro ⟨h1,I|I⟩
    .exact ⟨h1,.inl I⟩
    .refine ⟨h1,.inr λx O=>?_⟩;rcases O with rfl|O
     .exact e
     .exact I x O
   .rintro ⟨h1,I|I⟩
    .exact ⟨h1,.inl I⟩
    .exact ⟨h1,.inr λx O=>I x (.inr O)⟩
theorem wS(i:Int)(j:Nat):∀ (I:List Int) (t:aH),(t.R (.w j)).Nodup->((pq i t I).R (.w j)).Nodup
 | [],_,h=>h
 |z::I,t,h=>by
  refine wS i j I _ ?_;by_cases e:aA z=j
  .subst e;rw[aQ];exact h.filter _
  .rw [aq (λh=>e (by injection h with h;exact h.symm))];exact h
theorem Iq(i:Int)(j:Nat)(c:Int):∀ (O:List Int) (t:aH),c∈(wF i t O).R (.w j)↔c∈t.R (.w j)\/(c=i/\∃x∈O,aA x=j)
 | [],t=>by simp[wF]
 |z::O,t=>by
  show c∈(wF i (t.set (.w (aA z)) (t.R (.w (aA z))++ [i])) O).R (.w j)↔_;rw[Iq i j c O];by_cases e:aA z=j
  .subst e;rw[aQ,y4,xv];constructor
   .rintro ((h|h)| ⟨h,x,J,I⟩)
    .exact .inl h
    .exact .inr ⟨h,z,Wb ..,rfl⟩
    .exact .inr ⟨h,x,xk _ J,I⟩
   .rintro (h| ⟨h,_⟩)
    .exact .inl (.inl h)
    .exact .inl (.inr h)
  .rw [aq (λh=>e (by injection h with h;exact h.symm))];constructor
   .rintro (h| ⟨h,x,J,I⟩)
    .exact .inl h
    .exact .inr ⟨h,x,xk _ J,I⟩
   .rintro (h| ⟨h,x,J,I⟩)
    .exact .inl h
    .rcases V'.1 J with rfl|J
     .exact absurd I e
     .exact .inr ⟨h,x,J,I⟩
theorem uj{l:List Int}{a:Int}(h:l.Nodup)(ha:a ∉ l):(l++ [a]).Nodup:=by
 rw[Xu];refine⟨h,by simp,λx I y J e=>?_⟩;rw[xv]at J;rw[e,J]at I;exact ha I
theorem wc(i:Int)(j:Nat):∀ (O:List Int) (t:aH),O.Nodup->(t.R (.w j)).Nodup->((∃x∈O,aA x=j)->i ∉ t.R (.w j))->((wF i t O).R (.w j)).Nodup
 | [],_,_,h,_=>h
 |z::O,t,hx,h,hi=>by
  obtain⟨U,Q⟩:=Ym.1 hx;by_cases e:aA z=j
  .subst e;refine wc i _ O _ Q ?_ ?_
   .rw [aQ];exact uj h (hi ⟨z,Wb ..,rfl⟩)
   .rintro ⟨x,I,J⟩;rw[nX J]at I;exact absurd I U
  .refine wc i j O _ Q ?_ ?_
   .rw [aq (λh=>e (by injection h with h;exact h.symm))];exact h
   .rintro ⟨x,I,J⟩;rw[aq (λh=>e (by injection h with h;exact h.symm))];exact hi ⟨x,xk _ I,J⟩
theorem xM{l:List Int}(h:l.Nodup):(l.take 2).Nodup:=(List.take_sublist 2 l).nodup h
end
section
variable{s t u s':aH}{l x y:Int}{i:Nat}
structure jI(s s':aH):Prop where
 v:s'.vars=s.vars
 n:s'.nc=s.nc
 g:s'.gone=s.gone
 a:∀i,s'.R (.a i)=s.R (.a i)
 be:s'.R .be=s.R .be
 ds:s'.R .ds=s.R .ds
 tr:∃e,s'.R .tr=s.R .tr++e
theorem jI.refl(s:aH):jI s s:=⟨rfl,rfl,rfl,λ_=>rfl,rfl,rfl,[],by simp⟩
theorem jI.trans(h:jI s t)(k:jI t u):jI s u:=by
 obtain⟨e,he⟩:=h.tr;obtain⟨J,I⟩:=k.tr;exact⟨k.v.trans h.v,k.n.trans h.n,k.g.trans h.g,λi=> (k.a i).trans (h.a i),k.be.trans h.be,k.ds.trans h.ds,e++J,by rw[I,he,WH]⟩
theorem jI.mem(h:jI s t)(I:x∈s.R .tr):x∈t.R .tr:=by
 obtain⟨e,he⟩:=h.tr;rw[he];exact Wq _ I
theorem jI.lN(h:jI s t):t.aN i↔s.aN i:=by
 show (i<t.nc/\t.gone i=false)↔_;rw[h.n,h.g];exact Yb
theorem jI.set{x:Pt}(h1:∀i,x≠ .a i)(J:x≠ .be)(O:x≠ .ds)(I:x≠ .tr){l:List Int}:jI s (s.set x l):=
 ⟨rfl,rfl,rfl,λi=>aq (λe=>h1 i e.symm),aq (WL J),aq (WL O),[],by rw[aq (WL I)];simp⟩
theorem jI.put{r:Int}:jI s (s.put l r):=
 ⟨rfl,rfl,rfl,λ_=>kO (by simp) (by simp) (by simp) (by simp),kO (by simp) (by simp) (by simp) (by simp),kO (by simp) (by simp) (by simp) (by simp),[l],sQ⟩
theorem jI.wF{c:Int}{I:List Int}:jI s (wF c s I):=by
 obtain⟨h1,J,O,_⟩:=ry c I s;exact⟨h1,J,O,λ_=>sK c (by simp) _ _,sK c (by simp) _ _,sK c (by simp) _ _,[],by rw[sK c (by simp)];simp⟩
theorem jI.pq{c:Int}{I:List Int}:jI s (pq c s I):=by
 obtain⟨h1,J,O,_⟩:=jb c I s;exact⟨h1,J,O,λ_=>jE c (by simp) _ _,jE c (by simp) _ _,jE c (by simp) _ _,[],by rw[jE c (by simp)];simp⟩
theorem ye{l:List Int}{f:Int}:x∈(kA l f).take 2↔x∈l.take 2:=by
 unfold kA;split
 .rename_i h;rw[jB,jB,vY,nK (by omega) h.2,nK (by omega) h.2];simp only[v8,r8 (show (0:Nat)≠1 by omega),r8 (show (1:Nat)≠0 by omega)];constructor
  .rintro (⟨a,b⟩| ⟨a,b⟩)
   .exact .inr ⟨h.2,b⟩
   .exact .inl ⟨by omega,b⟩
  .rintro (⟨a,b⟩| ⟨a,b⟩)
   .exact .inr ⟨h.2,b⟩
   .exact .inl ⟨by omega,b⟩
 .exact Yb
theorem KJ{l:List Int}{f:Int}(I:2<=l.length)(hf:f∈l.take 2):(kA l f).getD 1 0=f:=by
 unfold kA;rcases jB.1 hf with⟨_,e⟩| ⟨_,e⟩
 .rw [v8 ⟨e.symm,by omega⟩,nK (by omega) (by omega),v8 rfl,e]
 .split
  .rename_i h;rw[nK (by omega) (by omega),v8 rfl,h.1]
  .exact e.symm
theorem Io(g:aL s)(i:Nat)(f:Int):aL (s.set (.l i) (kA (s.R (.l i)) f)):=by
 have V:∀k,(s.set (.l i) (kA (s.R (.l i)) f)).R (.l k)=if k=i then kA (s.R (.l i)) f else s.R (.l k):=λk=>by
  by_cases e:k=i
  .rw [v8 e,e,aQ]
  .rw [r8 e,aq (by simpa using e)]
 have Q:∀k x,x∈((s.set (.l i) (kA (s.R (.l i)) f)).R (.l k)).take 2↔x∈(s.R (.l k)).take 2:=λk x=>by
  rw[V];split
  .rename_i e;rw[e];exact ye
  .exact Yb
 refine ru g (λy h1 _ _=>aq (h1 i)) rfl rfl rfl rfl (λk _=>?_) (λj c=>?_) (λj=>by rw[aq (by simp)];exact g.w3 j) (by rw[aq (by simp)];exact g.o1) (by rw[aq (by simp)];exact g.o2) (by rw[aq (by simp)];exact g.o3)
  (λk _ h=> .inl ⟨by rw[aq (by simp)]at h;exact h,Q k⟩)
 .rw [V];split
  .rename_i e;rw[e];exact rF _ _
  .exact YL _
 .rw [aq (by simp),g.wm];constructor
  .rintro ⟨k,U,J,x,I,O⟩;exact⟨k,U,J,x,(Q k x).2 I,O⟩
  .rintro ⟨k,U,J,x,I,O⟩;exact⟨k,U,J,x,(Q k x).1 I,O⟩
def Pg(s:aH)(i:Nat):Prop:=(i:Int) ∉ s.R .lo->W1 s i (s.done+1) (s.R .tr)
theorem fz{l:List Int}{n:Nat}(h:n<l.length):x∈l.take (n+1)↔x∈l.take n\/x=l.getD n 0:=gK h
theorem Ti{r:Int}(h:Pg s i)(U:s.done< (s.R .tr).length):Pg (s.put l r) i:=by
 intro I x O y Q J hm;rw[kO (by simp) (by simp) (by simp) (by simp)]at I O Q;rw[sQ]at hm ⊢;have hm: -x∈(s.R .tr++ [l]).take (s.done+1):=hm;rw[Wg (show s.done+1<=_ from U)]at hm;exact Wq _ (h I x O y Q J hm)
theorem Ab(g:aL s)(hi:s.aN i)(h2:2<=(s.R (.l i)).length){f:Int}(hf:f∈(s.R (.l i)).take 2)(hd:s.done< (s.R .tr).length)(hp:(s.R .tr).getD s.done 0= -f){st br:Bool}(V:xg s i (kA (s.R (.l i)) f) s' st br)
 {r:List Int} (bY:st=true->r=s.R (.w (aA f))) (b6:st=false->(∀c,c∈r↔c∈s.R (.w (aA f))/\c≠(i:Int))/\r.Nodup):
 aL (s'.set (.w (aA f)) r)/\(br=false->Pg (s'.set (.w (aA f)) r) i)/\(∀k,k≠i->Pg s k->Pg (s'.set (.w (aA f)) r) k)/\jI s (s'.set (.w (aA f)) r)/\(br=true->∀x∈s.R (.l i),-x∈s.R .tr)/\
  s'.R .lo=s.R .lo/\s'.done=s.done/\(∀j,j≠aA f->∀c,c∈s.R (.w j)->c∈s'.R (.w j))/\(∀k,k≠i->s'.R (.l k)=s.R (.l k))/\(∀x,x∈s'.R (.l i)↔x∈s.R (.l i)):=by
 have ce:f∈s.R (.l i):=Wh hf;have b_:=g.cv i hi f ce;have aw: -f∈s.R .tr:=by rw[<- hp];exact bL hd
 have b5:f ∉ s.R .tr:=λe=>g.cons e aw;have av:=KJ h2 hf;have cr:=Db (s.R (.l i)) f;have U:=rF (s.R (.l i)) f;have ay:∀x,x∈(kA (s.R (.l i)) f).take 2↔x∈(s.R (.l i)).take 2:=λx=>ye;have gm:=Io g i f;generalize kA (s.R (.l i)) f=m at*
 have bg:m.Nodup:=U.nodup_iff.2 (g.cn i hi);have a_:m.getD 0 0≠f:=λe=>by
  have:=(XE (h₀:=show 0<m.length by omega) (h₁:=show 1<m.length by omega) bg).1 (by
   have e0:m.getD 0 0=m[0]:=by simp[List.getD,show 0<m.length by omega]
   have Z:m.getD 1 0=m[1]:=by simp[List.getD,show 1<m.length by omega]
   rw[<- e0,<- Z,e,av])
  omega
 have bk:m.getD 0 0∈m:=bL (by omega);have bn:dZ s.vars (m.getD 0 0):=g.cv i hi _ (U.mem_iff.1 bk);have same:st=true->s'.R (.w (aA f))=s.R (.w (aA f))->s'.set (.w (aA f)) r=s':=λh e=>by rw[bY h,<- e,fJ]
 have tm:∀x,x∈m.take 2↔x=m.getD 0 0\/x=f:=λx=>by
  rw[jB,av];exact⟨λh=>h.elim (λh=> .inl h.2) λh=> .inr h.2,λh=>h.elim (λh=> .inl ⟨by omega,h⟩) λh=> .inr ⟨by omega,h⟩⟩
 have aa:∀k,k≠i->Pg s k->Pg (s.set (.l i) m) k:=λk hk h J x I y hy O hm=>by
  rw[aq (by simp)]at J;rw[aq (by simpa using hk)]at I hy;rw[aq (by simp)]at hm ⊢;exact h J x I y hy O hm
 cases V with
 |Uo h=>
  have e:(s.set (.l i) m).R (.w (aA f))=s.R (.w (aA f)):=aq (by simp);rw[same rfl e];have ag:=(g.Vx bn).1 h;refine⟨gm,λ_ J x I y hy O hm=>?_,aa,jI.set (by simp) (by simp) (by simp) (by simp),λh=> (by cases h),aq (by simp),rfl,λj _ c hc=> (by rw[aq (by simp)];exact hc),λk hk=>aq (by simpa using hk),λx=>by rw[aQ];exact U.mem_iff⟩;rw[aQ]at I hy;rw[aq (by simp)]at hm ⊢;rcases(tm x).1 I with rfl|rfl
  .exact absurd (Wh hm) (g.cons ag)
  .rcases (tm y).1 hy with rfl|rfl
   .exact ag
   .exact absurd rfl O
 |ri h an=>
  have e:(s.set (.l i) m).R (.w (aA f))=s.R (.w (aA f)):=aq (by simp);rw[same rfl e];refine⟨gm,λh=> (by cases h),aa,jI.set (by simp) (by simp) (by simp) (by simp),λ_ x I=>?_,aq (by simp),rfl,λj _ c hc=> (by rw[aq (by simp)];exact hc),λk hk=>aq (by simpa using hk),λx=>by rw[aQ];exact U.mem_iff⟩;have b':=U.mem_iff.2 I;obtain⟨j,hj,e⟩:=Bs.1 b';have Y:m.getD j 0=x:=by simp[List.getD,hj,e]
  have ax:=g.cv i hi x I
  match j,Y with
  |0,Y=>rw[Y]at h;exact(g.OL ax).1 h
  |1,Y=>rw[av]at Y;rw[<- Y];exact aw
  |j+2,Y=>have:=an (j+2) (by omega) hj;rw[Y]at this;exact(g.OL ax).1 this
 |unit h an=>
  have e:((s.set (.l i) m).put (m.getD 0 0) i).R (.w (aA f))=s.R (.w (aA f)):=by rw[kO (by simp) (by simp) (by simp) (by simp),aq (by simp)]
  rw[same rfl e];have ev:(s.set (.l i) m).val (m.getD 0 0)=0:=by rw[kx (s:=s) (aq (by simp))];exact h
  have cg:∀x∈m,x≠m.getD 0 0-> -x∈s.R .tr:=λx I O=>by
   obtain⟨j,hj,e⟩:=Bs.1 I;have Y:m.getD j 0=x:=by simp[List.getD,hj,e]
   have ax:=g.cv i hi x (U.mem_iff.1 I)
   match j,Y with
   |0,Y=>exact absurd Y.symm O
   |1,Y=>rw[av]at Y;rw[<- Y];exact aw
   |j+2,Y=>have:=an (j+2) (by omega) hj;rw[Y]at this;exact(g.OL ax).1 this
  have gp:aL ((s.set (.l i) m).put (m.getD 0 0) i):=AL gm bn ev (λ_ _ _=>rfl) rfl rfl rfl rfl (.inl ⟨rfl,rfl,i,rfl,hi,by rw[aQ];exact bk,λx I O=>by
   rw[aQ]at I;rw[aq (by simp)];exact cg x I O⟩)
  have xt:jI s ((s.set (.l i) m).put (m.getD 0 0) i):=(jI.set (by simp) (by simp) (by simp) (by simp)).trans jI.put;refine⟨gp,λ_ J x I y hy O hm=>?_,λk hk h=>Ti (aa k hk h) (by rw[aq (by simp)];exact hd),xt,λh=> (by cases h),by rw[kO (by simp) (by simp) (by simp) (by simp),aq (by simp)],rfl,
   λj _ c hc=> (by rw[kO (by simp) (by simp) (by simp) (by simp),aq (by simp)];exact hc),λk hk=>by rw[kO (by simp) (by simp) (by simp) (by simp)];exact aq (by simpa using hk),λx=>by rw[kO (by simp) (by simp) (by simp) (by simp),aQ];exact U.mem_iff⟩
  rw[kO (by simp) (by simp) (by simp) (by simp),aQ]at I hy;have ag:m.getD 0 0∈((s.set (.l i) m).put (m.getD 0 0) i).R .tr:=by rw[sQ];simp
  rcases(tm x).1 I with rfl|rfl
  .exact absurd (Wh hm) (gp.cons ag)
  .rcases (tm y).1 hy with rfl|rfl
   .exact ag
   .exact absurd rfl O
 |EE k hn k2 kl hk=>
  obtain⟨hr,cm⟩:=b6 rfl;have cb:m.getD k 0∈m:=bL kl;generalize hz:m.getD k 0=z at*
  have bx:=g.cv i hi z (U.mem_iff.1 cb);have bf:z≠f:=λe=>by
   have:=(g.OL b_).2 aw;rw[<- e]at this;omega
  have b3:z ∉ m.take 2:=λe=>by
   rcases(tm z).1 e with e|e
   .have:=(XE (h₀:=show 0<m.length by omega) (h₁:=kl) bg).1 (by
     have e0:m.getD 0 0=m[0]:=by simp[List.getD,show 0<m.length by omega]
     have Z:m.getD k 0=m[k]:=by simp[List.getD,kl]
     rw[<- e0,<- Z,hz,e])
    omega
   .exact bf e
  have b9:aA z≠aA f:=λe=>bf (nX e);have t2:∀x,x∈(wJ m 1 k).take 2↔x=m.getD 0 0\/x=z:=λx=>by
   have e0:(wJ m 1 k).getD 0 0=m.getD 0 0:=by rw[nK (by omega) (by omega),r8 (by omega),r8 (by omega)]
   have Z:(wJ m 1 k).getD 1 0=z:=by rw[nK (by omega) (by omega),r8 (by omega),v8 rfl,hz]
   rw[jB,vY,e0,Z];exact⟨λh=>h.elim (λh=> .inl h.2) λh=> .inr h.2,λh=>h.elim (λh=> .inl ⟨by omega,h⟩) λh=> .inr ⟨by omega,h⟩⟩
  have bb:(wJ m 1 k).Perm (s.R (.l i)):=(zN (by omega) kl).trans U;have a7: -z ∉ s.R .tr:=λe=>by have:=(g.OL bx).2 e;omega
  have Q:∀y,(∀i,y≠Pt.l i)->(∀j,y≠Pt.w j)->(((s.set (.l i) (wJ m 1 k)).set (.w (aA z)) (s.R (.w (aA z))++ [(i:Int)])).set (.w (aA f)) r).R y=s.R y:=λy h1 h2=>by
   rw[aq (h2 _),aq (h2 _),aq (h1 _)]
  have el:∀q,(((s.set (.l i) (wJ m 1 k)).set (.w (aA z)) (s.R (.w (aA z))++ [(i:Int)])).set (.w (aA f)) r).R (.l q)=if q=i then wJ m 1 k else s.R (.l q):=λq=>by
   rw[aq (by simp),aq (by simp)];by_cases e:q=i
   .rw [v8 e,e,aQ]
   .rw [r8 e,aq (by simpa using e)]
  have ew:∀j c,c∈(((s.set (.l i) (wJ m 1 k)).set (.w (aA z)) (s.R (.w (aA z))++ [(i:Int)])).set (.w (aA f)) r).R (.w j)↔(c∈s.R (.w j)/\(j=aA f->c≠(i:Int)))\/(j=aA z/\c=(i:Int)):=λj c=>by
   by_cases e:j=aA f
   .subst e;rw[aQ,hr];exact⟨λh=> .inl ⟨h.1,λ_=>h.2⟩,λh=>h.elim (λh=>⟨h.1,h.2 rfl⟩) λh=>absurd h.1.symm b9⟩
   .rw [aq (by simpa using e)];by_cases X:j=aA z
    .subst X;rw[aQ,y4,xv];exact⟨λh=>h.elim (λh=> .inl ⟨h,λh=>absurd h e⟩) λh=> .inr ⟨rfl,h⟩,λh=>h.elim (λh=> .inl h.1) λh=> .inr h.2⟩
    .rw [aq (by simpa using X),aq (by simp)];exact⟨λh=> .inl ⟨h,λh=>absurd h e⟩,λh=>h.elim (λh=>h.1) λh=>absurd h.1 X⟩
  have b8:(i:Int) ∉ s.R (.w (aA z)):=λe=>by
   obtain⟨q,Z,X,x,I,e3⟩:=g.w1 _ _ e;have:q=i:=by omega
   subst this;rw[nX e3]at I;exact b3 ((ay z).2 I)
  have j8:(i:Int) ∉ s.R .lo->(∀D,(∀x∈(s.R (.l i)).take 2,∀y∈(s.R (.l i)).take 2,x≠y-> -x∈(s.R .tr).take D->y∈s.R .tr)-> -(m.getD 0 0) ∉ (s.R .tr).take D):=λ_ D h hm=>by
   have:=h (m.getD 0 0) ((ay _).1 ((tm _).2 (.inl rfl))) f hf a_ hm;exact b5 this
  have G':aL (((s.set (.l i) (wJ m 1 k)).set (.w (aA z)) (s.R (.w (aA z))++ [(i:Int)])).set (.w (aA f)) r):=by
   refine ru g (λy h1 h2 _=>Q y h1 h2) rfl rfl rfl rfl (λq _=>?_) (λj c=>?_) (λj=>?_) (by rw[Q _ (by simp) (by simp)];exact g.o1) (by rw[Q _ (by simp) (by simp)];exact g.o2) (by rw[Q _ (by simp) (by simp)];exact g.o3) (λq hq J=>?_)
   .rw [el];split
    .rename_i e;rw[e];exact bb
    .exact YL _
   .rw [ew,g.wm];constructor
    .rintro (⟨⟨q,Z,X,x,I,e3⟩,h⟩| ⟨Z,X⟩)
     .refine ⟨q,Z,X,?_⟩;rw[el];by_cases e:q=i
      .subst e;rw[v8 rfl];rcases(tm x).1 ((ay x).2 I) with rfl|rfl
       .exact ⟨_,(t2 _).2 (.inl rfl),e3⟩
       .exact absurd Z (h e3.symm)
      .rw [r8 e];exact⟨x,I,e3⟩
     .exact ⟨i,X,hi,z,by rw[el,v8 rfl];exact(t2 _).2 (.inr rfl),Z.symm⟩
    .rintro ⟨q,Z,X,x,I,e3⟩;rw[el]at I;by_cases e:q=i
     .subst e;rw[v8 rfl]at I;rcases(t2 x).1 I with rfl|rfl
      .refine .inl ⟨⟨q,Z,X,_,(ay _).1 ((tm _).2 (.inl rfl)),e3⟩,λh=>?_⟩;exact absurd (nX (e3.trans h)) a_
      .exact .inr ⟨e3.symm,Z⟩
     .rw [r8 e]at I;exact .inl ⟨⟨q,Z,X,x,I,e3⟩,λ_ h=>e (by omega)⟩
   .by_cases e:j=aA f
    .subst e;rw[aQ];exact cm
    .rw [aq (by simpa using e)];by_cases X:j=aA z
     .subst X;rw[aQ];exact uj (g.w3 _) b8
     .rw [aq (by simpa using X),aq (by simp)];exact g.w3 j
   .rw [Q _ (by simp) (by simp)]at J;rw[el];by_cases e:q=i
    .subst e;rw[v8 rfl];refine .inr λx I=>?_;rcases(t2 x).1 I with rfl|rfl
     .exact ⟨j8 J _ (g.wd q hi J),λj hj=>j8 J _ λx I y hy O hm=>Wh (g.wj j hj q hi J x I y hy O hm)⟩
     .exact ⟨λh=>a7 (Wh h),λj _ h=>a7 (Wh h)⟩
    .rw [r8 e];exact .inl ⟨J,λ_=>Yb⟩
  refine⟨G',λ_ J x I y hy O hm=>?_,λq hq h J x I y hy O hm=>?_,?_,λh=> (by cases h),by rw[aq (by simp),aq (by simp)],rfl,λj hj c hc=>?_,λq hq=>by rw[aq (by simp),aq (by simpa using hq)],λx=>by rw[aq (by simp),aQ];exact bb.mem_iff⟩
  .rw [Q _ (by simp) (by simp)]at J hm ⊢;rw[el,v8 rfl]at I hy;have hm: -x∈(s.R .tr).take (s.done+1):=hm;exfalso;rcases(t2 x).1 I with rfl|rfl
   .rcases (fz hd).1 hm with hm|hm
    .exact j8 J _ (g.wd i hi J) hm
    .rw [hp]at hm;exact a_ (by omega)
   .exact a7 (Wh hm)
  .rw [Q _ (by simp) (by simp)]at J hm ⊢;rw[el,r8 hq]at I hy;exact h J x I y hy O hm
  .exact ⟨rfl,rfl,rfl,λq=>Q _ (by simp) (by simp),Q _ (by simp) (by simp),Q _ (by simp) (by simp),[],by rw[Q _ (by simp) (by simp)];simp⟩
  .by_cases X:j=aA z
   .subst X;rw[aQ];exact Wq _ hc
   .rw [aq (by simpa using X),aq (by simp)];exact hc
theorem Hv(g:aL s)(hi:s.aN i){keep rest:List Int}(X:s.R .lo=keep++ (i:Int)::rest){l':List Int}(pm:l'.Perm (s.R (.l i)))(J:2<=l'.length)(v0:0<=s.val (l'.getD 0 0))(v1:0<=s.val (l'.getD 1 0)):
 aL ((wF i ((pq i s ((s.R (.l i)).take 2)).set (.l i) l') (l'.take 2)).set .lo (keep++rest)):=by
 have eR:∀y,(∀i,y≠Pt.l i)->(∀j,y≠Pt.w j)->y≠ .lo->((wF i ((pq i s ((s.R (.l i)).take 2)).set (.l i) l') (l'.take 2)).set .lo (keep++rest)).R y=s.R y:=λy h1 J h3=>by
  rw[aq h3,sK _ J,aq (h1 _),jE _ J]
 have Z:∀q,((wF i ((pq i s ((s.R (.l i)).take 2)).set (.l i) l') (l'.take 2)).set .lo (keep++rest)).R (.l q)=if q=i then l' else s.R (.l q):=λq=>by
  rw[aq (by simp),sK _ (by simp)];by_cases e:q=i
  .rw [v8 e,e,aQ]
  .rw [r8 e,aq (by simpa using e),jE _ (by simp)]
 have ew:∀j c,c∈((wF i ((pq i s ((s.R (.l i)).take 2)).set (.l i) l') (l'.take 2)).set .lo (keep++rest)).R (.w j)↔(c∈s.R (.w j)/\c≠(i:Int))\/(c=(i:Int)/\∃x∈l'.take 2,aA x=j):=λj c=>by
  rw[aq (by simp),Iq,aq (by simp),yM];constructor
  .rintro (⟨h1,J|J⟩|h)
   .exact .inl ⟨h1,J⟩
   .refine .inl ⟨h1,λe=>?_⟩;subst e;obtain⟨q,Q,Y,x,I,O⟩:=g.w1 _ _ h1;have:q=i:=by omega
    subst this;exact J x I O
   .exact .inr h
  .rintro (⟨h1,J⟩|h)
   .exact .inl ⟨h1,.inl J⟩
   .exact .inr h
 obtain⟨d1,d2,d3,d4⟩:=ry i (l'.take 2) ((pq i s ((s.R (.l i)).take 2)).set (.l i) l');obtain⟨u1,u2,u3,u4⟩:=jb i ((s.R (.l i)).take 2) s;have nl:=g.o3;rw[X]at nl;have U:(keep++rest).Sublist (keep++ (i:Int)::rest):=YQ (YF _) (Y5 _ _);have V:∀c,c∈s.R .lo->c≠(i:Int)->c∈keep++rest:=λc hc ac=>by
  rw[X,y4,V']at hc;rw[y4];rcases hc with h|h|h
  .exact .inl h
  .exact absurd h ac
  .exact .inr h
 have ag:∀x∈l',dZ s.vars x:=λx I=>g.cv i hi x (pm.mem_iff.1 I);refine ru g eR (d1.trans u1) (d2.trans u2) (d3.trans u3) (d4.trans u4) (λq _=>?_) (λj c=>?_) (λj=>?_) (by rw[aQ];exactλc hc=>g.o1 c (by rw[X];exact U.mem hc)) (λq hq h=>?_) (by rw[aQ];exact U.nodup nl) (λq hq h=>?_)
 .rw [Z];split
  .rename_i e;rw[e];exact pm
  .exact YL _
 .rw [ew,g.wm];constructor
  .rintro (⟨⟨q,Q,Y,x,I,O⟩,h⟩| ⟨Q,x,I,O⟩)
   .exact ⟨q,Q,Y,x,by rw[Z,r8 (λe=>h (by rw[Q,e]))];exact I,O⟩
   .exact ⟨i,Q,hi,x,by rw[Z,v8 rfl];exact I,O⟩
  .rintro ⟨q,Q,Y,x,I,O⟩;rw[Z]at I;by_cases e:q=i
   .subst e;rw[v8 rfl]at I;exact .inr ⟨Q,x,I,O⟩
   .rw [r8 e]at I;exact .inl ⟨⟨q,Q,Y,x,I,O⟩,λh=>e (by omega)⟩
 .rw [aq (by simp)];refine wc i j _ _ (xM (pm.nodup_iff.2 (g.cn i hi))) (by rw[aq (by simp)];exact wS i j _ _ (g.w3 j)) λ_=>?_;rw[aq (by simp),yM];rintro⟨h1,J|J⟩
  .exact J rfl
  .obtain ⟨q,Q,Y,x,I,O⟩:=g.w1 _ _ h1;have:q=i:=by omega
   subst this;exact J x I O
 .rw [aQ];refine V _ (g.o2 q hq h) λe=>?_;have:q=i:=by omega
  subst this;rw[pm.length_eq]at J;omega
 .rw [aQ]at h;rw[Z];by_cases e:q=i
  .subst e;rw[v8 rfl];refine .inr λx I=>?_;have ap:0<=s.val x:=by
    rcases jB.1 I with⟨_,e⟩| ⟨_,e⟩<;>rw[e]<;>assumption
   have: -x ∉ s.R .tr:=λe=>by
    have:=(g.OL (ag x (Wh I))).2 e;omega
   exact⟨λh=>this (Wh h),λj _ h=>this (Wh h)⟩
  .rw [r8 e];exact .inl ⟨λJ=>h (V _ J λh3=>e (by omega)),λ_=>Yb⟩
end
section
variable{w w' w0 w2 w3:World}{b:Nat}{H H' H2:Pt->Sl}{s t u s' T:aH}{l x y:Int}{i:Nat}
theorem eE{x y:Pt}(h:x≠y){l m:List Int}:(s.set x l).set y m=(s.set y m).set x l:=by
 simp only[aH.set];congr 1;funext z;simp only[bI];by_cases e:z=x
 .subst e;rw[r8 h,v8 rfl,v8 rfl]
 .by_cases I:z=y
  .subst I;rw[v8 rfl,r8 e,v8 rfl]
  .rw [r8 I,r8 e,r8 e,r8 I]
theorem RI(c:Int){L:List Int}:∀ (I:List Int) (t:aH),wF c (t.set .lo L) I=(wF c t I).set .lo L
 | [],_=>rfl
 |x::I,t=>by
  show wF c ((t.set .lo L).set (.w (aA x)) ((t.set .lo L).R (.w (aA x))++ [c])) I=_;rw[aq (by simp),eE (by simp),RI c I];rfl
theorem Od(c:Int){L:List Int}:∀ (I:List Int) (t:aH),pq c (t.set .lo L) I=(pq c t I).set .lo L
 | [],_=>rfl
 |x::I,t=>by
  show pq c ((t.set .lo L).set (.w (aA x)) (((t.set .lo L).R (.w (aA x))).filter λk=> !(k==c))) I=_;rw[aq (by simp),eE (by simp),Od c I];rfl
theorem SC{L:List Int}{r:Int}:(t.set .lo L).put l r=(t.put l r).set .lo L:=by
 unfold aH.put;simp only[aq (s:=t) (x:=.lo) (l:=L) (y:=.va) (by simp),aq (s:=t) (x:=.lo) (l:=L) (y:=.le) (by simp),aq (s:=t) (x:=.lo) (l:=L) (y:=.re) (by simp),aq (s:=t) (x:=.lo) (l:=L) (y:=.be) (by simp),aq (s:=t) (x:=.lo) (l:=L) (y:=.tr) (by simp)];rw[eE (x:=.lo) (y:=.va) (by simp),eE (x:=.lo) (y:=.le) (by simp),eE (x:=.lo) (y:=.re) (by simp),eE (x:=.lo) (y:=.tr) (by simp)]
theorem Pw.Uh{S:Nat->Prop}(h:Pw w w2 b H H' t)(m:aE S w2 w3)(J:∀k,S k->w.heap.size<=k/\∀x,own b H' x≠some k):Pw w w3 b H H' t:=
 ⟨h.pm.keep m λx k I hs=> (J k hs).2 x I,h.mod.then m λk I hs=>by have:=(J k hs).1;omega,h.ft⟩
def Ql(s:aH):Prop:=∀i,s.aN i->(i:Int)∈s.R .lo->∃x∈s.R (.a i),x∈s.R .tr
def xN(s:aH)(i:Nat):Prop:=s.aN i/\∀x∈s.R (.a i),-x∈s.R .tr
theorem xN.ext(h:xN s i)(e:jI s t):xN t i:=⟨e.lN.2 h.1,λx I=>e.mem (h.2 x (by rw[<- e.a];exact I))⟩
theorem Im(h:PM w b H s)(g:aL s):Calls prog 104 #[cj b] w λe w'=>∃r:Int,e=.returned (.i r)/\∃s' H',Pw w w' b H H' s'/\aL s'/\jI s s'/\s'.done=s.done/\((r= -1/\Ql s')\/∃i:Nat,r=i/\xN s' i):=by
 refine fY.aj ?_;intro n1 w1 h1;have hA:=h.grow h1.mod;have z1:=h1.size;have e1:=h1.num;have aw:∀x,¬own b H x=some n1:=λx e=>by have:=h.lt x n1 e;omega
 refine⟨_,aP h1.has rfl,_,rfl,_,_,_,ae hA.st rfl,?_⟩;have hN:=h.len .lo rfl;generalize hL:s.R .lo=L at*
 have fq:L.length<=262144:=by rw[<- hL];exact g.Vt
 refine⟨λP N C B V u m=>∃ (v:Nat) (T:aH) (H':Pt->Sl) (keep:List Int),V=v/\v<=L.length/\m=L.length - v/\N=keep.length/\Pw w1 u b H H' T/\d_ aB u P C keep/\(∀k,aF P=some k->w1.heap.size<=k/\∀x,own b H' x≠some k)/\
  T.R .lo=L/\H' .lo=H .lo/\keep.length<=v/\aL (T.set .lo (keep++L.drop v))/\jI s T/\T.done=s.done/\
  ((B= -1/\∀c∈keep,∃i:Nat,c=i/\∃x∈T.R (.a i),x∈T.R .tr)\/∃i:Nat,B=i/\xN T i),
  ⟨_,0,s,H,[],rfl,xc _,rfl,rfl,Pw.refl hA (aE.refl w1),Ow.nil _ _ _,λk I=>by simp[aF]at I,hL,rfl,vy _,by rw[WY,Y4,<- hL,fJ];exact g,jI.refl s,rfl,.inl ⟨rfl,λc J=>by simp at J⟩⟩,?_⟩
 rintro P N C B V u m _⟨v,T,H',keep,rfl,hv,rfl,rfl,Pu,ok,fr,Z,ac,kl,Y,xT,dT,hB⟩;have hT:=Pu.pm;have bY:bO u n1 #[cj b]:=h1.has.keep Pu.mod λ⟨x,e⟩=>aw x e;have eF:∀x,own b H' x≠some n1:=λx e=>by
  rcases Pu.ft x n1 e with⟨y,e2⟩|e2
  .exact aw y e2
  .omega
 refine ah (λr=>?_) (λr=>?_)
 .have r:v<L.length:=by rw[hN]at r;simpa using r
  have a_:∀ {u':World},Pw w1 u' b H H' T->∀ {K:Addr->Prop},(∀a,u'.cell? a=some (.i (L.getD v 0))->K a)->aV (H .lo).p (H .lo).n (v:Int) 1 K:=λ{u'} P K I=>by
   rw[<- ac];refine P.pm.AJ (x:=.lo) rfl (by omega) rfl (by rw[Z];omega) λa _ J=>I a ?_;rw[Z,tn]at J;exact J
  have an:L.drop v=L.getD v 0::L.drop (v+1):=by
   rw[XV r];simp[List.getD,r]
  have d4:L.getD v 0∈(T.set .lo (keep++L.drop v)).R .lo:=by rw[aQ,an];simp
  obtain⟨i,ei,Q⟩:=Y.o1 _ d4;have Q:T.aN i:=Q;have cb:i<T.nc:=Q.1;refine a_ Pu λfC d8=>⟨_,d8,?_⟩
  rw[ei];have nu:∀ {u':World} {T':aH} {H2:Pt->Sl},Pw w1 u' b H H2 T'->d_ aB u' P C keep->(∀k,aF P=some k->w1.heap.size<=k/\∀x,own b H2 x≠some k)->
   ∀ {K:World->sn->Nat->Nat->Prop},(∀w2 p' c',Pw w1 w2 b H H2 T'->d_ aB w2 p' c' (keep++ [(i:Int)])->(∀k,aF p'=some k->w1.heap.size<=k/\∀x,own b H2 x≠some k)->aE (λk=>aF P=some k) u' w2->K w2 p' (keep.length+1) c')->
   ∀n20 c4,jz (.cells #[.i (i:Int)] aB) u' n20 c4->∃c0,∃ (p':sn) (n' c':Nat),(Builtin.append_ #[aI,aI] aI #[.slice P keep.length C,.slice (some (qw n20)) 1 1]).run prog c4=.ok (.slice p' n' c') c0/\K c0 p' n' c':=by
   intro u' T' H2 P' o' f' K I n20 c4 b4;have cg:=P'.grow b4.mod;refine(o'.grow b4.mod).jS cR (i:Int) b4.has rfl rfl eI (by omega) λw2 p' c' o2 m2 a7 fl=>?_;refine I w2 p' c' (cg.Uh m2 λk I=>f' k I) o2 (λk bk=>?_) ((b4.mod.mono λ_ _ e=>e.elim).trans m2);rcases a7 with a7|a7
   .rw [a7]at bk;exact f' k bk
   .rw [a7]at bk;have:=aO bk;refine⟨by have:=cg.mod.size;omega,λx e=>?_⟩;have:=cg.pm.lt x k e;omega
  have U:keep++ [(i:Int)]++L.drop (v+1)=keep++L.drop v:=by rw[an,ei];simp
  refine ah (λr2=>?_) (λr2=>?_)
  .have r2:0<=B:=by simpa using r2
   refine⟨_,aP bY rfl,_,rfl,_,_,_,ae hT.st rfl,?_⟩;rw[ac];refine a_ Pu λgd ek=>⟨_,ek,?_⟩
   rw[ei];refine nu Pu ok fr λc0 p' c' eR ey f22 _=>?_;refine⟨_,?_,v+1,T,H',keep++ [(i:Int)],wN,r,rfl,by simp,eR,ey,f22,Z,ac,by simp;omega,by rw[U];exact Y,xT,dT,?_⟩
   .omega
   .rcases hB with⟨e,_⟩|hB
    .omega
    .exact .inr hB
  .have r2: ¬0<=B:=by simpa using r2
   have hB:B= -1/\∀c∈keep,∃i:Nat,c=i/\∃x∈T.R (.a i),x∈T.R .tr:=by
    rcases hB with h| ⟨i,e,_⟩
    .exact h
    .omega
   have kT:Wf T:=by
    have:=Y.wf;have e:T=(T.set .lo (keep++L.drop v)).set .lo (T.R .lo):=by rw[set_set,fJ]
    rw[e];exact this.set (by simp) (by simp) (by simp) (by simp) (by simp) _
   have ap:T.R (.l i)=(T.set .lo (keep++L.drop v)).R (.l i):=(aq (by simp)).symm;have ag:∀x,(T.set .lo (keep++L.drop v)).val x=T.val x:=λx=>kx (aq (by simp)) x;have hv:∀x∈T.R (.l i),dZ T.vars x:=λx O=>Y.cv i Q x (by rw[<- ap];exact O);have fv:(T.R (.l i)).length<=4096:=by rw[ap];exact Y.cl i Q
   have c2:∀x,x∈T.R (.l i)↔x∈T.R (.a i):=λx=>by
    have:=Y.ca i Q x;rw[aq (by simp),aq (by simp)]at this;exact this
   have hw:∀j,(T.R (.w j)).length<=262144:=λj=>by have:=Y.wl j;rw[aq (by simp)]at this;exact this
   refine⟨_,aP bY rfl,_,rfl,_,_,_,ae hT.st rfl,hT.O_ cb rfl rfl λf1 d5=>⟨_,_,_,d5.get 1 _ rfl,?_⟩⟩;refine(iA (hT.row (.l i) rfl).vw (hT.len _ rfl) (by rw[hT.len _ rfl];omega)).mono ?_;rintro e fP⟨ej,eL,rfl,et,c7,f30⟩;have dk:=Pu.grow c7;have b5:=bY.grow c7;have nq:∀k,aF ej=some k->w1.heap.size<=k/\(∀x,own b H' x≠some k)/\k≠n1/\aF P≠some k:=λk I=>by
    have:=f30 k I;have g0:=Pu.mod.size;refine⟨by omega,λx e=>?_,λe=>?_,λe=>?_⟩
    .have:=hT.lt x k e;omega
    .omega
    .have:=ok.lt k e;omega
   refine⟨_,_,_,rfl,(xp et rfl (by omega) HK (λx=>decide (T.val x<0)) λx O w' m=>?_).mono ?_⟩
   .rw [w_];exact SZ (dk.pm.keep m λx k I hs=> (nq k hs).2.1 x I) kT (b5.keep m λhs=> (nq n1 hs).2.2.1 rfl) (hv x O)
   rintro e eg⟨rfl,eK,cp⟩;have c1:=dk.Uh cp λk hs=>⟨(nq k hs).1,(nq k hs).2.1⟩
   have ew:=c1.pm;have b6:bO eg n1 #[cj b]:=b5.keep cp λhs=> (nq n1 hs).2.2.1 rfl;have aT:d_ aB eg P C keep:=(ok.grow c7).keep cp λk I hs=> (nq k hs).2.2.2 I;generalize hF:(T.R (.l i)).filter (λx=> !decide (T.val x<0))=F at*
   have cm:∀x,x∈F↔x∈T.R (.l i)/\0<=T.val x:=λx=>by
    rw[<- hF,WC];simp
   refine⟨_,_,_,rfl,ah (λr3=>?_) (λr3=>?_)⟩
   .have r3:2<=F.length:=by simp at r3;omega
    refine⟨_,aP b6 rfl,(Ax ew kT.eM cb hv (by omega) (λj=>by have:=hw j;omega)).mono ?_⟩;rintro e eN⟨rfl,ga,a',ea⟩;have ez:=a'.pm;have ax:(pq i T ((T.R (.l i)).take 2)).R (.l i)=T.R (.l i):=jE _ (by simp) _ _;have a6:(pq i T ((T.R (.l i)).take 2)).R .va=T.R .va:=jE _ (by simp) _ _;have du:(pq i T ((T.R (.l i)).take 2)).R .le=T.R .le:=jE _ (by simp) _ _;obtain⟨u1,u2,u3,u4⟩:=jb i ((T.R (.l i)).take 2) T;have kU:Wf (pq i T ((T.R (.l i)).take 2)):=⟨by rw[u1];exact kT.eM,by rw[a6,u1];exact kT.va,by rw[a6];exact kT.vb,by rw[du,u1];exact kT.le,by rw[jE _ (by simp),u1];exact kT.re,by rw[jE _ (by simp)];exact kT.be,by rw[jE _ (by simp)];exact kT.tr,by rw[u2];exact kT.nc⟩
    have d9:bO eN n1 #[cj b]:=b6.keep a'.mod λ⟨x,e⟩=>eF x e;refine⟨rfl,_,aP d9 rfl,(Oh ez kU (by rw[u2];exact cb) (by rw[ax,u1];exact hv) (by rw[ax];omega) (λj=>by have:=D3 i j ((T.R (.l i)).take 2) T;have:=hw j;omega) (by rw[jE _ (by simp),Z];omega) ?_ ?_).mono ?_⟩
    .rw [ax];intro x O dp;rw[kx a6]at dp;have:=Y.Ul (x:=x) (hv x O) (by rw[ag];exact dp);unfold aH.bM at this ⊢;rw[du];rw[aq (by simp)]at this;exact this
    .rw [ax];have:(λx=> !decide ((pq i T ((T.R (.l i)).take 2)).val x<0))=λx=> !decide (T.val x<0):=by funext x;rw[kx a6]
     rw[this,hF];exact r3
    rintro e eu⟨rfl,l',cr,hb,pm,b1,b2,b3,b_,d'⟩;rw[ax]at pm;rw[kx a6]at b2 b3;have PP:=(c1.trans a').trans b_;have kk:oW H' cr:=ea.trans d';have en:∀k,aF P=some k->w1.heap.size<=k/\∀x,own b cr x≠some k:=λk I=>by
     have:=fr k I;refine⟨this.1,λx e=>?_⟩;rcases(a'.trans b_).ft x k e with⟨y,e2⟩|e2
     .exact this.2 y e2
     .have:=aT.lt k I;omega
    have dB:d_ aB eu P C keep:=aT.keep (a'.trans b_).mod λk I ⟨x,e⟩=> (fr k I).2 x e;have gA:=Hv Y Q (keep:=keep) (rest:=L.drop (v+1)) (by rw[aQ,an,ei]) (l':=l') (by rw[<- ap];exact pm) b1 (by rw[ag];exact b3) (by rw[ag];exact b2);rw[<- ap,Od,eE (x:=.lo) (y:=.l i) (by simp),RI,set_set]at gA;refine⟨rfl,_,?_,v+1,_,cr,keep,wN,r,rfl,rfl,PP,dB,en,by rw[sK _ (by simp),aq (by simp),jE _ (by simp)];exact Z,by rw[kk _ (by simp)];exact ac,by omega,gA,?_,?_,.inl ⟨hB.1,λc J=>?_⟩⟩
    .omega
    .exact xT.trans (jI.pq.trans ((jI.set (by simp) (by simp) (by simp) (by simp)).trans jI.wF))
    .rw [(ry i _ _).2.2.2];exact u4.trans dT
    .obtain ⟨k,e,x,O,a8⟩:=hB.2 c J;refine⟨k,e,x,by rw[sK _ (by simp),aq (by simp),jE _ (by simp)];exact O,by rw[sK _ (by simp),aq (by simp),jE _ (by simp)];exact a8⟩
   .have r3:F.length<=1:=by simp at r3;omega
    refine nu c1 aT fr λbn p' c' bx bi f39 eA=>?_;have fy:=bx.pm;have b7:bO bn n1 #[cj b]:=h1.has.keep bx.mod λ⟨x,e⟩=>aw x e;have dq:d_ aB bn ej eL F:=eK.keep eA λk I hs=> (nq k I).2.2.2 hs;have ef:(T.set .lo (keep++L.drop v)).R .tr=T.R .tr:=aq (by simp);refine ah (λr4=>?_) (λr4=>?_)
    .have r4:F= []:=by simpa using r4
     refine⟨_,?_,v+1,T,H',keep++ [(i:Int)],wN,r,rfl,by simp,bx,bi,f39,Z,ac,by simp;omega,by rw[U];exact Y,xT,dT,.inr ⟨i,rfl,Q,λx O=>?_⟩⟩
     .omega
     .have d6:=(c2 x).2 O;have hn: ¬0<=T.val x:=λh0=>by
       have:=(cm x).2 ⟨d6,h0⟩;rw[r4]at this;simp at this
      rw[<- ef];exact(Y.OL (x:=x) (hv x d6)).1 (by rw[ag];omega)
    .have r4:0<F.length:=by
      rcases Wt F.length with e|e
      .rw [e]at r4;simp at r4
      .exact e
     have d7:∀x∈F,x=F.getD 0 0:=λx O=>by
      match F,r3,r4,O with
      | [a],_,_,O=>simpa using O
     have aa:=(cm (F.getD 0 0)).1 (bL r4);generalize ec:F.getD 0 0=X at*
     refine⟨_,aP b7.drew rfl,dq.drew.ix 0 (by omega) rfl (by omega) λgb el=>⟨_,el,?_⟩⟩;rw[Int.toNat_zero,ec];have b':=bx.drew;refine(pQ b'.pm kT (hv _ aa.1)).mono ?_;rintro e fu⟨rfl,rfl⟩;have b8:∀ {T':aH},jI T T'->∀c∈keep,∃i:Nat,c=i/\∃x∈T'.R (.a i),x∈T'.R .tr:=λe c J=>by
      obtain⟨k,e1,x,O,a8⟩:=hB.2 c J;exact⟨k,e1,x,by rw[e.a];exact O,e.mem a8⟩
     refine⟨_,rfl,ah (λr5=>?_) (λr5=>?_)⟩
     .have r5:T.val X=0:=by simpa using r5
      refine⟨_,aP b7.drew.drew rfl,dq.drew.drew.ix 0 (by omega) rfl (by omega) λfs dA=>⟨_,dA,?_⟩⟩;rw[Int.toNat_zero,ec];have ed:=b'.drew;refine(Ig ed.pm kT (hv _ aa.1) (i:Int)).mono ?_;rintro e f0⟨rfl,q,co⟩;have gP:=AL (t:=T.set .lo (keep++L.drop v)) Y (hv X aa.1) (by rw[ag];exact r5) (λ_ _ _=>rfl) rfl rfl rfl rfl (r:=(i:Int)) (.inl ⟨rfl,rfl,i,rfl,Q,by rw[<- ap];exact aa.1,λx O eT=>by
       rw[<- ap]at O;have hn: ¬0<=T.val x:=λh0=>eT (d7 x ((cm x).2 ⟨O,h0⟩));exact(Y.OL (x:=x) (hv x O)).1 (by rw[ag];omega)⟩)
      rw[SC]at gP;have xP:jI T (T.put X (i:Int)):=jI.put;have e8:(T.put X (i:Int)).R .lo=T.R .lo:=kO (by simp) (by simp) (by simp) (by simp);refine⟨rfl,_,?_,v+1,_,bI H' .tr q,keep++ [(i:Int)],wN,r,rfl,by simp,ed.trans co,(bi.drew.drew).keep co.mod λk I ⟨x,e⟩=> (f39 k I).2 x e,λk I=>⟨(f39 k I).1,λx e=>?_⟩,
       by rw[e8];exact Z,by rw[aW (by simp)];exact ac,by simp;omega,by rw[U];exact gP,xT.trans xP,dT,.inl ⟨hB.1,λc J=>?_⟩⟩
      .omega
      .rcases co.ft x k e with⟨y,e2⟩|e2
       .exact (f39 k I).2 y e2
       .have:=bi.lt k I;have:bn.drew.drew.heap.size=bn.heap.size:=rfl;omega
      .rcases y4.1 J with J|J
       .exact b8 xP c J
       .rw [xv]at J;refine⟨i,J,X,?_,?_⟩
        .rw [xP.a];exact(c2 X).1 aa.1
        .rw [sQ];simp
     .have r5: ¬T.val X=0:=by simpa using r5
      have e3:X∈T.R .tr:=by
       rw[<- ef];exact(Y.Vx (x:=X) (hv X aa.1)).1 (by rw[ag];have:=aa.2;omega)
      refine⟨_,?_,v+1,T,H',keep++ [(i:Int)],wN,r,rfl,by simp,b',bi.drew,f39,Z,ac,by simp;omega,by rw[U];exact Y,xT,dT,.inl ⟨hB.1,λc J=>?_⟩⟩
      .omega
      .rcases y4.1 J with J|J
       .exact b8 (jI.refl T) c J
       .rw [xv]at J;exact⟨i,J,X,(c2 X).1 aa.1,e3⟩
 .have r:v=L.length:=by rw[hN]at r;simp at r;omega
  subst r;rw[Yt,W9]at Y;refine⟨_,aP bY rfl,_,rfl,?_⟩;refine hT.head (x:=.lo) rfl ok ⟨hT.st,hT.c,hT.wa,λy hy _=>hT.row y hy⟩ (λk I=> .inr (fr k I).2) rfl λw3 h3 m3=>?_;have xL:jI T (T.set .lo keep):=jI.set (by simp) (by simp) (by simp) (by simp);have P0:=Pu.df h1.mod;refine⟨_,rfl,_,_,⟨h3,P0.mod.then m3 λk I e=>?_,λx k I=>?_⟩,Y,xT.trans xL,dT,?_⟩
  .rcases P0.ft .st k (by rw[e];rfl) with h|h
   .exact h
   .omega
  .by_cases e:x=.lo
   .subst e;rw[cy (by simp),bE]at I;have:=(fr k I).1;exact .inr (by omega)
   .refine P0.ft x k ?_;cases x<;>first|exact I| (simp only[own]at I ⊢;rwa [aW e]at I)
  .rcases hB with⟨e,h⟩| ⟨i,e,h⟩
   .refine .inl ⟨e,λi hi hm=>?_⟩;rw[aQ]at hm;obtain⟨k,e1,x,O,a8⟩:=h _ hm;have:k=i:=by omega
    subst this;exact⟨x,by rw[aq (by simp)];exact O,by rw[aq (by simp)];exact a8⟩
   .exact .inr ⟨i,e,h.ext xL⟩
end
end Go.Proofs.YtbdghpjnifjlmaaGreat.W
namespace Go.Fw
open Go Go.RowKit
variable{P:Program}{α:Type}{f:α->Value}{T:TypeId}{w w':World}{p q q':sn}{c:Nat}{l:List α}
theorem Ow.Ux{t ty e bytes:Nat}(hs:mg P t e bytes=true)(h:Ow f e w p c l){o m d k D:Nat}{news:List α}(Y:Vw f w q news)(hm:m=news.length)(hD:m<=D)(hq:0<m->q'=p.map (·.add (o*1)))(J:o+m<=l.length)(ho:∀x,(f x).oneCell'=true){K:Int->World->Prop}
 (U:∀w',Ow f e w' p c (l.take o++news++l.drop (o+m))->aE (λb=>aF p=some b) w w'->w'.heap.size=w.heap.size->K m w'):
 ∃w',∃r:Int,(Builtin.copy_ #[t,t] ty #[.slice q' D d,.slice q m k]).run P w=.ok (.i r) w'/\K r w':=by
 obtain⟨ht,i,z,hi,hz,h1,hb,h3⟩:=nV hs;have O:(P.info? e).map (·.size)=some 1:=by rw[hi];simp[h1]
 subst hm;rcases Wt news.length with Q|Q
 .have hn:news= []:=Wa Q;subst hn;refine⟨w,0,run_copy_none w t t ty e _ _ _ _ _ _ ht O (by simp),?_⟩;have:=U w (by simpa using h) (aE.refl w) rfl;simpa using this
 .rw [hq Q];obtain⟨a,rfl,_⟩:=Y 0 Q;rcases h.un with⟨rfl,rfl,rfl⟩| ⟨g,cur,rfl,hg,g1,g2,g3,g4⟩
  .rw [Xi]at J;omega
  .have hr:=run_copy_row (P:=P) w t t ty e g o D d a news.length k cur e (news.map f) ht O hg (by rw[We];exact(WK hD).symm) (λj v Z=>by
    have I:j<news.length:=by have:=(Ws.1 Z).1;simpa using this
    obtain⟨a',ha,V⟩:=Y j I;simp only[Wu]at ha;subst ha;rw[V];simpa[I]using Z) (by simp;omega) (λu hu=>by obtain⟨x,_,rfl⟩:=LV.1 hu;exact ho x)
   have X:=U (w.setRow g (cur.toList.take o++news.map f++cur.toList.drop (o+ (news.map f).length)).toArray) (Ow.da (setRow_heap w g cur _ e _ hg) (by simp;omega) g2 ?_ ?_) ⟨rfl,rfl,rfl,by simp,λk _ U=>setRow_other w g k _ λhe=>U (by simp[aF,he])⟩ (by simp[World.setRow])
   .refine ⟨_,((news.map f).length:Int),?_,by rw[We];exact X⟩;simp only[Xw,cA,Wr,XZ];exact hr
   .simp;omega
   .have hl:(l.take o++news++l.drop (o+news.length)).length=l.length:=by simp;omega
    rw[hl,GD,GD,YC,List.map_drop,<- g4];have V:cur.toList.length=c:=by simpa using g3
    apply Xr;intro j;simp only[We,WE,YM,I',y6,Xp,V];repeat' split
    all_goals first
     |rfl
     |omega
     | (congr 1;omega)
end Go.Fw
namespace Go.Proofs.YtbdghpjnifjlmaaGreat.W
open Go Go.Fw Go.RowKit Go.SoP Go.LiP
section
variable{w w' w0 w2 w3:World}{b:Nat}{H H' H2:Pt->Sl}{s t u s' T:aH}{l x y:Int}{i:Nat}
def aH.step(s:aH):aH:= {s with done:=s.done+1}
theorem J7(g:aL s)(I:s.done< (s.R .tr).length)(hp:∀i,s.aN i->Pg s i):aL s.step:=
 ⟨g.eM,g.Lj,g.va,g.vb,g.le,g.rl,g.tv,g.nd,g.v1,g.bl,g.bs,g.dl,g.db,g.lv,g.Tk,g.Ru,I,g.cv,g.cn,g.cl,g.ca,g.al,g.w1,g.w2,g.w3,g.o1,g.o2,g.o3,
   λi hi h=>hp i hi h,g.wj⟩
theorem PJ{m:List Int}{st br:Bool}{j:Nat}{r:List Int}(V:xg s i m s' st br)(hm:∀z∈m,0<=s.val z->aA z≠j):xg (s.set (.w j) r) i m (s'.set (.w j) r) st br:=by
 have ev:∀x,(s.set (.w j) r).val x=s.val x:=λx=>kx (aq (by simp)) x;cases V with
 |Uo h=>rw[eE (by simp)];exact .Uo (by rw[ev];exact h)
 |ri h h2=>rw[eE (by simp)];exact .ri (by rw[ev];exact h) λk a c=>by rw[ev];exact h2 k a c
 |unit h h2=>
  have e:((s.set (.l i) m).put (m.getD 0 0) i).set (.w j) r=((s.set (.w j) r).set (.l i) m).put (m.getD 0 0) i:=by
   rw[eE (x:=.w j) (y:=.l i) (by simp)];generalize s.set (.l i) m=q;unfold aH.put;simp only[aq (s:=q) (x:=.w j) (l:=r) (y:=.va) (by simp),aq (s:=q) (x:=.w j) (l:=r) (y:=.le) (by simp),aq (s:=q) (x:=.w j) (l:=r) (y:=.re) (by simp),aq (s:=q) (x:=.w j) (l:=r) (y:=.be) (by simp),aq (s:=q) (x:=.w j) (l:=r) (y:=.tr) (by simp)];rw[eE (x:=.w j) (y:=.va) (by simp),eE (x:=.w j) (y:=.le) (by simp),eE (x:=.w j) (y:=.re) (by simp),eE (x:=.w j) (y:=.tr) (by simp)]
  rw[e];exact .unit (by rw[ev];exact h) λk a c=>by rw[ev];exact h2 k a c
 |EE k h1 h2 h3 h4=>
  have I:aA (m.getD k 0)≠j:=hm _ (bL h3) h4;have V:=xg.EE (s:=s.set (.w j) r) (i:=i) (m:=m) k (by rw[ev];exact h1) h2 h3 (by rw[ev];exact h4);rw[aq (by simpa using I),eE (x:=.w j) (y:=.l i) (by simp),eE (x:=.w j) (by simpa using WL I)]at V;exact V
def dE(s:aH):Prop:=∀i,s.aN i->(∃x∈s.R (.a i),x∈s.R .tr)\/∃x∈s.R (.a i),∃y∈s.R (.a i),x≠y/\s.val x=0/\s.val y=0
theorem KT(g:aL s)(hd:(s.R .tr).length<=s.done)(hl:Ql s):dE s:=by
 intro i hi;by_cases hm:(i:Int)∈s.R .lo
 .exact .inl (hl i hi hm)
 .have h2:2<=(s.R (.l i)).length:=by
   rcases Wp (s.R (.l i)).length 2 with h|h
   .exact absurd (g.o2 i hi h) hm
   .exact h
  have J:=g.wd i hi hm;rw[W1,Wi hd]at J;have m0:(s.R (.l i)).getD 0 0∈(s.R (.l i)).take 2:=jB.2 (.inl ⟨by omega,rfl⟩);have m1:(s.R (.l i)).getD 1 0∈(s.R (.l i)).take 2:=jB.2 (.inr ⟨by omega,rfl⟩);have I:(s.R (.l i)).getD 0 0≠(s.R (.l i)).getD 1 0:=λe=>by
   have:=(XE (h₀:=show 0< (s.R (.l i)).length by omega) (h₁:=show 1< (s.R (.l i)).length by omega) (g.cn i hi)).1 (by
    have e0:(s.R (.l i)).getD 0 0=(s.R (.l i))[0]:=by simp[List.getD,show 0< (s.R (.l i)).length by omega]
    have Z:(s.R (.l i)).getD 1 0=(s.R (.l i))[1]:=by simp[List.getD,show 1< (s.R (.l i)).length by omega]
    rw[<- e0,<- Z,e])
   omega
  generalize (s.R (.l i)).getD 0 0=a at*
  generalize (s.R (.l i)).getD 1 0=c at*
  have la:=Wh m0;have lc:=Wh m1;have va:=g.cv i hi a la;have Y:=g.cv i hi c lc;have X:=(g.ca i hi a).1 la;have V:=(g.ca i hi c).1 lc;by_cases O:a∈s.R .tr
  .exact .inl ⟨a,X,O⟩
  by_cases Q:c∈s.R .tr
  .exact .inl ⟨c,V,Q⟩
  by_cases U: -a∈s.R .tr
  .exact absurd (J a m0 c m1 I U) Q
  by_cases fc: -c∈s.R .tr
  .exact absurd (J c m1 a m0 (WL I) fc) O
  exact .inr ⟨a,X,c,V,I,(g.v0 va).2 ⟨O,U⟩,(g.v0 Y).2 ⟨Q,fc⟩⟩
end
section
variable{w w' w0 w2 w3:World}{b:Nat}{H H' H2:Pt->Sl}{s t u s' T:aH}{l x y:Int}{i:Nat}
theorem QK{m:List Int}{st br:Bool}{j:Nat}(V:xg s i m s' st br)(hm:∀z∈m,0<=s.val z->aA z≠j):s'.R (.w j)=s.R (.w j):=by
 cases V with
 |Uo h=>exact aq (by simp)
 |ri h h2=>exact aq (by simp)
 |unit h h2=>rw[kO (by simp) (by simp) (by simp) (by simp),aq (by simp)]
 |EE k h1 h2 h3 h4=>rw[aq (by simpa using WL (hm _ (bL h3) h4)),aq (by simp)]
theorem Gp{l:List Int}{k v:Nat}{x:Int}(h:k<v):(l.set k x).drop v=l.drop v:=by
 apply Xr;intro j;rw[Xp,Xp,Xe,r8 (by omega)]
theorem Pw.Va(h:PM w2 b H t){j:Nat}{w1:World}(m:aE (λk=>aF (H (.w j)).p=some k) w1 w2):Pw w1 w2 b H H t:=Pw.row h (x:=.w j) rfl m
theorem UM{p:sn}{c:Nat}:(if c=0 then p else p.map (·.add (0*1)))=p:=by rw[TT];split<;>rfl
theorem GQ(h:PM w b H s)(g:aL s):Calls Tryz.prog 64 #[cj b] w λe w'=>∃r:Int,e=.returned (.i r)/\∃s' H',Pw w w' b H H' s'/\aL s'/\jI s s'/\((r= -1/\dE s')\/∃i:Nat,r=i/\xN s' i):=by
 refine gI.aj (bq rfl ⟨_,rfl,_,_,_,ae h.st rfl,?_⟩);obtain⟨av,fa⟩:=DZ h g.wf;rw[fa];refine bq rfl ((Im h g).mono ?_);rintro e w3⟨r4,rfl,s1,H1,P3,g1,x1,d1,hr⟩;refine⟨_,rfl,ah (λr=>?_) λr=>?_⟩
 .have r:0<=r4:=by simpa using r
  refine⟨r4,rfl,s1,H1,P3,g1,x1,.inr ?_⟩;rcases hr with h|h
  .omega
  .exact h
 have r: ¬0<=r4:=by simpa using r
 have hl:Ql s1:=by
  rcases hr with h| ⟨i,h,_⟩
  .exact h.2
  .omega
 refine⟨λu m=>∃ (T:aH) (H':Pt->Sl),m=T.vars - T.done/\Pw w u b H H' T/\aL T/\jI s T/\Ql T,⟨_,s1,H1,rfl,P3,g1,x1,hl⟩,?_⟩;rintro w8 m _⟨T,H',rfl,P8,gT,xT,lT⟩;have h8:=P8.pm;refine⟨_,rfl,_,ae h8.drew.st rfl,_,rfl,_,_,_,ae h8.drew.st rfl,?_⟩;rw[h8.len .tr rfl];refine ah (λr=>?_) (λr=>?_)
 .have hd:T.done< (T.R .tr).length:=by simpa using r
  have hD:=h8.drew.drew;refine⟨_,rfl,_,_,_,ae hD.st rfl,_,rfl,_,ae hD.st rfl,hD.AJ (x:=.tr) rfl (by omega) rfl (by omega) λgx _ dA=>⟨_,dA,?_⟩⟩;rw[tn];have eR:(T.R .tr).getD T.done 0∈T.R .tr:=bL hd;generalize hX:(T.R .tr).getD T.done 0=X at*
  have dh:=gT.tv X eR;have g0:=dh.bd gT.eM;have ef:IntKind.i64.wrap (0 - X)= -X:=by rw[ao (by omega) (by omega)];omega
  try dsimp only
  rw[ef];have bi:=dh.neg;have bf:=bi.bd gT.eM;obtain⟨f,hf⟩: ∃f,f= -X:=⟨_,rfl⟩
  rw[<- hf]at bi bf ⊢;have eF:X= -f:=by omega
  have b_:=vC bi;refine⟨(·=w8.drew.drew.drew),rfl,_,rfl,_,_,_,fI (ae hD.drew.st rfl),(il bf _).mono ?_⟩;rintro e gy⟨rfl,rfl⟩;have ed:=((P8.drew).drew).drew;have ce:=ed.pm;refine⟨_,rfl,rfl,ce.U6 b_ rfl rfl λgg _ ei=>⟨_,_,_,fI ei,?_⟩⟩;have bb:=ce.len (.w (aA f)) rfl;have b7:(T.R (.w (aA f))).length<=(H' (.w (aA f))).c:=by
   rcases(ce.row (.w (aA f)) rfl).un with⟨_,_,e2⟩| ⟨_,_,_,_,e,_⟩
   .rw [e2];exact xc _
   .exact e
  have gm:=gT.wl (aA f);generalize aT:T.R (.w (aA f))=row at*
  refine⟨λKP V u m=>∃ (kp v:Nat) (I:aH) (H2:Pt->Sl) (kept cur:List Int),KP=kp/\V=v/\v<=row.length/\kp<=v/\m=row.length - v/\kept.length=kp/\cur.length=row.length/\cur.take kp=kept/\cur.drop v=row.drop v/\
   I.R (.w (aA f))=cur/\H2 (.w (aA f))=H' (.w (aA f))/\Pw w u b H H2 I/\aL (I.set (.w (aA f)) (kept++row.drop v))/\jI T I/\I.done=T.done/\I.R .lo=T.R .lo/\
   ∀k,I.aN k->(k:Int) ∉ row.drop v->Pg (I.set (.w (aA f)) (kept++row.drop v)) k,
   ⟨_,0,0,T,H',[],row,rfl,rfl,xc _,vy _,rfl,rfl,rfl,rfl,rfl,aT,rfl,ed,?_,jI.refl T,rfl,rfl,?_⟩,?_⟩
  .rw [WY,Y4,<- aT,fJ];exact gT
  .rw [WY,Y4,<- aT,fJ];intro k O an b9 x hx y hy c1 hm;rcases(fz hd).1 hm with hm|hm
   .exact gT.wd k O b9 x hx y hy c1 hm
   .rw [hX]at hm;have:x=f:=by omega
    rw[this]at hx;exact absurd (gT.w2 k O f hx) an
  rintro KP V u m _⟨kp,v,I,H2,kept,cur,rfl,rfl,hv,gc,rfl,ay,a7,cr,dk,ag,Q,Pu,gV,x2,d2,bn,pg⟩;have hu:=Pu.pm;have cm:I.done< (I.R .tr).length:=by
   rw[d2];obtain⟨e,he⟩:=x2.tr;rw[he,I'];omega
  have d4:(I.R .tr).getD I.done 0= -f:=by
   rw[d2];obtain⟨e,he⟩:=x2.tr;rw[he,bW hd,hX,eF]
  have co:I.vars=T.vars:=x2.v;refine ah (λr2=>?_) (λr2=>?_)
  .have rv:v<row.length:=by rw[bb]at r2;simpa using r2
   clear r2;have J:row.drop v=row.getD v 0::row.drop (v+1):=by
    rw[XV rv];simp[List.getD,rv]
   have fk:cur.getD v 0=row.getD v 0:=by
    have e1:(cur.drop v).getD 0 0=cur.getD v 0:=by simp[List.getD]
    have e2:(row.drop v).getD 0 0=row.getD v 0:=by simp[List.getD]
    rw[<- e1,dk,e2]
   have dp:cur.drop (v+1)=row.drop (v+1):=by
    have e1:(cur.drop v).drop 1=cur.drop (v+1):=by rw[ZE]
    have e2:(row.drop v).drop 1=row.drop (v+1):=by rw[ZE]
    rw[<- e1,dk,e2]
   rw[<- Q];refine hu.AJ (x:=.w (aA f)) rfl (by omega) rfl (by rw[ag];omega) λgz _ d'=>⟨_,d',?_⟩
   rw[ag,tn,fk];generalize hc:row.getD v 0=c at*
   obtain⟨i,rfl,U,z,hz,fs⟩:=gV.w1 (aA f) c (by rw[aQ,J];simp);have:=nX fs;subst this;rw[aq (by simp)]at hz;have U:I.aN i:=U;have Z:(I.set (.w (aA z)) (kept++row.drop v)).R (.l i)=I.R (.l i):=aq (by simp);have bY:∀x∈I.R (.l i),dZ I.vars x:=λx hx=>gV.cv i U x (by rw[Z];exact hx);have gr:(I.R (.l i)).length<=4096:=by have:=gV.cl i U;rw[Z]at this;exact this
   have kT:Wf I:=by
    have:=gV.wf;have e:I=(I.set (.w (aA z)) (kept++row.drop v)).set (.w (aA z)) (I.R (.w (aA z))):=by rw[set_set,fJ]
    rw[e];exact this.set (by simp) (by simp) (by simp) (by simp) (by simp) _
   have hw:∀j,(I.R (.w j)).length<=262144:=λj=>by
    by_cases e:j=aA z
    .rw [e,ag];omega
    .have:=gV.wl j;rw[aq (by simpa using e)]at this;exact this
   have ar:∀ {u':World} {T':aH} {H3:Pt->Sl},Pw w u' b H H3 T'->T'.R (.w (aA z))=cur->H3 (.w (aA z))=H2 (.w (aA z))->∀ {K:World->Prop},
    (∀w3,Pw w w3 b H H3 (T'.set (.w (aA z)) (cur.set kp (i:Int)))->K w3)->aV (H2 (.w (aA z))).p (H2 (.w (aA z))).n (kp:Int) 1 λa=>∃w3,bD a 0 [.i (i:Int)] u' w3/\K w3:=by
    intro u' T' H3 P e1 e2 K O;rw[<- e2];refine P.pm.Lh (x:=.w (aA z)) rfl (by omega) rfl (by rw[e1];omega) (y:=(i:Int)) rfl rfl λw3 h3 m3=>O w3 ?_;rw[e1,tn]at h3;exact P.trans (Pw.Va h3 m3)
   have b8:(cur.set kp (i:Int)).take (kp+1)=kept++ [(i:Int)]:=by rw[pW (by omega),cr]
   have cb:(cur.set kp (i:Int)).drop (v+1)=row.drop (v+1):=by rw[Gp (by omega),dp]
   have a6:kept++ [(i:Int)]++row.drop (v+1)=kept++row.drop v:=by rw[J];simp
   have eN:(H2 (.l i)).n=(I.R (.l i)).length:=hu.len (.l i) rfl;refine⟨_,rfl,_,_,_,ae hu.st rfl,hu.O_ U.1 rfl rfl λgd dd=>⟨_,_,_,dd.get 1 _ rfl,?_⟩⟩;rw[eN];refine ah (λr3=>?_) (λr3=>?_)
   .have gl:((I.R (.l i)).length:Int)<2:=by simpa using r3
    have r3:(I.R (.l i)).length<2:=by omega
    refine ar Pu ag rfl λgp fm=>?_;refine⟨_,?_,kp+1,v+1,_,H2,kept++ [(i:Int)],cur.set kp (i:Int),wN,wN,rv,by omega,rfl,by simp[ay],by simp[a7],b8,cb,aQ,rfl,fm,by rw[set_set,a6];exact gV,
     x2.trans (jI.set (by simp) (by simp) (by simp) (by simp)),d2,by rw[aq (by simp)];exact bn,λk O an=>?_⟩
    .omega
    .rw [set_set,a6];by_cases e:k=i
     .subst e;intro b9;exact absurd (gV.o2 k O (by rw[Z];exact r3)) b9
     .refine pg k O λhm=>?_;rw[J]at hm;rcases V'.1 hm with h|h
      .omega
      .exact an h
   .have r3:2<=(I.R (.l i)).length:=by simp at r3;omega
    refine(NR hu kT U.1 bY (by omega) (λj=>by have:=hw j;omega) r3 z).mono ?_;rintro e gA⟨st,br,rfl,s',H3,V3,e4,kv⟩;have vz:∀y,dZ I.vars y->0<=I.val y->aA y≠aA z:=λy _ hy e=>by
     rw[nX e]at hy;have h1:(I.set (.w (aA z)) (kept++row.drop v)).val z<0:=(gV.OL (by rw[show (I.set (.w (aA z)) (kept++row.drop v)).vars=T.vars from co];exact bi)).2 (by
      rw[aq (by simp),<- d4];exact bL cm)
     rw[kx (s:=I) (aq (by simp))]at h1;omega
    have vm:∀y∈kA (I.R (.l i)) z,0<=I.val y->aA y≠aA z:=λy hy h0=>vz y (bY y ((rF _ _).mem_iff.1 hy)) h0;have Y:H3 (.w (aA z))=H2 (.w (aA z)):=kv _ (by simp) λy hy h0 e=>vz y hy h0 (by injection e with e;exact e.symm);have b4:s'.R (.w (aA z))=cur:=(QK V3 vm).trans ag;have V4:=PJ (r:=kept++row.drop v) V3 vm;rw[<- Z]at V4;have ec:((I.set (.w (aA z)) (kept++row.drop v)).R .tr).getD (I.set (.w (aA z)) (kept++row.drop v)).done 0= -z:=by rw[aq (by simp)];exact d4
    have d9:(I.set (.w (aA z)) (kept++row.drop v)).done< ((I.set (.w (aA z)) (kept++row.drop v)).R .tr).length:=by rw[aq (by simp)];exact cm
    have az:=Pu.trans e4;have gv:=az.pm;cases st with
    |true=>
     obtain⟨G5,p5,q5,x5,b5,l5,d5,_⟩:=Ab gV U (by rw[Z];exact r3) (by rw[Z];exact hz) d9 ec V4 (r:=kept++row.drop v) (λ_=>by rw[aQ]) (λh=>by cases h);rw[set_set]at G5 p5 q5 x5;have x6:jI T s':=x2.trans ((jI.set (x:=.w (aA z)) (by simp) (by simp) (by simp) (by simp)).trans (x5.trans (by
      have:=jI.set (s:=s'.set (.w (aA z)) (kept++row.drop v)) (x:=.w (aA z)) (by simp) (by simp) (by simp) (by simp) (l:=s'.R (.w (aA z)));rw[set_set,fJ]at this;exact this)))
     have fd:s'.done=T.done:=d5.trans d2;have c0:s'.R .lo=T.R .lo:=by
      rw[aq (by simp),aq (by simp)]at l5;exact l5.trans bn
     refine⟨_,_,rfl,bJ rfl (ar az b4 Y λdu cT=>?_)⟩;cases br with
     |true=>
      refine bJ rfl ?_;rw[Q];have e1:IntKind.i64.wrap ((kp:Int)+1)=((kp+1:Nat):Int):=wN;have e2:IntKind.i64.wrap ((v:Int)+1)=((v+1:Nat):Int):=wN;rw[e1,e2,bb];refine gh (kp+1) row.length (H' (.w (aA z))).c rfl rfl rfl (vy _) b7 (by omega) ?_;refine gh (v+1) row.length (H' (.w (aA z))).c rfl rfl rfl (vy _) b7 (by omega) ?_;have aw:=cT.pm.drew;have c4:d_ aB du.drew (H' (.w (aA z))).p (H' (.w (aA z))).c (cur.set kp (i:Int)):=by
       have:=aw.row (.w (aA z)) rfl;rw[aQ,Y,Q]at this;exact this
      have vw:Vw sT du.drew (if (H' (.w (aA z))).c=v+1 then (H' (.w (aA z))).p else (H' (.w (aA z))).p.map (·.add ((v+1)*1))) (row.drop (v+1)):=by
       split
       .have:row.drop (v+1)= []:=Yy (by omega);rw[this];exact Vw.nil
       .have:=c4.vw.part (i:=v+1) (m:=row.length - (v+1)) (by simp[a7];omega);rw[cb,Wi (by simp)]at this;exact this
      refine c4.Ux cR (o:=kp+1) vw (by simp) (by omega) (λh=>?_) (by simp[a7];omega) eI λcp eg d7 gs=>?_
      .rw [r8 (by omega)]
      have bg:(cur.set kp (i:Int)).take (kp+1)++row.drop (v+1)=kept++row.drop v:=by rw[b8,a6]
      rw[bg]at eg;have dq:=aw.Kd (x:=.w (aA z)) rfl (w':=cp.drew) (d7.trans (aE.refl _).drew|>.mono λk _ e=>by rw[Y,Q];exact e);have fC:=aw.st;have fv: ¬aF (H' (.w (aA z))).p=some b:=by
       have:=aw.j8 (x:=.w (aA z)) (by simp) (y:=.st) (by simp) (k:=b) rfl;rw[Y,Q]at this;exact this
      refine⟨(·=cp.drew),rfl,_,rfl,_,_,_,fI (ae dq.st rfl),(il bf _).mono ?_⟩;rintro e g4⟨rfl,rfl⟩;have e3:IntKind.i64.wrap (((kp+1:Nat):Int)+ ((row.length - (v+1):Nat):Int))=((kp+1+ (row.length - (v+1)):Nat):Int):=wN;refine⟨_,rfl,rfl,?_⟩;rw[e3];refine gh 0 (kp+1+ (row.length - (v+1))) (H' (.w (aA z))).c rfl rfl rfl (vy _) (by omega) (xc _) ?_;rw[UM,WO,WO];have e7:d_ aB cp.drew (H' (.w (aA z))).p (H' (.w (aA z))).c (kept++row.drop v):=by
       have:=eg.drew.take (k:=(kept++row.drop v).length) (by simp);rw[List.take_left']at this
       .exact this
       .rfl
      have eK:kp+1+ (row.length - (v+1))=(kept++row.drop v).length:=by simp[ay];omega
      refine aw.JE (i:=aA z) (by show _<2* (s'.vars+1);rw[x6.v];exact b_) e7 dq (λk O=> .inl (by rw[Y,Q];exact O)) eK aw.wn rfl λfq dT ew=>?_;rw[set_set]at dT;have fi:Pw w fq b H _ (s'.set (.w (aA z)) (kept++row.drop v)):=cT.drew.trans (Pw.head (x:=.w (aA z)) (z:=.wa) (by simp) dT (d7.trans (aE.refl _).drew|>.mono λk _ e=>by rw[Y,Q];exact e) ew λk O=> .inl (by rw[Y,Q];exact O));refine⟨_,rfl,_,_,fi,G5,xT.trans (x6.trans (jI.set (by simp) (by simp) (by simp) (by simp))),.inr ⟨i,rfl,x5.lN.2 U,λx hx=>?_⟩⟩;have hb:=b5 rfl x (by
       rw[x5.a]at hx;exact(gV.ca i U x).2 hx)
      exact x5.mem hb
     |false=>
      refine bq rfl ?_;refine⟨_,?_,kp+1,v+1,_,H3,kept++ [(i:Int)],cur.set kp (i:Int),wN,wN,rv,by omega,rfl,by simp[ay],by simp[a7],b8,cb,aQ,Y,cT,by rw[set_set,a6];exact G5,
       x6.trans (jI.set (by simp) (by simp) (by simp) (by simp)),fd,by rw[aq (by simp)];exact c0,λk O an=>?_⟩
      .omega
      .rw [set_set,a6];by_cases e:k=i
       .subst e;exact p5 rfl
       .refine q5 k e (pg k (x5.lN.1 O) λhm=>?_);rw[J]at hm;rcases V'.1 hm with h|h
        .omega
        .exact an h
    |false=>
     have eT:br=false:=by cases V3;rfl
     subst eT;have c2:=gV.w3 (aA z);rw[aQ,J]at c2;have fl:∀c,c∈kept++row.drop (v+1)↔c∈(I.set (.w (aA z)) (kept++row.drop v)).R (.w (aA z))/\c≠(i:Int):=λc=>by
      rw[aQ,J,y4,y4,V'];have h1:=Xu.1 c2;have h2:=Ym.1 h1.2.1;constructor
      .rintro (h|h)
       .exact ⟨.inl h,λe=>h1.2.2 c h (i:Int) (by simp) e⟩
       .exact ⟨.inr (.inr h),λe=>h2.1 (e▸h)⟩
      .rintro ⟨h|h|h,c1⟩
       .exact .inl h
       .exact absurd h c1
       .exact .inr h
     have eb:(kept++row.drop (v+1)).Sublist (kept++ (i:Int)::row.drop (v+1)):=YQ (YF _) (Y5 _ _);obtain⟨G5,p5,q5,x5,b5,l5,d5,_⟩:=Ab gV U (by rw[Z];exact r3) (by rw[Z];exact hz) d9 ec V4 (r:=kept++row.drop (v+1)) (λh=>by cases h) (λ_=>⟨fl,eb.nodup c2⟩);rw[set_set]at G5 p5 q5 x5;have x6:jI T s':=x2.trans ((jI.set (x:=.w (aA z)) (by simp) (by simp) (by simp) (by simp)).trans (x5.trans (by
      have:=jI.set (s:=s'.set (.w (aA z)) (kept++row.drop (v+1))) (x:=.w (aA z)) (by simp) (by simp) (by simp) (by simp) (l:=s'.R (.w (aA z)));rw[set_set,fJ]at this;exact this)))
     have c0:s'.R .lo=T.R .lo:=by
      rw[aq (by simp),aq (by simp)]at l5;exact l5.trans bn
     refine⟨_,_,rfl,bq rfl (bq rfl ?_)⟩;refine⟨_,?_,kp,v+1,s',H3,kept,cur,rfl,wN,rv,by omega,rfl,ay,a7,cr,dp,b4,Y,az,G5,x6,d5.trans d2,c0,λk O an=>?_⟩
     .omega
     .by_cases e:k=i
      .subst e;exact p5 rfl
      .refine q5 k e (pg k (x5.lN.1 O) λhm=>?_);rw[J]at hm;rcases V'.1 hm with h|h
       .omega
       .exact an h
  .have r2:v=row.length:=by rw[bb]at r2;simp at r2;omega
   subst r2;rw[Yt,W9]at gV;have aa:=hu.drew;refine⟨(·=u.drew),rfl,_,rfl,_,_,_,fI (ae aa.st rfl),(il bf _).mono ?_⟩;rintro e gf⟨rfl,rfl⟩;refine⟨_,rfl,rfl,?_⟩;rw[bb];refine gh 0 kp (H' (.w (aA f))).c rfl rfl rfl (vy _) (by omega) (xc _) ?_;rw[UM,WO,WO];have e5:d_ aB u.drew (H' (.w (aA f))).p (H' (.w (aA f))).c kept:=by
    have:=(aa.row (.w (aA f)) rfl).take (k:=kp) (by rw[ag];omega);rw[ag,cr,Q]at this;exact this
   refine aa.JE (i:=aA f) (by rw[co];exact b_) e5 ⟨aa.st,aa.c,aa.wa,λy hy _=>aa.row y hy⟩ (λk O=> .inl (by rw[Q];exact O)) ay.symm aa.wn rfl λeH cg ez=>?_;have e9:Pw w eH b H _ (I.set (.w (aA f)) kept):=Pu.drew.trans (Pw.head (x:=.w (aA f)) (z:=.wa) (by simp) cg (aE.refl _) ez λk O=> .inl (by rw[Q];exact O));refine⟨_,rfl,_,ae cg.st rfl,_,rfl,?_⟩;have e1:IntKind.i64.wrap (((I.set (.w (aA f)) kept).done:Int)+1)=((I.done+1:Nat):Int):=wN rfl (by have:=gT.CQ;have:=gT.eM;omega);refine cg.IY (n:=I.done+1) e1 λgW e8 e6=>?_;have gS:=J7 gV (by rw[aq (by simp)];exact cm) λk O=>by
    have:=pg k O (by rw[Yt];simp);rw[Yt,W9]at this;exact this
   have ac:jI I (I.set (.w (aA f)) kept):=jI.set (by simp) (by simp) (by simp) (by simp);have xS:jI T (I.set (.w (aA f)) kept).step:=x2.trans ⟨ac.v,ac.n,ac.g,ac.a,ac.be,ac.ds,ac.tr⟩;refine⟨_,?_,(I.set (.w (aA f)) kept).step,_,rfl,e9.trans ⟨e8,e6.mono λk _ e=>⟨.st,by rw[e];rfl⟩,λx k O=> .inl ⟨x,O⟩⟩,gS,xT.trans xS,λk O hm=>?_⟩
   .show I.vars - (I.done+1)<T.vars - T.done;have:=gT.CQ;rw[co,d2];omega
   .have eA:(k:Int)∈T.R .lo:=by
     have e:(I.set (.w (aA f)) kept).step.R .lo=I.R .lo:=aq (s:=I) (x:=.w (aA f)) (y:=.lo) (l:=kept) (by simp);rw[e,bn]at hm;exact hm
    obtain⟨x,hx,fh⟩:=lT k (xS.lN.1 O) eA;exact⟨x,by rw[xS.a];exact hx,xS.mem fh⟩
 .have hd:(T.R .tr).length<=T.done:=by simp at r;omega
  exact⟨_,rfl,T,H',P8.drew,gT,xT,.inl ⟨rfl,KT gT hd lT⟩⟩
end
