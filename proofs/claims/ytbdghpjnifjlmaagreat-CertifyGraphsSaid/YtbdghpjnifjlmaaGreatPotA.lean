/- Layer 14: how many conflicts there may be until it is begun anew: a number that falls, plain. -/
import Derived.Test.YtbdghpjnifjlmaaGreatRupB
import Derived.Test.YtbdghpjnifjlmaaGreatLubyA
import Derived.Test.YtbdghpjnifjlmaaGreatPfA
set_option linter.all false
namespace Go.Proofs.YtbdghpjnifjlmaaGreat.W
open Go Go.Fw Go.RowKit Go.SoP Go.LiP Go.LeP
variable{s t s':aH}{l:List Int}{x:Int}{i j N β bl:Nat}
def TO(N p:Nat):Nat:=2 ^ (N - 1 - p) / 2
def Pf(N:Nat)(be:List Int):Nat:=(be.map λp=>TO N p.toNat).sum
def bt(s:aH):Nat:=Pf s.vars (s.R .be)+ (2 ^ (s.vars - 1 - (s.R .tr).length) - 1)
def VG(s:aH):Prop:=dE s\/∃i,xN s i
theorem Og(N:Nat){be:List Int}{k:Nat}(h:k<be.length):Pf N (be.take k)+TO N (be.getD k 0).toNat<=Pf N be:=by
 have e:be=be.take k++be.getD k 0::be.drop (k+1):=by
  have h1:=WN k be;rw[XV h]at h1;rw[<- h1];simp[List.getD,h]
 unfold Pf
 conv=>rhs;rw[e]
 rw[GD,List.sum_append,Xj,List.sum_cons];omega
theorem QT(g:aL s)(b:Ez s)(I:xN s i)(hl:0< (s.R .be).length):((s.R .be).getD ((s.R .be).length - 1) 0).toNat+2<=(s.R .tr).length:=by
 have V:(s.R .be).length - 1< (s.R .be).length:=by omega
 have hb:=g.bl _ V;refine Wj λhn=>?_;have bP:∀z,z∈s.R .tr->z ∉ s.df ((s.R .be).length - 1)->z=(s.R .tr).getD ((s.R .be).getD ((s.R .be).length - 1) 0).toNat 0:=by
  intro z Q hp;obtain⟨p,h1,U⟩:=CL Q;have: ¬p< ((s.R .be).getD ((s.R .be).length - 1) 0).toNat:=λh=>hp (F9.2 ⟨p,h,h1,U⟩);rw[<- U];congr 1;omega
 rcases b _ V i I.1 with⟨y,O,J⟩| ⟨y,O,z,Q,X,_,b1,_,b2⟩
 .exact iR g (I.2 y O) (Wh J)
 .have:=bP _ (I.2 y O) b1;have:=bP _ (I.2 z Q) b2;omega
theorem HT(g:aL s)(b:Ez s)(hB:xN s i)(k:LS s l bl)(ha:lM (s.bV bl) l s'):((s.R .be).getD bl 0).toNat+2<=s.vars/\∀u,jI s' u->aL u->VG u->u.vars=s.vars/\u.R .be=(s.R .be).take bl/\((s.R .be).getD bl 0).toNat+1<=(u.R .tr).length:=by
 have I:=k.lt;have aC:=QT g b hB (by omega);have a_:(s.R .be).getD bl 0<=(s.R .be).getD ((s.R .be).length - 1) 0:=by
  by_cases e:bl=(s.R .be).length - 1
  .rw [e];exact Ww _
  .exact Int.le_of_lt (g.bs bl _ (by omega) (by omega))
 have hb:=g.bl bl I;have a6:=g.CQ;obtain⟨p,hp⟩: ∃p,p=((s.R .be).getD bl 0).toNat:=⟨_,rfl⟩
 have ag:p+2<=s.vars:=by omega
 rw[<- hp];refine⟨ag,?_⟩;intro u e gu O;have ev:u.vars=s.vars:=by rw[e.v,ha.v];rfl
 have eb:u.R .be=(s.R .be).take bl:=by rw[e.be,ha.be,tq]
 obtain⟨q,hq⟩:=e.tr;rw[ha.tr]at hq;have V:(s.bV bl).R .tr=s.df bl:=uU;rw[V]at hq;have aw:(s.df bl).length=p:=by unfold aH.df;rw[y6];omega
 have enc:(s.bV bl).nc=s.nc:=rfl;have grow:q≠[]:=by
  intro e0;rw[e0,W9]at hq;obtain⟨x0,X,l0,az⟩:=k.qd;have an:u.R (.a s.nc)=l:=by rw[e.a,ha.a,enc,v8 rfl]
  rcases O with O| ⟨Y,O⟩
  .have th:u.aN s.nc:=e.lN.2 ⟨by rw[ha.n,enc];omega,by rw[ha.g,enc,v8 rfl]⟩;rcases O _ th with⟨x,U,Z⟩| ⟨x,U,y,J,Q,v1,v2⟩
   .rw [an]at U;rw[hq]at Z;exact iR g (k.ft x U) (Wh Z)
   .rw [an]at U J;have tI:∀z∈l,dZ u.vars z:=λz hz=>by rw[ev];exact k.tI g hz
    have n1:=(oE gu (tI x U) v1).2;have n2:=(oE gu (tI y J) v2).2;rw[hq]at n1 n2;have key:∀z∈l,-z ∉ s.df bl->z=x0:=λz hz hn=>by
     refine Wj λQ=>hn ((q_ g (k.ft z hz) I).2 (az z hz Q))
    exact Q ((key x U n1).trans (key y J n2).symm)
  .by_cases e2:Y=s.nc
   .subst e2;have h1:=O.2 x0 (by rw[an];exact X);rw[hq]at h1;have:=(q_ g (k.ft x0 X) I).1 h1;omega
   .have th:=e.lN.1 O.1;have av:s.aN Y:=by
     refine⟨?_,?_⟩
     .have:=th.1;rw[ha.n,enc]at this;omega
     .have:=th.2;rw[ha.g,enc,r8 e2]at this;exact this
    have ea:u.R (.a Y)=s.R (.a Y):=by rw[e.a,ha.a,enc,r8 e2,pT]
    have f2:=O.2;rw[ea,hq]at f2;rcases b bl I Y av with⟨y,J,ac⟩| ⟨y,J,_,_,_,_,b1,_,_⟩
    .exact iR gu (x:=y) (by rw[hq];exact f2 y J) (by rw[hq];exact ac)
    .exact b1 (f2 y J)
 refine⟨ev,eb,?_⟩;rw[hq,I',aw];have:=Wx.2 grow;omega
def QR(s:aH):Prop:=dE s\/(s.R .be≠[]/\∃i,xN s i)
theorem QR.VN(h:QR s):VG s:=h.imp id λh=>h.2
def Pc(s:aH):Nat:=if s.R .be= [] then 2 ^ (s.vars - 2) - 1 else Pf s.vars ((s.R .be).drop 1)+ (2 ^ (s.vars - 1 - (s.R .tr).length) - 1)
def Vf(ph:Bool)(s:aH):Nat:=if ph=true then bt s else Pc s
def xr(ph:Bool)(s:aH)(β:Nat):Prop:=∀s',jI s s'->aL s'->QR s'->Vf ph s'<=β
theorem xr.run{ph:Bool}(h:xr ph s β)(e:jI s s'):xr ph s' β:=λu I=>h u (e.trans I)
theorem xr.eh{ph:Bool}(h:xr ph s β)(g:aL s)(f:QR s):Vf ph s<=β:=h s (jI.refl s) g f
theorem xr.mono{ph:Bool}{γ:Nat}(h:xr ph s β)(e:β<=γ):xr ph s γ:=λu a b c=>Wl (h u a b c) e
theorem xr.RA(h:s.R .be= [])(hv:s.vars=N):xr false s (2 ^ (N - 2) - 1):=by
 intro u e g f;show Pc u<=_;unfold Pc;rw[v8 (by rw[e.be];exact h),e.v,hv];exact vy _
def P0(s:aH)(un:Prop):Prop:=(s.R .be≠[]->1<=(s.R .be).getD 0 0)/\(s.R .be= []->1<=(s.R .tr).length\/un)
theorem xr.Rz{un:lq}{cs:lq}{hv:List (Nat × List Int)}(k:qB N cs s hv un)(h:s.R .be= [])(p:P0 s (∃c∈un,c.length=1)):xr true s (2 ^ (N - 2) - 1):=by
 intro u e g f;have I:u.R .be= []:=by rw[e.be];exact h
 have X:dE u:=by
  rcases f with f| ⟨f,_⟩
  .exact f
  .exact absurd I f
 have ht:1<=(u.R .tr).length:=by
  obtain⟨q,hq⟩:=e.tr;rw[hq,I'];rcases p.2 h with p| ⟨c,Q,hl⟩
  .omega
  .obtain ⟨x,rfl⟩: ∃x,c= [x]:=by
    match c,hl with
    | [x],_=>exact⟨x,rfl⟩
   obtain⟨j,_,Y,Z,_⟩:=k.Nw _ Q;have U:u.R (.a j)= [x]:=by rw[e.a];exact Z
   have hm:x∈u.R .tr:=by
    rcases X j (e.lN.2 Y) with⟨y,J,ht⟩| ⟨y,J,z,V,O,_⟩
    .rw [U,xv]at J;subst J;exact ht
    .rw [U,xv]at J V;exact absurd (J.trans V.symm) O
   rw[hq]at hm;have:=Xq hm;rw[I']at this;omega
 show bt u<=_;unfold bt;rw[I,e.v,k.v];have:2 ^ (N - 1 - (u.R .tr).length)<=2 ^ (N - 2):=WM (by omega) (by omega);show 0+_<=_;omega
theorem Dl{b:List Int}(h:Pf s.vars b+ (2 ^ (s.vars - 1 - (s.R .tr).length) - 1)<=β){u:aH}(hv:u.vars=s.vars)(hl:(s.R .tr).length+1<=(u.R .tr).length)(U:(u.R .tr).length<=s.vars):Pf u.vars (b++ [((s.R .tr).length:Int)])+ (2 ^ (u.vars - 1 - (u.R .tr).length) - 1)<=β:=by
 unfold Pf at h ⊢;rw[hv,GD,List.sum_append];simp only[Xj,Zw,List.sum_cons,List.sum_nil,tn];generalize (s.R .tr).length=T at*
 generalize (u.R .tr).length=J at*
 generalize (List.map (λp=>TO s.vars p.toNat) b).sum=A at*
 unfold TO;rcases Wt (s.vars - 1 - T) with e0|e0
 .rw [e0]at h ⊢;rw[show s.vars - 1 - J=0 by omega];simpa using h
 .obtain ⟨m,hm⟩: ∃m,s.vars - 1 - T=m+1:=⟨s.vars - 1 - T - 1,by omega⟩
  have V:2 ^ (s.vars - 1 - J)<=2 ^ m:=WM (by omega) (by omega);have Q:2 ^ (s.vars - 1 - T)=2*2 ^ m:=by rw[hm,YY,YN]
  have I:=W_ m;rw[Q]at h ⊢;have O:2*2 ^ m / 2=2 ^ m:=by omega
  rw[O];omega
theorem xr.decide{ph:Bool}(h:Vf ph s<=β):xr ph (s.decide x) β:=by
 intro u e O _;obtain⟨k,J⟩:=e.tr;have I:=e.be;have ev:u.vars=s.vars:=e.v;rw[xo]at J;rw[nO]at I;have hl:=O.CQ;rw[ev]at hl;have hlen:(u.R .tr).length=(s.R .tr).length+1+k.length:=by rw[J];simp;omega
 cases ph with
 |true=>
  show bt u<=β;have h:bt s<=β:=h;unfold bt at h ⊢;rw[I];exact Dl h ev (by omega) hl
 |false=>
  show Pc u<=β;have h:Pc s<=β:=h;unfold Pc at h ⊢;rw[I,r8 (by simp)];by_cases e0:s.R .be= []
  .rw [v8 e0]at h;rw[e0,ev];have:2 ^ (s.vars - 1 - (u.R .tr).length)<=2 ^ (s.vars - 2):=WM (by omega) (by omega);show 0+_<=β;omega
  .rw [r8 e0]at h;have hp:0< (s.R .be).length:=Wx.2 e0;rw[Yv (by omega)];exact Dl h ev (by omega) hl
theorem y_{b:List Int}{k:Nat}{tl:Nat}(O:k<b.length){u:aH}(hv:u.vars=s.vars)(hp:(b.getD k 0).toNat+2<=s.vars)(hl:(b.getD k 0).toNat+1<=tl)(h:Pf s.vars b<=β):1<=β/\Pf u.vars (b.take k)+ (2 ^ (u.vars - 1 - tl) - 1)<=β - 1:=by
 have ht:=Og s.vars O;obtain⟨p,I⟩: ∃p,p=(b.getD k 0).toNat:=⟨_,rfl⟩
 rw[<- I]at ht hp hl;obtain⟨m,hm⟩: ∃m,s.vars - 1 - p=m+1:=⟨s.vars - 1 - p - 1,by omega⟩
 have U:TO s.vars p=2 ^ m:=by unfold TO;rw[hm,YY];omega
 have J:=W_ m;have Q:2 ^ (s.vars - 1 - tl)<=2 ^ m:=WM (by omega) (by omega);rw[hv];omega
theorem xr.Fk{ph:Bool}(g:aL s)(b:Ez s)(hB:xN s i)(k:LS s l bl)(h:xr ph s β)(ha:lM (s.bV bl) l s'):(ph=false/\bl=0)\/(1<=β/\xr ph s' (β - 1)):=by
 have J:=k.lt;have O:s.R .be≠[]:=λe=>by rw[e]at J;simp at J
 have hs:=h.eh g (.inr ⟨O,i,hB⟩);obtain⟨I,F⟩:=HT g b hB k ha;cases ph with
 |true=>
  have hs:bt s<=β:=hs;unfold bt at hs;refine .inr ⟨(y_ (u:=s) (tl:=s.vars) J rfl I (by omega) (Wl (Yr _ _) hs)).1,λu e Y U=>?_⟩;obtain⟨ev,V,X⟩:=F u e Y U.VN;show bt u<=_;unfold bt;rw[V];exact(y_ J ev I X (Wl (Yr _ _) hs)).2
 |false=>
  by_cases e0:bl=0
  .exact .inl ⟨rfl,e0⟩
  have hs:Pc s<=β:=hs;unfold Pc at hs;rw[r8 O]at hs;have Z:bl - 1< ((s.R .be).drop 1).length:=by rw[WD];omega
  have Q:((s.R .be).drop 1).getD (bl - 1) 0=(s.R .be).getD bl 0:=by
   simp only[vx,Xp];rw[show 1+ (bl - 1)=bl by omega]
  refine .inr ⟨(y_ (u:=s) (tl:=s.vars) Z rfl (by rw[Q];exact I) (by rw[Q];omega) (Wl (Yr _ _) hs)).1,λu e Y U=>?_⟩;obtain⟨ev,V,X⟩:=F u e Y U.VN;show Pc u<=_;unfold Pc;have e1:(s.R .be).take bl≠[]:=λe=>by have:=congrArg List.length e;rw[y6,Xi]at this;omega
  have e2:((s.R .be).take bl).drop 1=((s.R .be).drop 1).take (bl - 1):=by
   rw[List.drop_take]
  rw[V,r8 e1,e2];exact(y_ Z ev (by rw[Q];exact I) (by rw[Q];exact X) (Wl (Yr _ _) hs)).2
theorem LS.UX(g:aL s)(k:LS s l 0)(X:((s.R .be).getD 0 0).toNat=0):l.length=1:=by
 obtain⟨Y,O,l0,Q⟩:=k.qd;have I:s.df 0= []:=by unfold aH.df;rw[X];rfl
 have bP:∀z∈l,z=Y:=λz U=>Wj λJ=>by
  have:=(q_ g (k.ft z U) k.lt).2 (Q z U J);rw[I]at this;simp at this
 match l,k.nd,O,bP with
 | [],_,h,_=>simp at h
 | [_],_,_,_=>rfl
 |a::c::r,nd,_,bP=>
  have h1:=bP a (by simp);have V:=bP c (by simp);rw[h1,V]at nd;simp at nd
end Go.Proofs.YtbdghpjnifjlmaaGreat.W
namespace Go.PotP
open Go.Luby
theorem FD{a b:Nat}(h:a<=b):Luby.sum a<=Luby.sum b:=by
 induction h with
 |refl=>exact vy _
 |step _ ih=>exact Wl ih (by show _<=Luby.sum _+kI _;omega)
theorem EZ{a:Nat}(h:1<=a):Luby.sum a=Luby.sum (a - 1)+kI a:=by
 obtain⟨b,rfl⟩: ∃b,a=b+1:=⟨a - 1,by omega⟩
 rfl
theorem L8(k:Nat):∀a,1<=a->∃j,a<=j/\2 ^ k<=kI j/\Luby.sum (j - 1)<=Luby.sum (a - 1)+k*2 ^ k:=by
 intro a
 induction a using Nat.strongRecOn with
 |_ a Y=>
  intro h1;have hk:=W_ k;have Q:=eG k;by_cases e:a<=2 ^ (k+1) - 1
  .refine ⟨2 ^ (k+1) - 1,e,by rw[kK];exact vy _,?_⟩;have X:=E1 (k+1);have h3:=EZ (a:=2 ^ (k+1) - 1) (by omega);rw[kK,X]at h3;have h4:(k+1)*2 ^ (k+1) / 2=k*2 ^ k+2 ^ k:=by
    rw[Q,Y3,YX _ (by omega),XG,Yf]
   omega
  .obtain ⟨m,hm⟩: ∃m,bl a=m+1:=⟨bl a - 1,by have:=(uS (n:=a) (by omega)).1;omega⟩
   have b1:=Gz a;have b2:=(uS (n:=a) (by omega)).2;rw[hm]at b1 b2;rw[Xy]at b2;have ar:=eG m;have O:k+1<=m:=by
    refine Wj λhn=>?_;have:2 ^ (m+1)<=2 ^ (k+1):=WM (by omega) (by omega);omega
   have aw:2 ^ (k+1)<=2 ^ m:=WM (by omega) O;by_cases e2:a=2 ^ (m+1) - 1
   .refine ⟨a,vy _,?_,by omega⟩;rw[e2,kK];omega
   .obtain ⟨i,hi⟩: ∃i,i=a - (2 ^ m - 1):=⟨_,rfl⟩
    obtain⟨V,g1,g2,U⟩:=Y i (by omega) (by omega);have J:kI (2 ^ m - 1)=2 ^ (m - 1):=by
     have:=kK (m - 1)
     rwa [show m - 1+1=m by omega]at this
    obtain⟨I,q1,q2,q3,q4⟩: ∃I,i<=I/\I<=2 ^ m - 1/\2 ^ k<=kI I/\Luby.sum (I - 1)<=Luby.sum (i - 1)+k*2 ^ k:=by
     by_cases e3:V<=2 ^ m - 1
     .exact ⟨V,g1,e3,g2,U⟩
     .refine ⟨2 ^ m - 1,by omega,vy _,?_,Wl (FD (by omega)) U⟩;rw[J];exact WM (by omega) (by omega)
    refine⟨2 ^ m - 1+I,by omega,by rw[zY (by omega) q2];exact q3,?_⟩;have s1:=rA m (I - 1) (by omega);have Z:=rA m (i - 1) (by omega);rw[show 2 ^ m - 1+I - 1=2 ^ m - 1+ (I - 1) by omega,s1,show a - 1=2 ^ m - 1+ (i - 1) by omega,Z];omega
inductive Tl (L u:Nat):Nat->Nat->Nat->Prop
 |OH {a l:Nat}:L<=u*kI a->Tl L u a l (L+l - u*kI a)
 |IL {a l n:Nat}:u*kI a<L->Tl L u (a+1) (u*kI (a+1)) n->Tl L u a l (l+n)
theorem Tl.to{L u j:Nat}(J:L<=u*kI j):∀d a,1<=a->a+d=j->∀l,l<=u*kI a->∃n,Tl L u a l n/\n+u*Luby.sum (a - 1)<=u*Luby.sum (j - 1)+L:=by
 intro d
 induction d with
 |zero=>
  intro a h1 e l hl;rw[XN]at e;subst e;exact⟨_,.OH J,by omega⟩
 |succ d I=>
  intro a h1 e l hl;by_cases h:L<=u*kI a
  .refine ⟨_,.OH h,?_⟩;have:u*Luby.sum (a - 1)<=u*Luby.sum (j - 1):=X8 _ (FD (by omega));omega
  .obtain ⟨n,t,b⟩:=I (a+1) (by omega) (by omega) _ (vy _);refine⟨_,.IL (by omega) t,?_⟩;have:=EZ h1;rw[Xy,this,Nat.mul_add]at b;omega
theorem Tl.ex{L u k:Nat}(h:L<=u*2 ^ k){a l:Nat}(h1:1<=a)(hl:l<=u*kI a):∃n,Tl L u a l n/\n<=u* (k*2 ^ k)+L:=by
 obtain⟨j,Q,O,I⟩:=L8 k a h1;have J:L<=u*kI j:=Wl h (X8 _ O);obtain⟨n,t,b⟩:=Tl.to J (j - a) a h1 (by omega) l hl;refine⟨n,t,?_⟩;have:=X8 u I;rw[Nat.mul_add]at this;omega
def qp(q:Nat->Nat)(w:Nat):Nat:=if w=0 then 0 else q (w - 1)
def MA(q:Nat->Nat):Nat->Nat->Nat
 |0,_=>0
 |d+1,w=> (q (w+1) - q w / 2)+MA q d (w+1)
def Md(D C u:Nat)(I:Bool)(a l β r μ c:Nat):Prop:=
 (Tl (4*D) u a l μ/\μ<=C/\((I=false/\min c r+β+1<=D/\c<=r+D)\/(I=true/\min c r+β+1<=D/\c<=r+3*D)\/(I=true/\min c r+β+1<=2*D/\c<=r+D)))\/
 (r<=c/\((I=false/\r+β+1<=D/\μ=(D - r)+4*D+C)\/(I=true/\r+β+1<=D/\μ=(D - r)+C)\/(I=true/\r+β+1<=2*D/\μ=(2*D - r)+D+C)))
structure SF(D wB C u M:Nat)(q:Nat->Nat)(fl:Bool)(w h U a l β r μ:Nat):Prop where
 l1:1<=l
 l2:l<=u*kI a
 a1:1<=a
 hb:β+1<=D
 hq:h<q w
 ph:(w<wB/\μ=(q w - h)+ (M - U)+MA q (wB - 1 - w) w+ (5*D+C))\/(wB<=w/\h<=qp q w+r/\Md D C u fl a l β r μ (u*kI a - l))
theorem SF.step{D wB C u M:Nat}{q:Nat->Nat}{J:Bool}{w h U a l β r μ:Nat}(hu:1<=u)(hC:∀a l,1<=a->l<=u*kI a->∃n,Tl (4*D) u a l n/\n<=C)(hD:∀w,wB<=w->D<=q w - qp q w)(bb:∀w,q w<q (w+1))
 (P:SF D wB C u M q J w h U a l β r μ) {w' h1 h' U' V l' β':Nat} {ag du sw:Bool} (hβ:1<=β\/sw=true)
 (bk:(ag=true/\l=1/\V=a+1/\l'=u*kI (a+1))\/(ag=false/\1<l/\V=a/\l'=l - 1))
 (hh:(h1=h+1/\U'=U)\/(h1=h/\U'=U+1/\U'<=M))
 (b9:(du=false/\w'=w/\h'=h1/\h1<q w)\/(du=true/\w'=w+1/\q w<=h1/\h'<=h1/\h1<=2*h'+1))
 (a6:sw=true->J=false)
 (hb:((ag=true\/du=true\/sw=true)/\β'+1=D)\/(ag=false/\du=false/\sw=false/\β'+1=β)):
 ∃r' I,SF D wB C u M q (J||sw) w' h' U' V l' β' r' I/\I+1<=μ:=by
 obtain⟨l1,l2,a1,dc,hq,ph⟩:=P;have b3:1<=u*kI (a+1):=Wl (by omega) (ZF hu (MY (a+1)));have b':1<=l'/\l'<=u*kI V/\1<=V/\((ag=true/\u*kI V - l'=0)\/(ag=false/\u*kI V - l'=u*kI a - l+1)):=by
  rcases bk with⟨e,_,rfl,rfl⟩| ⟨e,e1,rfl,rfl⟩
  .exact ⟨b3,vy _,by omega,.inl ⟨e,Zj _⟩⟩
  .exact ⟨by omega,by omega,a1,.inr ⟨e,by omega⟩⟩
 obtain⟨ac,Y,Z,X⟩:=b';obtain⟨n0,T0,C0⟩:=hC V l' Z Y;have Q:β'+1<=D:=by rcases hb with⟨_,e⟩| ⟨_,_,_,e⟩<;>omega
 have O:J=true->1<=β:=λf=>hβ.resolve_right λhs=>by have:=a6 hs;rw[f]at this;cases this
 have dq:1<=D:=by omega
 have an:u*kI a - l+1<4*D->Tl (4*D) u a l μ->μ<=C->∃I,Tl (4*D) u V l' I/\I<=C/\I+1<=μ:=by
  intro ht T hc;rcases bk with⟨_,e1,rfl,rfl⟩| ⟨_,e1,rfl,rfl⟩
  .cases T with
   |OH h2=>omega
   |IL h2 T2=>exact⟨_,T2,by omega,by omega⟩
  .cases T with
   |OH h2=>
    refine⟨_,.OH h2,?_,?_⟩<;>omega
   |IL h2 T2=>exact⟨_,.IL h2 T2,by omega,by omega⟩
 obtain⟨c,hc⟩: ∃c,c=u*kI a - l:=⟨_,rfl⟩
 obtain⟨c',ap⟩: ∃c',c'=u*kI V - l':=⟨_,rfl⟩
 rw[<- hc]at ph an X;rw[<- ap]at X;have c0:∀b:Bool,J=b->sw=false->(J||sw)=b:=λb e1 e2=>by rw[e1,e2,XJ]
 have co:sw=true->(J||sw)=true:=λe=>by rw[e,Y1]
 rcases b9 with⟨d0,rfl,rfl,a_⟩| ⟨d0,rfl,cr,dp,cg⟩
 .rcases ph with⟨hw,hμ⟩| ⟨hw,cb,ph⟩
  .exact ⟨r+1,_,⟨ac,Y,Z,Q,a_,.inl ⟨hw,rfl⟩⟩,by omega⟩
  have mk:∀I,Md D C u (J||sw) V l' β' (r+1) I c'->I+1<=μ->∃r' I,SF D wB C u M q (J||sw) w' h' U' V l' β' r' I/\I+1<=μ:=λI m hm=>⟨r+1,I,⟨ac,Y,Z,Q,a_,.inr ⟨hw,by omega,ap▸m⟩⟩,hm⟩
  rcases ph with⟨T,ay,m⟩| ⟨b5,m⟩
  .have ht:c+1<4*D:=by
    rcases m with⟨_,_,_⟩| ⟨f,_,_⟩| ⟨f,_,_⟩
    .omega
    .have:=O f;omega
    .have:=O f;omega
   obtain⟨I,T',c1,m'⟩:=an ht T ay;refine mk I (.inl ⟨T',c1,?_⟩) m';cases hs:sw with
   |false=>
    rw[XJ];rw[hs]at hb;rcases m with⟨f,x,y⟩| ⟨f,x,y⟩| ⟨f,x,y⟩
    .exact .inl ⟨f,by rcases X with⟨g,e⟩| ⟨g,e⟩<;>rcases hb with⟨hr,e2⟩| ⟨e3,_,_,e2⟩<;>simp_all<;>omega,by omega⟩
    .exact .inr (.inl ⟨f,by rcases X with⟨g,e⟩| ⟨g,e⟩<;>rcases hb with⟨hr,e2⟩| ⟨e3,_,_,e2⟩<;>simp_all<;>omega,by omega⟩)
    .rcases X with⟨g,e⟩| ⟨g,e⟩
     .exact .inr (.inl ⟨f,by omega,by omega⟩)
     .exact .inr (.inr ⟨f,by rcases hb with⟨hr,e2⟩| ⟨e3,_,_,e2⟩<;>simp_all<;>omega,by omega⟩)
   |true=>
    rw[Y1];have f0:=a6 hs;rcases m with⟨f,x,y⟩| ⟨f,_⟩| ⟨f,_⟩
    .rcases X with⟨g,e⟩| ⟨g,e⟩
     .exact .inr (.inl ⟨rfl,by omega,by omega⟩)
     .exact .inr (.inr ⟨rfl,by omega,by omega⟩)
    .rw [f0]at f;cases f
    .rw [f0]at f;cases f
  .rcases X with⟨g,e⟩| ⟨g,e⟩
   ·
    refine mk n0 (.inl ⟨T0,C0,?_⟩) ?_
    .cases hs:sw with
     |false=>
      rw[XJ];cases hf:J with
      |false=>exact .inl ⟨rfl,by omega,by omega⟩
      |true=>exact .inr (.inl ⟨rfl,by omega,by omega⟩)
     |true=>rw[Y1];exact .inr (.inl ⟨rfl,by omega,by omega⟩)
    .rcases m with⟨_,_,e⟩| ⟨_,_,e⟩| ⟨_,_,e⟩<;>omega
   .cases hs:sw with
    |false=>
     rw[hs]at hb;have dh:β'+1=β:=by
      rcases hb with⟨hr,_⟩| ⟨_,_,_,e2⟩
      .rcases hr with hr|hr|hr
       .rw [g]at hr;cases hr
       .rw [d0]at hr;cases hr
       .cases hr
      .exact e2
     rw[hs]at mk;rw[XJ]at mk ⊢;rcases m with⟨f,x,y⟩| ⟨f,x,y⟩| ⟨f,x,y⟩
     .exact mk _ (.inr ⟨by omega,.inl ⟨f,by omega,rfl⟩⟩) (by omega)
     .exact mk _ (.inr ⟨by omega,.inr (.inl ⟨f,by omega,rfl⟩)⟩) (by omega)
     .exact mk _ (.inr ⟨by omega,.inr (.inr ⟨f,by omega,rfl⟩)⟩) (by omega)
    |true=>
     rw[hs]at mk;rw[Y1]at mk ⊢;have f0:=a6 hs;rcases m with⟨f,x,y⟩| ⟨f,_⟩| ⟨f,_⟩
     .exact mk _ (.inr ⟨by omega,.inr (.inr ⟨rfl,by omega,rfl⟩)⟩) (by omega)
     .rw [f0]at f;cases f
     .rw [f0]at f;cases f
 .have c4:β'+1=D:=by
   rcases hb with⟨_,hb⟩| ⟨_,e,_⟩
   .exact hb
   .rw [d0]at e;cases e
  have az:h'<q (w+1):=by have:=bb w;omega
  have dk:q w<=h+1:=by omega
  have c2:qp q (w+1)=q w:=rfl;have late:wB<=w+1->D+C+1<=μ->(J=false->sw=false->5*D+C+1<=μ)->∃r' I,SF D wB C u M q (J||sw) (w+1) h' U' V l' β' r' I/\I+1<=μ:=by
   intro aT m1 m2;have mk:∀I,Md D C u (J||sw) V l' β' 0 I c'->I+1<=μ->∃r' I,SF D wB C u M q (J||sw) (w+1) h' U' V l' β' r' I/\I+1<=μ:=λI m hm=>⟨0,I,⟨ac,Y,Z,Q,az,.inr ⟨aT,by omega,ap▸m⟩⟩,hm⟩
   cases hf:(J||sw) with
   |false=>
    have f0:J=false:=by cases J;rfl;cases hf
    have s0:sw=false:=by cases sw;rfl;rw[f0]at hf;cases hf
    rw[hf]at mk;by_cases ht:c'<=D
    .exact mk n0 (.inl ⟨T0,C0,.inl ⟨rfl,by omega,by omega⟩⟩) (by omega)
    .exact mk _ (.inr ⟨by omega,.inl ⟨rfl,by omega,rfl⟩⟩) (by have:=m2 f0 s0;omega)
   |true=>
    rw[hf]at mk;by_cases ht:c'<=3*D
    .exact mk n0 (.inl ⟨T0,C0,.inr (.inl ⟨rfl,by omega,by omega⟩)⟩) (by omega)
    .exact mk _ (.inr ⟨by omega,.inr (.inl ⟨rfl,by omega,rfl⟩)⟩) (by omega)
  rcases ph with⟨hw,hμ⟩| ⟨hw,cb,ph⟩
  .by_cases aT:w+1<wB
   .refine ⟨0,_,⟨ac,Y,Z,Q,az,.inl ⟨aT,rfl⟩⟩,?_⟩;rw[show wB - 1 - w=(wB - 1 - (w+1))+1 by omega]at hμ;simp only[MA]at hμ;clear late an T0 hC hD bb;rcases hh with⟨x1,x2⟩| ⟨x1,x2,x3⟩<;>omega
   .have y1:5*D+C+1<=μ:=by clear late;omega
    have y2:wB<=w+1:=by clear late;omega
    exact late y2 (by clear late;omega) (λ_ _=>y1)
  .have c7:=hD w hw;rcases ph with⟨T,ay,m⟩| ⟨b5,m⟩
   .clear late;have ht:c+1<4*D:=by
     rcases m with⟨_,_,_⟩| ⟨f,_,_⟩| ⟨f,_,_⟩
     .omega
     .have:=O f;omega
     .have:=O f;omega
    obtain⟨I,T',c1,m'⟩:=an ht T ay;refine⟨0,I,⟨ac,Y,Z,Q,az,.inr ⟨by omega,by omega,ap▸ .inl ⟨T',c1,?_⟩⟩⟩,m'⟩;cases hf:(J||sw) with
    |false=>
     have f0:J=false:=by cases J;rfl;cases hf
     have s0:sw=false:=by cases sw;rfl;rw[f0]at hf;cases hf
     have b6:1<=β:=hβ.resolve_right (by rw[s0];decide);rcases m with⟨f,x,y⟩| ⟨f,_⟩| ⟨f,_⟩
     .exact .inl ⟨rfl,by omega,by omega⟩
     .rw [f0]at f;cases f
     .rw [f0]at f;cases f
    |true=>exact .inr (.inl ⟨rfl,by omega,by
      rcases m with⟨_,_,_⟩| ⟨f,_,_⟩| ⟨f,_,_⟩
      .omega
      .have:=O f;omega
      .have:=O f;omega⟩)
   .rcases m with⟨f,x,y⟩| ⟨f,x,y⟩| ⟨f,x,y⟩
    .rcases hβ with hβ|hs
     .clear late;omega
     .have y1:D+C+1<=μ:=by clear late;omega
      have y2:wB<=w+1:=Nat.le_succ_of_le hw;exact late y2 y1 (λ_ e=>by rw[hs]at e;cases e)
    .have:=O f;clear late;omega
    .have b6:=O f;have y1:D+C+1<=μ:=by clear late;omega
     have y2:wB<=w+1:=Nat.le_succ_of_le hw;exact late y2 y1 (λe=>by rw[f]at e;cases e)
end Go.PotP
namespace Go.Proofs.YtbdghpjnifjlmaaGreat.W
open Go Go.Fw Go.RowKit Go.SoP Go.LiP Go.LeP
open Go.IntKind (i64)
section
variable{w0 w w' w1 w2 u:World}{B N i:Nat}{L L' L1:Nat->Nat}{x:Xs}{l:List Int}{cs:lq}{hv:List (Nat × List Int)}{un:lq}
theorem SR.Vy(h:SR w0 w B L N x)(v:Int):Calls Tryz.prog 112 #[Hp.ptr x.hb,.i v] w λe w'=>∃r:Int,e=.returned (.i r)/\∃L',SR w0 w' B L' N x/\Kp w0 w w' L L':=by
 obtain⟨z,O,z2,z3,z4⟩:=h.hp id;refine(Hp.PT O z2 v).mono ?_;rintro e w'⟨rfl,y,V,X,I,Z⟩;have hf:y.bK x.hb=z.bK x.hb:=by
  rw[I.bK];split
  .split<;>rfl
  .rfl
 have U:∀u:Int,1<=u->u<=N->(0<HeapP.g y.at_ u↔x.S u):=λu Q J=>by
  rw[I.has u Q J,<- z3 u Q J];split
  .split<;>exact Yb
  .exact Yb
 have:=h.heap z4 O.lt V X (S':=x.S) U Z λk Y=> .inl (by rw[<- hf];exact Y);exact⟨_,rfl,_,this.1,this.2⟩
theorem SR.TY(h:SR w0 w B L N x):Calls Tryz.prog 113 #[Hp.ptr x.hb] w λe w'=>e=.returned (.tuple #[])/\∃L',SR w0 w' B L' N x/\Kp w0 w w' L L':=by
 obtain⟨z,O,z2,z3,z4⟩:=h.hp id;refine(Hp.MN O z2).mono ?_;rintro e w'⟨rfl,y,Y,Z,I,V⟩;have hf:y.bK x.hb=z.bK x.hb:=by
  rw[I.bK];split<;>rfl
 have X:∀u:Int,1<=u->u<=N->(0<HeapP.g y.at_ u↔x.S u):=λu Q J=>by
  rw[I.has u Q J,<- z3 u Q J];split<;>exact Yb
 have:=h.heap z4 O.lt Y Z (S':=x.S) X V λk U=> .inl (by rw[<- hf];exact U);exact⟨rfl,_,this.1,this.2⟩
structure pR(N:Nat)(cs:lq)(x:Xs):Prop where
 ci:qB N cs x.s (x.hv.map xW) (x.un.map (·.2))
 hi:Ei N x.s x.S
 ph:x.ph.length=N+1
 n:x.m.n=N
 Ry:∀u∈x.hv,RJ u
 bX:0<=x.m.bX/\x.m.bX<=100
 pf:PF cs x.s (x.pr.map kQ)
 mo:x.mo= []
theorem pR.own(st:pR N cs x){m':Me}(h:m'.n=x.m.n/\m'.bX=x.m.bX):pR N cs {x with m:=m'}:=
 ⟨st.ci,st.hi,st.ph,by rw[h.1];exact st.n,st.Ry,by rw[h.2];exact st.bX,st.pf,st.mo⟩
theorem PF.cu{s:aH}{pr:List (Bool × List Int)}(h:PF cs s pr)(bM:Int):PF cs (cu s bM) pr:=by
 unfold Go.Proofs.YtbdghpjnifjlmaaGreat.W.cu;split
 .exact h.bV
 .exact h
theorem qB.cu{s:aH}(h:qB N cs s hv un)(bM:Int):qB N cs (cu s bM) hv un:=by
 unfold Go.Proofs.YtbdghpjnifjlmaaGreat.W.cu;split
 .exact h.bV (by assumption)
 .exact h
theorem CW{s:aH}{bM:Int}:(cu s bM).nc=s.nc:=by unfold cu;split<;>rfl
theorem zE{s:aH}{S S':Int->Prop}{bM:Int}(g:aL s)(hv:s.vars=N)(h:Ei N s S)(Q:∀v,S v->S' v)(ht:∀y∈s.R .tr,y ∉ (cu s bM).R .tr->S' (bo y)):Ei N (cu s bM) S':=by
 intro v v1 v2 O;obtain⟨V,U,ev⟩:=Cs (s:=s) bM;have J:dZ s.vars v:=⟨by omega,by omega,by omega⟩
 have I:dZ (cu s bM).vars v:=by rw[ev];exact J
 obtain⟨a,b⟩:=(jl (xG g bM) I).1 O;by_cases m1:v∈s.R .tr
 .have:=ht v m1 a
  rwa [show bo v=v by unfold bo;rw[r8 (by omega)]]at this
 .by_cases m2: -v∈s.R .tr
  .have:=ht (-v) m2 b
   rwa [pz,show bo v=v by unfold bo;rw[r8 (by omega)]]at this
  .exact Q v (h v v1 v2 ((jl g J).2 ⟨m1,m2⟩))
theorem pR.cu(st:pR N cs x){bM:Int}{S':Int->Prop}{I:List Int}(hp:I.length=N+1)(J:∀v,x.S v->S' v)(ht:∀y∈x.s.R .tr,y ∉ (cu x.s bM).R .tr->S' (bo y)):pR N cs {x with s:=cu x.s bM,S:=S',ph:=I}:=
 ⟨st.ci.cu bM,zE st.ci.g st.ci.v st.hi J ht,hp,st.n,st.Ry,st.bX,st.pf.cu bM,st.mo⟩
theorem UA{s':aH}{sl hs us:Sl}{lv:Int}:(x.lrn s' sl l lv hs us).m=x.m:=by unfold Xs.lrn;split<;>rfl
theorem EJ{s':aH}{sl hs us:Sl}{lv:Int}:(x.lrn s' sl l lv hs us).s=s':=by unfold Xs.lrn;split<;>rfl
theorem SQ{s':aH}{sl hs us:Sl}{lv:Int}:(x.lrn s' sl l lv hs us).pr=x.pr:=by unfold Xs.lrn;split<;>rfl
theorem PY{s':aH}{sl hs us:Sl}{lv:Int}:(x.lrn s' sl l lv hs us).hv.length+ (x.lrn s' sl l lv hs us).un.length=x.hv.length+x.un.length+1/\(x.lrn s' sl l lv hs us).hv.length<=x.hv.length+1:=by
 unfold Xs.lrn;split
 .simp;omega
 .simp;omega
theorem Sz{s':aH}{sl hs us:Sl}{lv:Int}:((x.lrn s' sl l lv hs us).hv.length=x.hv.length+1/\(x.lrn s' sl l lv hs us).un=x.un)\/((x.lrn s' sl l lv hs us).hv.length=x.hv.length/\∃c:Us,c.2.length<=1/\(x.lrn s' sl l lv hs us).un=x.un++ [c]):=by
 unfold Xs.lrn;split
 .exact .inl ⟨by simp,rfl⟩
 .exact .inr ⟨rfl,(sl,l),by show l.length<=1;omega,rfl⟩
theorem rh{s:aH}:(cu s 0).R .be= []:=by
 unfold cu;have e:(max 0 (0:Int)).toNat=0:=rfl;rw[e];split
 .rw [tq];rfl
 .exact Wa (by omega)
theorem pR.lrn(st:pR N cs x){t:aH}{S':Int->Prop}{O:List Int}{bl:Nat}(k:LS x.s l bl)(f:F7 N cs l)(Y:FY x.s l)(ht:t=x.s.bV bl){s':aH}(ha:lM t l s')(V:aL s')(hp:O.length=N+1)(hi:Ei N t S'){sl hs us q:Sl}{sl2:Sl}{lv:Int}(hl:0<=lv/\lv<=l.length)(Z:l.length<=4096):
 pR N cs ({x with s:=t,S:=S',ph:=O,ps:=q,pr:=x.pr++ [(false,sl2,l)]}.lrn s' sl l lv hs us):=by
 subst ht;have U:=st.ci.UO k f ha V;have pf:=PF.add st.pf k (by rw[st.ci.v];exact k.TN st.ci) Y ha;have I:Ei N s' S':=by
  intro v v1 v2 X;have Q:dZ s'.vars v:=by rw[U.v];exact⟨by omega,by omega,by omega⟩
  have hb:dZ (x.s.bV bl).vars v:=by
   have:s'.vars=(x.s.bV bl).vars:=ha.v;rw[<- this];exact Q
  have:=(jl V Q).1 X;rw[ha.tr]at this;exact hi v v1 v2 ((jl (l4 st.ci.g k.lt) hb).2 this)
 have J:PF cs s' ((x.pr++ [(false,sl2,l)]).map kQ):=by rw[GD];exact pf
 by_cases e:1<l.length
 .unfold Xs.lrn;rw[v8 e];refine⟨?_,I,hp,st.n,λu hu=>?_,st.bX,J,st.mo⟩
  .have:=U.Mc;show qB N cs s' ((x.hv++ [_]).map xW) _;rw[GD];exact this
  .rcases y4.1 hu with hu|hu
   .exact st.Ry u hu
   .rw [xv]at hu;subst hu;exact⟨hl.1,hl.2,by show (l.length:Int)<=4096;omega,Z⟩
 .unfold Xs.lrn;rw[r8 e];refine⟨?_,I,hp,st.n,st.Ry,st.bX,J,st.mo⟩;have:=U.NV;show qB N cs s' _ ((x.un++ [_]).map _);rw[GD];exact this
def GL(lrn bX:Int)(h:Nat):Prop:=0<Re.nZ lrn bX/\Re.nZ lrn bX<=(h:Int)
def _root_.Go.Proofs.YtbdghpjnifjlmaaGreat.W.aH.vM(s:aH):List Int:=if s.R .be= [] then s.R .tr else s.df 0
theorem zA{s:aH}:(cu s 0).R .tr=s.vM:=by
 unfold cu aH.vM;have e:(max 0 (0:Int)).toNat=0:=rfl;rw[e];by_cases h:s.R .be= []
 .rw [r8 (by rw[h];simp),v8 h]
 .rw [v8 (Wx.2 h),r8 h,uU];rfl
theorem EP{s:aH}(g:aL s)(h:s.R .be≠[]):s.vM.length=((s.R .be).getD 0 0).toNat:=by
 unfold aH.vM aH.df;rw[r8 h,y6];have:=g.bl 0 (Wx.2 h);omega
structure Rl(N:Nat)(x x':Xs):Prop where
 nc:x'.s.nc=x.s.nc
 cf:x'.m.cf=x.m.cf
 de:x'.m.de=x.m.de
 re:x'.m.re=x.m.re
 AQ:x'.m.AQ=x.m.AQ
 lrn:x'.m.lrn=x.m.lrn
 dO:x'.m.dO=x.m.dO
 pc:x'.m.pu=x.m.pu/\x'.m.pa=x.m.pa/\x'.m.pl=x.m.pl
 un:x'.un=x.un
 dr:x.m.dr<=x'.m.dr/\x'.m.dr+x'.hv.length=x.m.dr+x.hv.length
 pl:x'.pr.length+x'.hv.length=x.pr.length+x.hv.length
 bz:x.s.R .be= []->x'.s.R .be= []
 bp:(x'.s.R .be=x.s.R .be/\x'.s.R .tr=x.s.R .tr)\/(x'.s.R .be= []/\x'.s.R .tr=x.s.vM)
 hv:(x'.m.bX=x.m.bX/\x'.hv.length=x.hv.length/\x'.s=x.s/\¬GL x.m.lrn x.m.bX x.hv.length)\/
  (x.m.bX<100/\x'.m.bX=x.m.bX+1/\x'.hv.length<=x.hv.length/\x.hv.length<=2*x'.hv.length+1/\GL x.m.lrn x.m.bX x.hv.length/\x'.s.R .be= [])
theorem Rq(h:SR w0 w B L N x)(st:pR N cs x)(hN:N<=1000)(h3:x.hv.length<=1000000)(hq:(x.hv.length:Int)<Re.nZ x.m.lrn 100)(a_:x.pr.length<=900000000)(bi:0<=x.m.dr/\x.m.dr<=1000000000){K:World->Prop}
 (hk:∀w' L' x',SR w0 w' B L' N x'->Kp w0 w w' L L'->pR N cs x'->Rl N x x'->K w'):
 ∃aa,(some (qw B))=some aa/\∃ax U ar,w.drew.cell? (aa.add 11)=some (.slice ax U ar)/\
  ∃a53,(some (qw B))=some a53/\∃av,w.drew.cell? ((a53.add 2).add 2)=some (.i av)/\
  ∃a55,(some (qw B))=some a55/\∃an,w.drew.cell? (a55.add 13)=some (.i an)/\
  Calls Tryz.prog 117 #[.i (U:Int),.i av,.i an] w.drew λe O=>∃ap,e=.returned (.bool ap)/\
  aD ap
  (Calls Tryz.prog 114 #[.pointer (some (qw B)),.i 0] O λe ay=>e=.returned (.tuple #[])/\
    Calls Tryz.prog 118 #[.pointer (some (qw B))] ay λe aT=>e=.returned (.tuple #[])/\
    K aT)
  (K O):=by
 have D:=h.drew;have X:=(h.hv id).2.1;refine⟨_,rfl,_,_,_,ae D.at rfl,_,rfl,_,bN D.at rfl,_,rfl,_,ae D.at rfl,(Re.Sg _ _ _ _).mono ?_⟩;rintro e O⟨rfl,az⟩;have ag:=D.grow az;have Y:Kp w0 w O L L:=mF.grow ((aE.refl w).drew.trans az);refine⟨_,rfl,ah (λr=>?_) (λr=>?_)⟩
 .rw [ts,x7,x7,X]at r;refine(Aa ag st.ci.g st.ci.v hN st.ph 0).mono ?_;rintro e ay⟨rfl,ce,cp,b_,bb,bk,Q,aw,a6⟩;have I:=st.cu Q aw a6;have hw:=st.bX;have ac:x.m.bX<100:=by
   refine Wj λhn=>?_;have e1:x.m.bX=100:=by omega
   rw[e1]at r;omega
  refine⟨rfl,(L_ bb I.ci I.hi (by show x.hv.length<=_;omega) a_ I.Ry bi I.pf).mono ?_⟩;rintro e aT⟨rfl,co,cm,cb,b7,b8,b6,b5,bY,a7,bx,bu,bf,b4,a',Z,J,V,a8,b3,bn⟩;have ew:mP (i64.wrap (x.m.bX+1)) 100=x.m.bX+1:=by
   rw[ao (by omega) (by omega)];unfold mP;rw[r8 (by omega)]
  refine⟨rfl,hk _ _ _ a7 ((Y.trans bk).trans bY) ⟨bx,bu,Q,st.n,b4,?_,V,st.mo⟩ ⟨?_,rfl,rfl,rfl,rfl,rfl,rfl,⟨rfl,rfl,rfl⟩,rfl,⟨a8,b3⟩,a',λ_=>J.1.trans rh,.inr ⟨J.1.trans rh,J.2.trans zA⟩,.inr ⟨ac,ew,Z,bn,r,J.1.trans rh⟩⟩⟩
  .show 0<=mP (i64.wrap (x.m.bX+1)) 100/\mP (i64.wrap (x.m.bX+1)) 100<=100;rw[ew];omega
  .rw [bf];exact CW
 .rw [<- WI,ts,x7,x7,X]at r;exact hk _ _ _ ag Y st ⟨rfl,rfl,rfl,rfl,rfl,rfl,rfl,⟨rfl,rfl,rfl⟩,rfl,⟨Ww _,rfl⟩,rfl,id,.inl ⟨rfl,rfl⟩,.inl ⟨rfl,rfl,rfl,r⟩⟩
end
section
variable{w0 w w' w1 w2 u:World}{B N i:Nat}{L L' L1:Nat->Nat}{x:Xs}{l:List Int}{cs:lq}{hv:List (Nat × List Int)}{un:lq}
structure U0(N:Nat)(x x':Xs):Prop where
 nc:x'.s.nc=x.s.nc+1
 cf:x'.m.cf=x.m.cf+1
 de:x'.m.de=x.m.de
 re:x'.m.re=x.m.re\/x'.m.re=x.m.re+1
 AQ:x'.m.AQ=x.m.AQ
 lrn:x'.m.lrn=x.m.lrn
 dO:x'.m.dO=x.m.dO
 dr:x.m.dr<=x'.m.dr/\x'.m.dr+x'.hv.length<=x.m.dr+x.hv.length+1
 pl:x'.pr.length+x'.hv.length<=x.pr.length+x.hv.length+2
 pc:x'.m.pu=Lu.rI x.m.pu x.m.pa x.m.pl/\x'.m.pa=Lu.nC x.m.pu x.m.pa x.m.pl/\x'.m.pl=Lu.qt x.m.pu x.m.pa x.m.pl
 ch:∃h1:Nat,((h1=x.hv.length+1/\x'.un=x.un)\/(h1=x.hv.length/\∃c:Us,c.2.length<=1/\x'.un=x.un++ [c]))/\
  ((x'.m.bX=x.m.bX/\x'.hv.length=h1/\¬GL x.m.lrn x.m.bX h1)\/(x.m.bX<100/\x'.m.bX=x.m.bX+1/\x'.hv.length<=h1/\h1<=2*x'.hv.length+1/\GL x.m.lrn x.m.bX h1))
 bz:Lu.oM x.m.pu x.m.pa x.m.pl=true\/x'.m.bX=x.m.bX+1->x'.s.R .be= []
 bp:(∃j,x'.s.R .be=(x.s.R .be).take j)/\(x'.s.R .be= []->((x.s.R .be).getD 0 0).toNat<=(x'.s.R .tr).length)
 rb:∀ph β,xr ph x.s β->(ph=false/\x'.s.R .be= []/\P0 x'.s (∃c∈x'.un.map (·.2),c.length=1))\/(1<=β/\(Lu.oM x.m.pu x.m.pa x.m.pl=false->x'.m.bX=x.m.bX->xr ph x'.s (β - 1)))
theorem E9(h:SR w0 w B L N x)(st:pR N cs x)(hN:N<=1000)(h3:x.hv.length<=900000/\x.un.length<=900000)(hq:((x.hv.length+1:Nat):Int)<Re.nZ x.m.lrn 100)(hB:xN x.s i)(hl:0< (x.s.R .be).length)(eu:x.s.nc<262144)(hx:0<=x.m.cf/\x.m.cf<=1000000000)(g4:0<=x.m.re/\x.m.re<=1000000000)(hJ:x.pr.length<=800000000)(gc:0<=x.m.dr/\x.m.dr<=1000000000):
 Calls Tryz.prog 69 #[cj B,.i i] w λe w'=>e=.returned (.tuple #[])/\∃L' I,SR w0 w' B L' N I/\Kp w0 w w' L L'/\pR N cs I/\U0 N x I:=by
 have g:=st.ci.g;refine cL.aj ⟨_,rfl,_,bN h.at rfl,_,rfl,?_⟩;have gp:i64.wrap (x.m.cf+1)=x.m.cf+1:=ao (by omega) (by omega);rw[gp];refine iK h.at rfl rfl λw4 h4 m4=>?_;obtain⟨S4,k4⟩:=h.own (m':= {x.m with cf:=x.m.cf+1}) h4 m4;refine⟨_,rfl,_,ae S4.at rfl,(S4.OG g i).mono ?_⟩;rintro e w7⟨q8,d8,rfl,o8,g7,f8⟩;have gr:x.s.is (i:Int)=true:=aH.Ef.2 ⟨by omega,by rw[tn];exact hB.1⟩;have dA:aH.is {x with m:= {x.m with cf:=x.m.cf+1}}.s (i:Int)=true:=gr;rw[dA,v8 rfl,tn]at o8 ⊢;have o8:d_ aB w7 q8 d8 (x.s.R (.a i)):=o8;obtain⟨bk,bg⟩: ∃bk,bk=x.s.R (.a i):=⟨_,rfl⟩
 have fa:=g.al i;rw[<- bg]at o8 fa;show ∃g9 gW g5 r9,Ending.returned (.tuple #[.slice q8 (x.s.R (.a i)).length d8,.bool true])=_/\_;rw[<- bg];refine⟨_,_,_,_,rfl,?_⟩;have S7:=S4.new g7 9;have k7:Kp w0 w4 w7 L (lW L w4.heap.size 9):=mF.new g7 9;have vb:Vw sT w7 q8 (x.s.R (.a i)):=by rw[<- bg];exact o8.vw
 have ey:qB N cs ({x with m:= {x.m with cf:=x.m.cf+1}}:Xs).s (x.hv.map xW) (x.un.map (·.2)):=st.ci;refine(NT S7 ey hN hB hl vb (by rw[bg])).mono ?_;rintro e ap⟨q,d,l,bl,lv,rfl,ol,fl,a6,Ls,Fl,fy,eT,eK⟩;have Ls:LS x.s l bl:=Ls;refine⟨_,_,_,_,_,rfl,?_⟩;obtain⟨gf,eA⟩:SR w0 ap B _ N _/\Kp w0 w7 ap _ _:=⟨S7.new a6 9,mF.new a6 9⟩
 have dT:RO ap (lW (lW L w4.heap.size 9) w7.heap.size 9) ⟨q,l.length,d⟩ l:=⟨rfl,ol.vw,λk hk=>⟨jw (fl k hk),ol.lt k hk⟩⟩
 have d7:=Ls.TN st.ci;have b9:l.length<=4096:=by
  have h1:=qJ (n:=N+1) (l:=l.map bo) ?_ λy X=>?_
  .simp at h1;omega
  .unfold List.Nodup;rw[X2];refine XX (λ{a b} ha hb b' e=>?_) Ls.nd;rcases Eh e with e|e
   .exact b' e
   .exact d7.nt b hb (by rw[<- e];exact ha)
  .obtain ⟨z,hz,rfl⟩:=LV.1 X;have:=(d7.tI z hz).bo;omega
 have TN:yB x.s.vars l=true:=Sq (by rw[st.ci.v];omega) (λy X=>Ls.tI g X) b9;refine(iA (o8.vw.grow a6) rfl (by omega)).mono ?_;rintro e O⟨eH,h_,rfl,dd,bb,f15⟩;refine⟨_,_,_,rfl,?_⟩;have c2:=gf.new bb 0;have cb:Kp w0 ap O _ (lW (lW (lW L w4.heap.size 9) w7.heap.size 9) ap.heap.size 0):=mF.new bb 0;obtain⟨J,bn⟩: ∃J,J=lW (lW (lW L w4.heap.size 9) w7.heap.size 9) ap.heap.size 0:=⟨_,rfl⟩
 have Y:∀b,aF eH=some b->J b=0/\w.heap.size<=b:=λb hb=>⟨by rw[bn];exact jw (f15 b hb),by have:=f15 b hb;have:=m4.size;have:=g7.size;have:=a6.size;omega⟩
 rw[<- bn]at c2 cb;have hO:=h.g.size;refine dd.Um yK (ol.grow bb) rfl rfl eI (by omega) λar ac hR ed gu c3 gS=>?_;have co:aE (λk=>J k=0/\w0.heap.size<=k) O ar:=gu.mono λb _ e=>⟨(Y b e).1,by have:=(Y b e).2;omega⟩
 obtain⟨f1,a8⟩:=c2.Vn (L':=lW J O.heap.size 0) co λ_ hk=>dF hk;have a8:Kp w0 O ar J (lW J O.heap.size 0):=a8.yH λi e=>by rw[e];decide
 have ax:∀b,aF ac=some b->lW J O.heap.size 0 b=0/\w.heap.size<=b:=λb hb=>by
  rcases c3 with rfl|rfl
  .rw [dF (dd.lt b hb)];exact Y b hb
  .have:=aO hb;have:=m4.size;have:=g7.size;have:=a6.size;have:=bb.size;exact⟨jw (by omega),by omega⟩
 obtain⟨V,ay⟩: ∃V:Nat->Nat,V=λk=>if aF ac=some k then 9 else lW J O.heap.size 0 k:=⟨_,rfl⟩
 have b3:∀k,lW J O.heap.size 0 k≠0->V k=lW J O.heap.size 0 k:=λk hk=>by
  rw[ay];show (if aF ac=some k then 9 else _)=_;rw[r8 λe=>hk (ax k e).1]
 have eF:=f1.zB b3;have b4:=(((k4.trans k7).trans eA).trans cb).trans a8;have c1:Kp w0 w ar L V:=⟨b4.mod,λk hk=>by
  rw[ay];show (if aF ac=some k then 9 else _)=_;rw[r8 λe=>by have:=(ax k e).2;omega];exact b4.EC k hk⟩
 have cg:RO ar V ⟨q,l.length,d⟩ l:=((cb.trans a8).ro dT).zB b3;have dB:R9 ar V ac:=⟨λk hk=>⟨by rw[ay];show (if aF ac=some k then 9 else _)=9;rw[v8 hk],ed.lt k hk⟩⟩
 have cm:=ed.vw;have dk:(bk++l).length<=10000:=by rw[I'];omega
 generalize bk++l=m at cm dk ⊢;refine⟨λv u z=>∃ (t:Nat) (L1:Nat->Nat),v=t/\t<=m.length/\z=m.length - t/\SR w0 u B L1 N {x with m:= {x.m with cf:=x.m.cf+1}}/\Kp w0 ar u V L1,⟨_,0,V,rfl,xc _,rfl,eF,Kp.refl⟩,?_⟩;rintro v u z _⟨t,L1,rfl,ht,rfl,SS,kk⟩;refine ah (λr=>?_) (λr=>?_)
 .have r:t<m.length:=by simp at r;omega
  refine(kk.vw cm dB).ix 0 (by omega) rfl (by omega) λa ha=>⟨_,ha,_,rfl,_,ae SS.at rfl,(SS.Vy _).mono ?_⟩
  rintro e hF⟨hL,rfl,ew,eR,gl⟩;refine⟨_,rfl,_,?_,t+1,ew,wN,by omega,rfl,eR,kk.trans gl⟩;omega
 clear r;refine⟨_,rfl,_,ae SS.at rfl,SS.TY.mono ?_⟩;rintro e hX⟨rfl,h8,gd,dh⟩;refine⟨rfl,?_⟩;have bu:=(kk.trans dh).ro cg;refine(IX gd (by show x.pr.length<=_;omega) bu.v rfl (by omega)).mono ?_;rintro e hW⟨rfl,hK,aT,Q,fo,dp⟩;have ef:=dp.ro bu;have fv:imax 0 (bl:Int)=bl:=by unfold imax;split<;>omega
 rw[fv];refine⟨rfl,(Aa fo g st.ci.v hN st.ph bl).mono ?_⟩;rintro e eN⟨rfl,fd,S',a',bf,eg,c0,cr,c4⟩;have c7:=eg.ro ef;have eb:cu x.s bl=x.s.bV bl:=by
  unfold cu;have e1:(max 0 (bl:Int)).toNat=bl:=by omega
  rw[e1,v8 Ls.lt]
 have bf:SR w0 eN B fd N {x with m:= {x.m with cf:=x.m.cf+1},ps:=aT,pr:=x.pr++ [(false,Q,l)],s:=cu x.s bl,S:=S',ph:=a'}:=bf;have bi:Ei N (cu x.s bl) S':=zE g st.ci.v st.hi cr c4;rw[eb]at bf bi;have gb:=l4 g Ls.lt;refine⟨rfl,(QS bf gb eu TN c7 b9 lv (by show x.hv.length<=_;omega) (by show x.un.length<=_;omega)).mono ?_⟩;rintro e gm⟨rfl,gv,s',hs,us,an,fA,ea,ha⟩;have ha:lM (x.s.bV bl) l s':=ha;have Z:=(st.own (m':= {x.m with cf:=x.m.cf+1}) ⟨rfl,rfl⟩).lrn (q:=aT) (sl2:=Q) (sl:=⟨q,l.length,d⟩) (hs:=hs) (us:=us) Ls Fl fy rfl ha ea c0 bi ⟨eT,eK⟩ b9;have d5:=(((((c1.trans kk).trans dh).trans dp).trans eg).trans fA)
 have gs:({x with m:= {x.m with cf:=x.m.cf+1},ps:=aT,pr:=x.pr++ [(false,Q,l)],s:=x.s.bV bl,S:=S',ph:=a'}:Xs).lrn s' ⟨q,l.length,d⟩ l lv hs us=({x with m:= {x.m with cf:=x.m.cf+1},ps:=aT,pr:=x.pr++ [(false,Q,l)],s:=x.s.bV bl,S:=S',ph:=a'}:Xs).lrn s' ⟨q,l.length,d⟩ l lv hs us:=rfl;obtain⟨y,X⟩: ∃y,y=({x with m:= {x.m with cf:=x.m.cf+1},ps:=aT,pr:=x.pr++ [(false,Q,l)],s:=x.s.bV bl,S:=S',ph:=a'}:Xs).lrn s' ⟨q,l.length,d⟩ l lv hs us:=⟨_,rfl⟩
 have ym:y.m= {x.m with cf:=x.m.cf+1}:=by rw[X];exact UA
 have ys:y.s.nc=x.s.nc+1:=by rw[X,EJ];exact ha.n
 have yp:y.pr.length=x.pr.length+1:=by rw[X,SQ];simp
 have yl:y.hv.length+y.un.length=x.hv.length+x.un.length+1/\y.hv.length<=x.hv.length+1:=by rw[X];exact PY
 have dq:aL y.s:=by rw[X,EJ];exact ea
 have an:SR w0 gm B gv N y:=by rw[X];exact an
 have Z:pR N cs y:=by rw[X];exact Z
 have yc:(y.hv.length=x.hv.length+1/\y.un=x.un)\/(y.hv.length=x.hv.length/\∃c:Us,c.2.length<=1/\y.un=x.un++ [c]):=by rw[X];exact Sz
 have yr:∀ph β,xr ph x.s β->(ph=false/\bl=0)\/(1<=β/\xr ph y.s (β - 1)):=λph β hb=>by rw[X,EJ];exact hb.Fk g st.ci.Lg hB Ls ha
 have az:y.s.R .be=(x.s.R .be).take bl:=by rw[X,EJ,ha.be,tq]
 have fm:y.s.R .tr=x.s.df bl:=by rw[X,EJ,ha.tr,uU];rfl
 have et:l.length=1->∃c∈y.un.map (·.2),c.length=1:=λe=>by
  rw[X];unfold Xs.lrn;rw[r8 (by omega)];exact⟨l,by rw[GD];exact WB _ (by simp),e⟩
 clear X gs;refine⟨rfl,_,rfl,_,_,_,⟨bN an.at rfl,bN an.at rfl,bN an.at rfl,trivial⟩,(Lu.K4 _ _ _ _).mono ?_⟩;rintro e hg⟨rfl,d4⟩;refine⟨_,_,_,_,rfl,_,rfl,?_⟩;have d':=an.grow d4;refine cz d'.at rfl rfl λg0 gg fP=>?_;obtain⟨a_,ga⟩:=d'.own (m':= {y.m with pu:=Lu.rI y.m.pu y.m.pa y.m.pl,pa:=Lu.nC y.m.pu y.m.pa y.m.pl,pl:=Lu.qt y.m.pu y.m.pa y.m.pl}) gg fP;have ei:=Z.own (m':= {y.m with pu:=Lu.rI y.m.pu y.m.pa y.m.pl,pa:=Lu.nC y.m.pu y.m.pa y.m.pl,pl:=Lu.qt y.m.pu y.m.pa y.m.pl}) ⟨rfl,rfl⟩;have bx:=(d5.trans (mF.grow d4)).trans ga;have dc:(y.hv.length:Int)<Re.nZ y.m.lrn 100:=by rw[ym];show (y.hv.length:Int)<Re.nZ x.m.lrn 100;omega
 have bY:0<=y.m.dr/\y.m.dr<=1000000000:=by rw[ym];exact gc
 have eh:∀ {z I:Xs},Rl N z I->pR N cs I->z.m.cf=y.m.cf->z.m.de=y.m.de->(z.m.re=y.m.re\/z.m.re=y.m.re+1)->z.m.AQ=y.m.AQ->z.m.lrn=y.m.lrn->z.m.dO=y.m.dO->z.m.dr=y.m.dr->z.m.bX=y.m.bX->z.s.nc=y.s.nc->z.hv=y.hv->z.un=y.un->z.pr=y.pr->
  (z.m.pu=Lu.rI y.m.pu y.m.pa y.m.pl/\z.m.pa=Lu.nC y.m.pu y.m.pa y.m.pl/\z.m.pl=Lu.qt y.m.pu y.m.pa y.m.pl)->((Lu.oM y.m.pu y.m.pa y.m.pl=true/\z.s.R .be= []/\z.s.R .tr=y.s.vM)\/(Lu.oM y.m.pu y.m.pa y.m.pl=false/\z.s=y.s))->U0 N x I:=by
  intro z I R sx e1 e2 e3 e4 e5 e6 e7 e8 e9 b5 d6 gk b_ U;have hw:=st.bX;have ag:=R.hv;rw[b5,e8,e5,ym]at ag;have ag:(I.m.bX=x.m.bX/\I.hv.length=y.hv.length/\I.s=z.s/\¬GL x.m.lrn x.m.bX y.hv.length)\/(x.m.bX<100/\I.m.bX=x.m.bX+1/\I.hv.length<=y.hv.length/\y.hv.length<=2*I.hv.length+1/\GL x.m.lrn x.m.bX y.hv.length/\I.s.R .be= []):=ag;have d9:=R.pc;rw[b_.1,b_.2.1,b_.2.2,ym]at d9;rw[ym]at U;have U:(Lu.oM x.m.pu x.m.pa x.m.pl=true/\z.s.R .be= []/\z.s.R .tr=y.s.vM)\/(Lu.oM x.m.pu x.m.pa x.m.pl=false/\z.s=y.s):=U;have b':x.s.R .be≠[]:=λe=>by rw[e]at hl;simp at hl
  have hV:=EP g b';have fk:∀j,((x.s.R .be).getD 0 0).toNat<=(x.s.df j).length\/(x.s.R .be).length<=j:=λj=>by
   by_cases hj:j< (x.s.R .be).length
   .refine .inl ?_;have h1:=g.bl j hj;have h0:(x.s.R .be).getD 0 0<=(x.s.R .be).getD j 0:=by
     by_cases e:j=0
     .subst e;exact Ww _
     .exact Int.le_of_lt (g.bs 0 j (by omega) hj)
    unfold aH.df;rw[y6];omega
   .exact .inr (by omega)
  have py:((x.s.R .be).getD 0 0).toNat<=y.s.vM.length:=by
   unfold aH.vM;by_cases e:y.s.R .be= []
   .rw [v8 e,fm];rcases fk bl with h|h
    .exact h
    .have:=Ls.lt;omega
   .rw [r8 e];have h1:=EP dq e;unfold aH.vM at h1;rw[r8 e]at h1;rw[h1,az];have h2:0<bl:=Nat.pos_of_ne_zero λe0=>e (by rw[az,e0];rfl);have h3:((x.s.R .be).take bl).getD 0 0=(x.s.R .be).getD 0 0:=by
     simp only[vx,WE];rw[v8 h2]
    rw[h3];exact vy _
  have zb:(∃j,z.s.R .be=(x.s.R .be).take j)/\(z.s.R .be= []->((x.s.R .be).getD 0 0).toNat<=(z.s.R .tr).length)/\((x.s.R .be).getD 0 0).toNat<=z.s.vM.length:=by
   rcases U with⟨_,a,b⟩| ⟨_,e⟩
   .refine ⟨⟨0,a⟩,λ_=>by rw[b];exact py,?_⟩;unfold aH.vM;rw[v8 a,b];unfold aH.vM at py;exact py
   .rw [e];refine⟨⟨bl,az⟩,λh=>?_,py⟩;have:=py;unfold aH.vM at this;rw[v8 h]at this;exact this
  have xb:(∃j,I.s.R .be=(x.s.R .be).take j)/\(I.s.R .be= []->((x.s.R .be).getD 0 0).toNat<=(I.s.R .tr).length):=by
   obtain⟨z1,z2,z3⟩:=zb;rcases R.bp with⟨a,b⟩| ⟨a,b⟩
   .rw [a,b];exact⟨z1,z2⟩
   .exact ⟨⟨0,a⟩,λ_=>by rw[b];exact z3⟩
  refine⟨by rw[R.nc,e9,ys],by rw[R.cf,e1,ym],by rw[R.de,e2,ym],by rw[R.re];rw[ym]at e3;exact e3,by rw[R.AQ,e4,ym],by rw[R.lrn,e5,ym],by rw[R.dO,e6,ym],?_,?_,d9,⟨y.hv.length,?_,?_⟩,?_,xb,?_⟩
  .have:=R.dr;rw[e7,b5,ym]at this;have:x.m.dr<=I.m.dr/\I.m.dr+I.hv.length=x.m.dr+y.hv.length:=this;omega
  .have:=R.pl;rw[gk,b5]at this;omega
  .rw [R.un,d6];exact yc
  .rcases ag with⟨a,b,_,d⟩| ⟨a,b,c,d,f,_⟩
   .exact .inl ⟨a,b,d⟩
   .exact .inr ⟨a,b,c,d,f⟩
  .rintro (h|h)
   .rcases U with⟨_,e,_⟩| ⟨e,_⟩
    .exact R.bz e
    .rw [h]at e;cases e
   .rcases ag with⟨a,_⟩| ⟨_,_,_,_,_,e⟩
    .omega
    .exact e
  .intro ph β hb;rcases yr ph β hb with⟨fs,h0⟩| ⟨b1,b2⟩
   .refine .inl ⟨fs,?_,?_⟩
    .have b7:y.s.R .be= []:=by rw[az,h0];rfl
     rcases U with⟨_,a,_⟩| ⟨_,e⟩
     .exact R.bz a
     .exact R.bz (by rw[e];exact b7)
    .refine ⟨λh=>?_,λh=>?_⟩
     .exfalso;have b7:y.s.R .be= []:=by rw[az,h0];rfl
      rcases U with⟨_,a,_⟩| ⟨_,e⟩
      .exact h (R.bz a)
      .exact h (R.bz (by rw[e];exact b7))
     .by_cases e0:((x.s.R .be).getD 0 0).toNat=0
      .refine .inr ?_;rw[R.un,d6];exact et (LS.UX g (h0▸Ls) e0)
      .have:=xb.2 h;exact .inl (by omega)
   .refine .inr ⟨b1,λha gV=>?_⟩;rcases U with⟨e,_⟩| ⟨_,e⟩
    .rw [ha]at e;cases e
    .rcases ag with⟨_,_,c,_⟩| ⟨_,b,_⟩
     .rw [c,e];exact b2
     .omega
 refine ah (λb8=>?_) (λb8=>?_)
 .refine ⟨_,rfl,_,bN a_.at rfl,_,rfl,?_⟩;refine iK a_.at rfl rfl λhQ gn f'=>?_;have fq:i64.wrap (y.m.re+1)=y.m.re+1:=by
   have:y.m.re=x.m.re:=by rw[ym]
   rw[ao (by omega) (by omega)]
  obtain⟨fL,f0⟩:=a_.own (m':= {y.m with pu:=Lu.rI y.m.pu y.m.pa y.m.pl,pa:=Lu.nC y.m.pu y.m.pa y.m.pl,pl:=Lu.qt y.m.pu y.m.pa y.m.pl,re:=i64.wrap (y.m.re+1)}) gn f';have aa:=Z.own (m':= {y.m with pu:=Lu.rI y.m.pu y.m.pa y.m.pl,pa:=Lu.nC y.m.pu y.m.pa y.m.pl,pl:=Lu.qt y.m.pu y.m.pa y.m.pl,re:=i64.wrap (y.m.re+1)}) ⟨rfl,rfl⟩;refine(Aa fL aa.ci.g aa.ci.v hN aa.ph 0).mono ?_;rintro e h7⟨rfl,hh,hA,gP,fi,fu,du,cp,ej⟩;have ec:=aa.cu du cp ej;refine⟨rfl,Rq fi ec hN (by show y.hv.length<=_;omega) dc (by show y.pr.length<=_;omega) bY λw' L' I S' k' s' R=>?_⟩;exact⟨rfl,L',I,S',((bx.trans f0).trans fu).trans k',s',eh R s' rfl rfl (.inr fq) rfl rfl rfl rfl rfl CW rfl rfl rfl ⟨rfl,rfl,rfl⟩ (.inl ⟨b8,rh,zA⟩)⟩
 .refine Rq a_ ei hN (by show y.hv.length<=_;omega) dc (by show y.pr.length<=_;omega) bY λw' L' I S' k' s' R=>?_;exact⟨rfl,L',I,S',bx.trans k',s',eh R s' rfl rfl (.inl rfl) rfl rfl rfl rfl rfl rfl rfl rfl rfl ⟨rfl,rfl,rfl⟩ (.inr ⟨b8,rfl⟩)⟩
end
