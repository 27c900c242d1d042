/- Layer 14: how many conflicts there may be until it is begun anew: a number that falls, plain. -/
import Derived.Test.YtbdghpjnifjlmaaGreatRupB
import Derived.Test.YtbdghpjnifjlmaaGreatLubyA
import Derived.Test.YtbdghpjnifjlmaaGreatPfA
set_option linter.unusedVariables false
namespace Go.Proofs.YtbdghpjnifjlmaaGreat.W
open Go Go.Fw Go.RowKit Go.SoP Go.LiP Go.LeP
variable {s t s':aI} {l:List Int} {x:Int} {i j N β bl:Nat}
def Sc (N p:Nat):Nat:=2 ^ (N - 1 - p) / 2
def Sd (N:Nat) (be:List Int):Nat:=(be.map λp=>Sc N p.toNat).sum
def bt (s:aI):Nat:=Sd s.vars (s.R .be)+ (2 ^ (s.vars - 1 - (s.R .tr).length) - 1)
def Uo (s:aI):Prop:=d_ s\/∃i,yz s i
def AB (s:aI) (β:Nat):Prop:=∀s',j7 s s'->aN s'->Uo s'->bt s'<=β
theorem AB.run (h:AB s β) (e:j7 s s'):AB s' β:=λu I=>h u (e.trans I)
theorem AB.dG (h:AB s β) (g:aN s) (f:Uo s):bt s<=β:=h s (j7.refl s) g f
theorem AB.zero (h:s.R .be= []) (hv:s.vars=N):AB s (2 ^ (N - 1) - 1):=by
 intro u e g f;unfold bt;rw [e.be,h,e.v,hv];have:2 ^ (N - 1 - (u.R .tr).length)<=2 ^ (N - 1):=Vd (by omega) (by omega);show 0+_<=_;omega
theorem AB.decide (h:bt s<=β):AB (s.decide x) β:=by
 intro u e X _;obtain ⟨k,Q⟩:=e.tr;have I:=e.be;have ev:u.vars=s.vars:=e.v;rw [wq] at Q;rw [sK] at I;have hl:=X.Ck;have hlen:(u.R .tr).length=(s.R .tr).length+1+k.length:=by rw [Q];simp;omega
 unfold bt at h ⊢;unfold Sd at h ⊢;rw [I,ev,LV,List.sum_append];simp only [Vy,X',List.sum_cons,List.sum_nil,tn];rw [ev] at hl;generalize (s.R .tr).length=T at*
 generalize (u.R .tr).length=O at*
 generalize (List.map (λp=>Sc s.vars p.toNat) (s.R .be)).sum=A at*
 unfold Sc;rcases UZ (s.vars - 1 - T) with e0|e0
 . rw [e0] at h ⊢;rw [show s.vars - 1 - O=0 by omega];simpa using h
 . obtain ⟨m,hm⟩: ∃m,s.vars - 1 - T=m+1:=⟨s.vars - 1 - T - 1,by omega⟩
   have Y:2 ^ (s.vars - 1 - O)<=2 ^ m:=Vd (by omega) (by omega);have U:2 ^ (s.vars - 1 - T)=2*2 ^ m:=by rw [hm,XU,XB]
   have J:=VG m;rw [U] at h ⊢;have V:2*2 ^ m / 2=2 ^ m:=by omega
   rw [V];omega
theorem MD (N:Nat) {be:List Int} {k:Nat} (h:k<be.length):Sd N (be.take k)+Sc N (be.getD k 0).toNat<=Sd N be:=by
 have e:be=be.take k++be.getD k 0::be.drop (k+1):=by
  have h1:=Vi k be;rw [VN h] at h1;rw [<- h1];simp [List.getD,h]
 unfold Sd
 conv=>rhs;rw [e]
 rw [LV,List.sum_append,Vy,List.sum_cons];omega
theorem OL (g:aN s) (b:Em s) (I:yz s i) (hl:0< (s.R .be).length):((s.R .be).getD ((s.R .be).length - 1) 0).toNat+2<=(s.R .tr).length:=by
 have V:(s.R .be).length - 1< (s.R .be).length:=by omega
 have hb:=g.bl _ V;refine UP λhn=>?_;have bJ:∀z,z∈s.R .tr->z ∉ s.dA ((s.R .be).length - 1)->z=(s.R .tr).getD ((s.R .be).getD ((s.R .be).length - 1) 0).toNat 0:=by
  intro z J hp;obtain ⟨p,h1,U⟩:=BH J;have: ¬p< ((s.R .be).getD ((s.R .be).length - 1) 0).toNat:=λh=>hp (En.2 ⟨p,h,h1,U⟩);rw [<- U];congr 1;omega
 rcases b _ V i I.1 with ⟨y,O,Q⟩| ⟨y,O,z,J,X,_,b1,_,b2⟩
 . exact iX g (I.2 y O) (UN Q)
 . have:=bJ _ (I.2 y O) b1;have:=bJ _ (I.2 z J) b2;omega
theorem AB.IU (g:aN s) (b:Em s) (hB:yz s i) (k:LS s l bl) (h:AB s β) (ha:lS (s.bW bl) l s'):1<=β/\AB s' (β - 1):=by
 have I:=k.lt;have aC:=OL g b hB (by omega);have bb:(s.R .be).getD bl 0<=(s.R .be).getD ((s.R .be).length - 1) 0:=by
  by_cases e:bl=(s.R .be).length - 1
  . rw [e];exact U3 _
  . exact Int.le_of_lt (g.bs bl _ (by omega) (by omega))
 have hb:=g.bl bl I;have az:=g.Ck;obtain ⟨p,hp⟩: ∃p,p=((s.R .be).getD bl 0).toNat:=⟨_,rfl⟩
 have bf:p+2<=s.vars:=by omega
 have hs:=h.dG g (.inr ⟨i,hB⟩);have ht:=MD s.vars I;rw [<- hp] at ht;obtain ⟨m,hm⟩: ∃m,s.vars - 1 - p=m+1:=⟨s.vars - 1 - p - 1,by omega⟩
 have hE:Sc s.vars p=2 ^ m:=by unfold Sc;rw [hm,XU];omega
 have aT:=VG m;have a':Sd s.vars (s.R .be)<=β:=UY (Nat.le_add_right _ _) hs;refine ⟨by omega,?_⟩;intro u e gu O;have ev:u.vars=s.vars:=by rw [e.v,ha.v];rfl
 have eb:u.R .be=(s.R .be).take bl:=by rw [e.be,ha.be,uH]
 obtain ⟨q,hq⟩:=e.tr;rw [ha.tr] at hq;have V:(s.bW bl).R .tr=s.dA bl:=Dw;rw [V] at hq;have ac:(s.dA bl).length=p:=by unfold aI.dA;rw [GD];omega
 have enc:(s.bW bl).nc=s.nc:=rfl;have grow:q≠[]:=by
  intro e0;rw [e0,VF] at hq;obtain ⟨x0,Y,l0,av⟩:=k.qI;have an:u.R (.a s.nc)=l:=by rw [e.a,ha.a,enc,if_pos rfl]
  rcases O with O| ⟨Z,O⟩
  . have th:u.aO s.nc:=e.lW.2 ⟨by rw [ha.n,enc];omega,by rw [ha.g,enc,if_pos rfl]⟩;rcases O _ th with ⟨x,U,X⟩| ⟨x,U,y,J,Q,v1,v2⟩
    . rw [an] at U;rw [hq] at X;exact iX g (k.ft x U) (UN X)
    . rw [an] at U J;have rO:∀z∈l,dN u.vars z:=λz hz=>by rw [ev];exact k.rO g hz
      have n1:=(om gu (rO x U) v1).2;have n2:=(om gu (rO y J) v2).2;rw [hq] at n1 n2;have key:∀z∈l,-z ∉ s.dA bl->z=x0:=λz hz hn=>by
       refine UP λQ=>hn ((tx g (k.ft z hz) I).2 (av z hz Q))
      exact Q ((key x U n1).trans (key y J n2).symm)
  . by_cases e2:Z=s.nc
    . subst e2;have h1:=O.2 x0 (by rw [an];exact Y);rw [hq] at h1;have:=(tx g (k.ft x0 Y) I).1 h1;omega
    . have th:=e.lW.1 O.1;have ap:s.aO Z:=by
       refine ⟨?_,?_⟩
       . have:=th.1;rw [ha.n,enc] at this;omega
       . have:=th.2;rw [ha.g,enc,if_neg e2] at this;exact this
      have ea:u.R (.a Z)=s.R (.a Z):=by rw [e.a,ha.a,enc,if_neg e2,pK]
      have f2:=O.2;rw [ea,hq] at f2;rcases b bl I Z ap with ⟨y,J,ag⟩| ⟨y,J,_,_,_,_,b1,_,_⟩
      . exact iX gu (x:=y) (by rw [hq];exact f2 y J) (by rw [hq];exact ag)
      . exact b1 (f2 y J)
 have hT:p+1<=(u.R .tr).length:=by
  rw [hq,UH,ac];have:=Vb.2 grow;omega
 have h2:2 ^ (s.vars - 1 - (u.R .tr).length)<=2 ^ m:=Vd (by omega) (by omega);unfold bt;rw [ev,eb];omega
end Go.Proofs.YtbdghpjnifjlmaaGreat.W
namespace Go.PotP
open Go.Luby
theorem EV {a b:Nat} (h:a<=b):Luby.sum a<=Luby.sum b:=by
 induction h with
 |refl=>exact y4 _
 |step _ ih=>exact UY ih (by show _<=Luby.sum _+jP _;omega)
theorem Eh {a:Nat} (h:1<=a):Luby.sum a=Luby.sum (a - 1)+jP a:=by
 obtain ⟨b,rfl⟩: ∃b,a=b+1:=⟨a - 1,by omega⟩
 rfl
theorem LD (k:Nat):∀a,1<=a->∃j,a<=j/\2 ^ k<=jP j/\Luby.sum (j - 1)<=Luby.sum (a - 1)+k*2 ^ k:=by
 intro a
 induction a using Nat.strongRecOn with
 |_ a Z=>
  intro h1;have hk:=VG k;have Q:=eE k;by_cases e:a<=2 ^ (k+1) - 1
  . refine ⟨2 ^ (k+1) - 1,e,by rw [kN];exact y4 _,?_⟩;have h2:=Fg (k+1);have h3:=Eh (a:=2 ^ (k+1) - 1) (by omega);rw [kN,h2] at h3;have h4:(k+1)*2 ^ (k+1) / 2=k*2 ^ k+2 ^ k:=by
     rw [Q,XE,Xz _ (by omega),V',WM]
    omega
  . obtain ⟨m,hm⟩: ∃m,bl a=m+1:=⟨bl a - 1,by have:=(uY (n:=a) (by omega)).1;omega⟩
    have b1:=Eo a;have b2:=(uY (n:=a) (by omega)).2;rw [hm] at b1 b2;rw [VV] at b2;have X:=eE m;have O:k+1<=m:=by
     refine UP λhn=>?_;have:2 ^ (m+1)<=2 ^ (k+1):=Vd (by omega) (by omega);omega
    have an:2 ^ (k+1)<=2 ^ m:=Vd (by omega) O;by_cases e2:a=2 ^ (m+1) - 1
    . refine ⟨a,y4 _,?_,by omega⟩;rw [e2,kN];omega
    . obtain ⟨i,hi⟩: ∃i,i=a - (2 ^ m - 1):=⟨_,rfl⟩
      obtain ⟨V,g1,Y,U⟩:=Z i (by omega) (by omega);have J:jP (2 ^ m - 1)=2 ^ (m - 1):=by
       have:=kN (m - 1)
       rwa [show m - 1+1=m by omega] at this
      obtain ⟨I,q1,q2,q3,q4⟩: ∃I,i<=I/\I<=2 ^ m - 1/\2 ^ k<=jP I/\Luby.sum (I - 1)<=Luby.sum (i - 1)+k*2 ^ k:=by
       by_cases e3:V<=2 ^ m - 1
       . exact ⟨V,g1,e3,Y,U⟩
       . refine ⟨2 ^ m - 1,by omega,y4 _,?_,UY (EV (by omega)) U⟩;rw [J];exact Vd (by omega) (by omega)
      refine ⟨2 ^ m - 1+I,by omega,by rw [AK (by omega) q2];exact q3,?_⟩;have s1:=q6 m (I - 1) (by omega);have s2:=q6 m (i - 1) (by omega);rw [show 2 ^ m - 1+I - 1=2 ^ m - 1+ (I - 1) by omega,s1,show a - 1=2 ^ m - 1+ (i - 1) by omega,s2];omega
inductive Tl (D u:Nat):Nat->Nat->Nat->Prop
 |K4 {a l:Nat}:2*D<=u*jP a->Tl D u a l (2*D+l - u*jP a)
 |HH {a l n:Nat}:u*jP a<2*D->Tl D u (a+1) (u*jP (a+1)) n->Tl D u a l (l+n)
theorem Tl.to {D u j:Nat} (I:2*D<=u*jP j):∀d a,1<=a->a+d=j->∀l,l<=u*jP a->∃n,Tl D u a l n/\n+u*Luby.sum (a - 1)<=u*Luby.sum (j - 1)+2*D:=by
 intro d
 induction d with
 |zero=>
  intro a h1 e l hl;rw [Ws] at e;subst e;exact ⟨_,.K4 I,by omega⟩
 |succ d J=>
  intro a h1 e l hl;by_cases h:2*D<=u*jP a
  . refine ⟨_,.K4 h,?_⟩;have:u*Luby.sum (a - 1)<=u*Luby.sum (j - 1):=WC _ (EV (by omega));omega
  . obtain ⟨n,t,b⟩:=J (a+1) (by omega) (by omega) _ (y4 _);refine ⟨_,.HH (by omega) t,?_⟩;have:=Eh h1;rw [VV,this,Nat.mul_add] at b;omega
theorem Tl.ex {D u k:Nat} (h:2*D<=u*2 ^ k) {a l:Nat} (h1:1<=a) (hl:l<=u*jP a):∃n,Tl D u a l n/\n<=u* (k*2 ^ k)+2*D:=by
 obtain ⟨j,Q,J,I⟩:=LD k a h1;have O:2*D<=u*jP j:=UY h (WC _ J);obtain ⟨n,t,b⟩:=Tl.to O (j - a) a h1 (by omega) l hl;refine ⟨n,t,?_⟩;have:=WC u I;rw [Nat.mul_add] at this;omega
def qp (q:Nat->Nat) (w:Nat):Nat:=if w=0 then 0 else q (w - 1)
def MA (q:Nat->Nat):Nat->Nat->Nat
 |0,_=>0
 |d+1,w=> (q (w+1) - q w / 2)+MA q d (w+1)
structure TC (D wB C u M:Nat) (q:Nat->Nat) (w h U a l β r μ:Nat):Prop where
 l1:1<=l
 l2:l<=u*jP a
 a1:1<=a
 p2:min (u*jP a - l) r+β+1<=D
 hq:h<q w
 ph:(w<wB/\μ=(q w - h)+ (M - U)+MA q (wB - 1 - w) w+ (D+C))\/
  (wB<=w/\h<=qp q w+r/\((u*jP a - l<=r+D/\Tl D u a l μ/\μ<=C)\/(r+D<u*jP a - l/\μ=(D - r)+C)))
theorem TC.step {D wB C u M:Nat} {q:Nat->Nat} {w h U a l β r μ:Nat} (hu:1<=u) (hC:∀a l,1<=a->l<=u*jP a->∃n,Tl D u a l n/\n<=C) (hD:∀w,wB<=w->D<=q w - qp q w) (bb:∀w,q w<q (w+1))
 (P:TC D wB C u M q w h U a l β r μ) (hβ:1<=β) {w' h1 h' U' V l' β':Nat} {ag du:Bool}
 (ay:(ag=true/\l=1/\V=a+1/\l'=u*jP (a+1))\/(ag=false/\1<l/\V=a/\l'=l - 1))
 (hh:(h1=h+1/\U'=U)\/(h1=h/\U'=U+1/\U'<=M))
 (bg:(du=false/\w'=w/\h'=h1/\h1<q w)\/(du=true/\w'=w+1/\q w<=h1/\h'<=h1/\h1<=2*h'+1))
 (hb:((ag=true\/du=true)/\β'+1=D)\/(ag=false/\du=false/\β'+1=β)):
 ∃r' Y,TC D wB C u M q w' h' U' V l' β' r' Y/\Y+1<=μ:=by
 obtain ⟨l1,l2,a1,p2,hq,ph⟩:=P;have a7:1<=u*jP (a+1):=UY (by omega) (Yf hu (MF (a+1)));have p3:min (u*jP a - l+1) (r+1)+1<=D:=by omega
 have bi:1<=l'/\l'<=u*jP V/\1<=V/\(u*jP V - l'=0\/(ag=false/\u*jP V - l'=u*jP a - l+1)):=by
  rcases ay with ⟨_,_,rfl,rfl⟩| ⟨e,e1,rfl,rfl⟩
  . exact ⟨a7,y4 _,by omega,.inl (Ya _)⟩
  . exact ⟨by omega,by omega,a1,.inr ⟨e,by omega⟩⟩
 obtain ⟨Q,I,O,X⟩:=bi;obtain ⟨n0,T0,C0⟩:=hC V l' O I;have aw:u*jP a - l+1<2*D->Tl D u a l μ->μ<=C->∃Y,Tl D u V l' Y/\Y<=C/\Y+1<=μ:=by
  intro ht T hc;rcases ay with ⟨_,e1,rfl,rfl⟩| ⟨_,e1,rfl,rfl⟩
  . cases T with
    |K4 h2=>omega
    |HH h2 T2=>exact ⟨_,T2,by omega,by omega⟩
  . cases T with
    |K4 h2=>
     refine ⟨_,.K4 h2,?_,?_⟩<;>omega
    |HH h2 T2=>exact ⟨_,.HH h2 T2,by omega,by omega⟩
 rcases bg with ⟨d0,rfl,rfl,Z⟩| ⟨d0,rfl,bv,b3,bf⟩
 . have J:min (u*jP V - l') (r+1)+β'+1<=D:=by
    rcases hb with ⟨hr,hb⟩| ⟨e1,_,hb⟩
    . rcases X with e| ⟨e,_⟩
      . omega
      . rcases hr with hr|hr
        . rw [e] at hr;cases hr
        . rw [d0] at hr;cases hr
    . rcases X with e| ⟨_,e⟩<;>omega
   rcases ph with ⟨hw,hμ⟩| ⟨hw,a8,⟨ht,T,hc⟩| ⟨ht,hμ⟩⟩
   . refine ⟨r+1,_,⟨Q,I,O,J,Z,.inl ⟨hw,rfl⟩⟩,?_⟩;omega
   . obtain ⟨Y,T',c',m'⟩:=aw (by omega) T hc;refine ⟨r+1,Y,⟨Q,I,O,J,Z,.inr ⟨hw,by omega,.inl ⟨?_,T',c'⟩⟩⟩,m'⟩;rcases X with e| ⟨_,e⟩<;>omega
   . rcases X with e| ⟨_,e⟩
     . exact ⟨r+1,n0,⟨Q,I,O,J,Z,.inr ⟨hw,by omega,.inl ⟨by omega,T0,C0⟩⟩⟩,by omega⟩
     . exact ⟨r+1,(D - (r+1))+C,⟨Q,I,O,J,Z,.inr ⟨hw,by omega,.inr ⟨by omega,rfl⟩⟩⟩,by omega⟩
 . have bx:β'+1=D:=by
    rcases hb with ⟨_,hb⟩| ⟨_,e,_⟩
    . exact hb
    . rw [d0] at e;cases e
   have J:min (u*jP V - l') 0+β'+1<=D:=by omega
   have aa:h'<q (w+1):=by have:=bb w;omega
   have bY:q w<=h+1:=by omega
   have b5:qp q (w+1)=q w:=rfl;rcases ph with ⟨hw,hμ⟩| ⟨hw,a8,ph⟩
   . by_cases bc:w+1<wB
     . refine ⟨0,_,⟨Q,I,O,J,aa,.inl ⟨bc,rfl⟩⟩,?_⟩;rw [show wB - 1 - w=(wB - 1 - (w+1))+1 by omega] at hμ;simp only [MA] at hμ;omega
     . rw [show wB - 1 - w=0 by omega] at hμ;simp only [MA] at hμ;by_cases ht:u*jP V - l'<=0+D
       . exact ⟨0,n0,⟨Q,I,O,J,aa,.inr ⟨by omega,by omega,.inl ⟨ht,T0,C0⟩⟩⟩,by omega⟩
       . exact ⟨0,(D - 0)+C,⟨Q,I,O,J,aa,.inr ⟨by omega,by omega,.inr ⟨by omega,rfl⟩⟩⟩,by omega⟩
   . have b6:=hD w hw;rcases ph with ⟨ht,T,hc⟩| ⟨ht,hμ⟩
     . obtain ⟨Y,T',c',m'⟩:=aw (by omega) T hc;refine ⟨0,Y,⟨Q,I,O,J,aa,.inr ⟨by omega,by omega,.inl ⟨?_,T',c'⟩⟩⟩,m'⟩;rcases X with e| ⟨_,e⟩<;>omega
     . omega
end Go.PotP
namespace Go.Proofs.YtbdghpjnifjlmaaGreat.W
open Go Go.Fw Go.RowKit Go.SoP Go.LiP Go.LeP
open Go.Proofs.Tryz (prog)
open Go.IntKind (i64)
section
variable {w0 w w' w1 w2 u:World} {B N i:Nat} {L L' L1:Nat->Nat} {x:Xs} {l:List Int} {cs:List (List Int)} {hv:List (Nat × List Int)} {un:List (List Int)}
theorem SR.TR (h:SR w0 w B L N x) (v:Int):Calls prog gR.id #[Hp.ptr x.hb,.i v] w λe w'=>∃r:Int,e=.returned (.i r)/\∃L',SR w0 w' B L' N x/\Kp w0 w w' L L':=by
 obtain ⟨z,J,z2,z3,z4⟩:=h.hp id;refine (Hp.On J z2 v).mono ?_;rintro e w' ⟨rfl,y,Z,U,Q,V⟩;have hf:y.cq x.hb=z.cq x.hb:=by
  rw [Q.cq];split
  . split<;>rfl
  . rfl
 have X:∀u:Int,1<=u->u<=N->(0<HeapP.g y.at_ u↔x.S u):=λu I O=>by
  rw [Q.has u I O,<- z3 u I O];split
  . split<;>exact WK
  . exact WK
 have:=h.heap z4 J.lt Z U (S':=x.S) X V λk Y=> .inl (by rw [<- hf];exact Y);exact ⟨_,rfl,_,this.1,this.2⟩
theorem SR.Td (h:SR w0 w B L N x):Calls prog fR.id #[Hp.ptr x.hb] w λe w'=>e=.returned (.tuple #[])/\∃L',SR w0 w' B L' N x/\Kp w0 w w' L L':=by
 obtain ⟨z,O,z2,z3,z4⟩:=h.hp id;refine (Hp.Kr O z2).mono ?_;rintro e w' ⟨rfl,y,Z,Y,J,U⟩;have hf:y.cq x.hb=z.cq x.hb:=by
  rw [J.cq];split<;>rfl
 have V:∀u:Int,1<=u->u<=N->(0<HeapP.g y.at_ u↔x.S u):=λu I Q=>by
  rw [J.has u I Q,<- z3 u I Q];split<;>exact WK
 have:=h.heap z4 O.lt Z Y (S':=x.S) V U λk X=> .inl (by rw [<- hf];exact X);exact ⟨rfl,_,this.1,this.2⟩
structure qk (N:Nat) (cs:List (List Int)) (x:Xs):Prop where
 ci:qR N cs x.s (x.hv.map xr) (x.un.map (·.2))
 hi:Cv N x.s x.S
 ph:x.ph.length=N+1
 n:x.m.n=N
 Qj:∀u∈x.hv,Qp u
 bZ:0<=x.m.bZ/\x.m.bZ<=100
 pf:PF cs x.s (x.pr.map ik)
 mo:x.mo= []
theorem qk.own (st:qk N cs x) {m':Me} (h:m'.n=x.m.n/\m'.bZ=x.m.bZ):qk N cs {x with m:=m'}:=
 ⟨st.ci,st.hi,st.ph,by rw [h.1];exact st.n,st.Qj,by rw [h.2];exact st.bZ,st.pf,st.mo⟩
theorem PF.cB {s:aI} {pr:List (Bool × List Int)} (h:PF cs s pr) (bI:Int):PF cs (cB s bI) pr:=by
 unfold Go.Proofs.YtbdghpjnifjlmaaGreat.W.cB;split
 . exact h.bW
 . exact h
theorem qR.cB {s:aI} (h:qR N cs s hv un) (bI:Int):qR N cs (cB s bI) hv un:=by
 unfold Go.Proofs.YtbdghpjnifjlmaaGreat.W.cB;split
 . exact h.bW (by assumption)
 . exact h
theorem BS {s:aI} {bI:Int}:(cB s bI).nc=s.nc:=by unfold cB;split<;>rfl
theorem zK {s:aI} {S S':Int->Prop} {bI:Int} (g:aN s) (hv:s.vars=N) (h:Cv N s S) (O:∀v,S v->S' v) (ht:∀y∈s.R .tr,y ∉ (cB s bI).R .tr->S' (bh y)):Cv N (cB s bI) S':=by
 intro v v1 v2 Q;obtain ⟨U,V,ev⟩:=Bz (s:=s) bI;have J:dN s.vars v:=⟨by omega,by omega,by omega⟩
 have I:dN (cB s bI).vars v:=by rw [ev];exact J
 obtain ⟨a,b⟩:=(js (xq g bI) I).1 Q;by_cases m1:v∈s.R .tr
 . have:=ht v m1 a
   rwa [show bh v=v by unfold bh;rw [if_neg (by omega)]] at this
 . by_cases m2: -v∈s.R .tr
   . have:=ht (-v) m2 b
     rwa [kX,show bh v=v by unfold bh;rw [if_neg (by omega)]] at this
   . exact O v (h v v1 v2 ((js g J).2 ⟨m1,m2⟩))
theorem qk.cB (st:qk N cs x) {bI:Int} {S':Int->Prop} {I:List Int} (hp:I.length=N+1) (J:∀v,x.S v->S' v) (ht:∀y∈x.s.R .tr,y ∉ (cB x.s bI).R .tr->S' (bh y)):qk N cs {x with s:=cB x.s bI,S:=S',ph:=I}:=
 ⟨st.ci.cB bI,zK st.ci.g st.ci.v st.hi J ht,hp,st.n,st.Qj,st.bZ,st.pf.cB bI,st.mo⟩
theorem SD {s':aI} {sl hs us:Sl} {lv:Int}:(x.lrn s' sl l lv hs us).m=x.m:=by unfold Xs.lrn;split<;>rfl
theorem P6 {s':aI} {sl hs us:Sl} {lv:Int}:(x.lrn s' sl l lv hs us).s=s':=by unfold Xs.lrn;split<;>rfl
theorem Rb {s':aI} {sl hs us:Sl} {lv:Int}:(x.lrn s' sl l lv hs us).pr=x.pr:=by unfold Xs.lrn;split<;>rfl
theorem NX {s':aI} {sl hs us:Sl} {lv:Int}:(x.lrn s' sl l lv hs us).hv.length+ (x.lrn s' sl l lv hs us).un.length=x.hv.length+x.un.length+1/\(x.lrn s' sl l lv hs us).hv.length<=x.hv.length+1:=by
 unfold Xs.lrn;split
 . simp;omega
 . simp;omega
theorem Qs {s':aI} {sl hs us:Sl} {lv:Int}:((x.lrn s' sl l lv hs us).hv.length=x.hv.length+1/\(x.lrn s' sl l lv hs us).un=x.un)\/((x.lrn s' sl l lv hs us).hv.length=x.hv.length/\∃c:Us,c.2.length<=1/\(x.lrn s' sl l lv hs us).un=x.un++ [c]):=by
 unfold Xs.lrn;split
 . exact .inl ⟨by simp,rfl⟩
 . exact .inr ⟨rfl,(sl,l),by show l.length<=1;omega,rfl⟩
theorem ua {s:aI}:(cB s 0).R .be= []:=by
 unfold cB;have e:(max 0 (0:Int)).toNat=0:=rfl;rw [e];split
 . rw [uH];rfl
 . exact UF (by omega)
theorem qk.lrn (st:qk N cs x) {t:aI} {S':Int->Prop} {J:List Int} {bl:Nat} (k:LS x.s l bl) (f:DN N cs l) (Y:E9 x.s l) (ht:t=x.s.bW bl) {s':aI} (ha:lS t l s') (V:aN s') (hp:J.length=N+1) (hi:Cv N t S') {sl hs us q:Sl} {sl2:Sl} {lv:Int} (hl:0<=lv/\lv<=l.length) (X:l.length<=4096):
 qk N cs ({x with s:=t,S:=S',ph:=J,ps:=q,pr:=x.pr++ [(false,sl2,l)]}.lrn s' sl l lv hs us):=by
 subst ht;have U:=st.ci.SY k f ha V;have pf:=PF.add st.pf k (by rw [st.ci.v];exact k.Si st.ci) Y ha;have Q:Cv N s' S':=by
  intro v v1 v2 Z;have O:dN s'.vars v:=by rw [U.v];exact ⟨by omega,by omega,by omega⟩
  have hb:dN (x.s.bW bl).vars v:=by
   have:s'.vars=(x.s.bW bl).vars:=ha.v;rw [<- this];exact O
  have:=(js V O).1 Z;rw [ha.tr] at this;exact hi v v1 v2 ((js (mj st.ci.g k.lt) hb).2 this)
 have I:PF cs s' ((x.pr++ [(false,sl2,l)]).map ik):=by rw [LV];exact pf
 by_cases e:1<l.length
 . unfold Xs.lrn;rw [if_pos e];refine ⟨?_,Q,hp,st.n,λu hu=>?_,st.bZ,I,st.mo⟩
   . have:=U.MW;show qR N cs s' ((x.hv++ [_]).map xr) _;rw [LV];exact this
   . rcases F'.1 hu with hu|hu
     . exact st.Qj u hu
     . rw [Bs] at hu;subst hu;exact ⟨hl.1,hl.2,by show (l.length:Int)<=4096;omega,X⟩
 . unfold Xs.lrn;rw [if_neg e];refine ⟨?_,Q,hp,st.n,st.Qj,st.bZ,I,st.mo⟩;have:=U.Lh;show qR N cs s' _ ((x.un++ [_]).map _);rw [LV];exact this
def F_ (lrn bZ:Int) (h:Nat):Prop:=0<Re.mM lrn bZ/\Re.mM lrn bZ<=(h:Int)
structure Rl (N:Nat) (x x':Xs):Prop where
 nc:x'.s.nc=x.s.nc
 cf:x'.m.cf=x.m.cf
 de:x'.m.de=x.m.de
 re:x'.m.re=x.m.re
 yJ:x'.m.yJ=x.m.yJ
 lrn:x'.m.lrn=x.m.lrn
 dU:x'.m.dU=x.m.dU
 pc:x'.m.pu=x.m.pu/\x'.m.pa=x.m.pa/\x'.m.pl=x.m.pl
 un:x'.un=x.un
 dr:x.m.dr<=x'.m.dr/\x'.m.dr+x'.hv.length=x.m.dr+x.hv.length
 pl:x'.pr.length+x'.hv.length=x.pr.length+x.hv.length
 bz:x.s.R .be= []->x'.s.R .be= []
 hv:(x'.m.bZ=x.m.bZ/\x'.hv.length=x.hv.length/\x'.s=x.s/\¬F_ x.m.lrn x.m.bZ x.hv.length)\/
  (x.m.bZ<100/\x'.m.bZ=x.m.bZ+1/\x'.hv.length<=x.hv.length/\x.hv.length<=2*x'.hv.length+1/\F_ x.m.lrn x.m.bZ x.hv.length/\x'.s.R .be= [])
theorem PW (h:SR w0 w B L N x) (st:qk N cs x) (hN:N<=1000) (h3:x.hv.length<=1000000) (hq:(x.hv.length:Int)<Re.mM x.m.lrn 100) (a8:x.pr.length<=900000000) (bg:0<=x.m.dr/\x.m.dr<=1000000000) {K:World->Prop}
 (hk:∀w' L' x',SR w0 w' B L' N x'->Kp w0 w w' L L'->qk N cs x'->Rl N x x'->K w'):
 ∃a6,(some (qw B))=some a6/\∃av U X,w.drew.cell? (a6.add 11)=some (.slice av U X)/\
  ∃a53,(some (qw B))=some a53/\∃Z,w.drew.cell? ((a53.add 2).add 2)=some (.i Z)/\
  ∃a55,(some (qw B))=some a55/\∃ay,w.drew.cell? (a55.add 13)=some (.i ay)/\
  Calls prog 117 #[.i (U:Int),.i Z,.i ay] w.drew λe J=>∃aT,e=.returned (.bool aT)/\
  aF aT
  (Calls prog 114 #[.pointer (some (qw B)),.i 0] J λe Y=>e=.returned (.tuple #[])/\
    Calls prog 118 #[.pointer (some (qw B))] Y λe ac=>e=.returned (.tuple #[])/\
    K ac)
  (K J):=by
 have D:=h.drew;have aa:=(h.hv id).2.1;refine ⟨_,rfl,_,_,_,ae D.at rfl,_,rfl,_,bK D.at rfl,_,rfl,_,ae D.at rfl,(Re.Qy _ _ _ _).mono ?_⟩;rintro e J ⟨rfl,V⟩;have aw:=D.grow V;have ag:Kp w0 w J L L:=mI.grow ((aD.refl w).drew.trans V);refine ⟨_,rfl,ah (λr=>?_) (λr=>?_)⟩
 . rw [ts,decide_eq_true_eq,decide_eq_true_eq,aa] at r;refine (AJ aw st.ci.g st.ci.v hN st.ph 0).mono ?_;rintro e Y ⟨rfl,ce,cc,b6,bn,a_,Q,ax,ar⟩;have I:=st.cB Q ax ar;have hw:=st.bZ;have ap:x.m.bZ<100:=by
    refine UP λhn=>?_;have e1:x.m.bZ=100:=by omega
    rw [e1] at r;omega
   refine ⟨rfl,(LU bn I.ci I.hi (by show x.hv.length<=_;omega) a8 I.Qj bg I.pf).mono ?_⟩;rintro e ac ⟨rfl,b',cb,b3,b5,b4,b9,b7,bu,a',bv,bx,bi,bb,a7,an,O,az,bY,bk,bf⟩;have ew:mN (i64.wrap (x.m.bZ+1)) 100=x.m.bZ+1:=by
    rw [aA (by omega) (by omega)];unfold mN;rw [if_neg (by omega)]
   refine ⟨rfl,hk _ _ _ a' ((ag.trans a_).trans bu) ⟨bv,bx,Q,st.n,bb,?_,az,st.mo⟩ ⟨?_,rfl,rfl,rfl,rfl,rfl,rfl,⟨rfl,rfl,rfl⟩,rfl,⟨bY,bk⟩,a7,λ_=>O.trans ua,.inr ⟨ap,ew,an,bf,r,O.trans ua⟩⟩⟩
   . show 0<=mN (i64.wrap (x.m.bZ+1)) 100/\mN (i64.wrap (x.m.bZ+1)) 100<=100;rw [ew];omega
   . rw [bi];exact BS
 . rw [<- U5,ts,decide_eq_true_eq,decide_eq_true_eq,aa] at r;exact hk _ _ _ aw ag st ⟨rfl,rfl,rfl,rfl,rfl,rfl,rfl,⟨rfl,rfl,rfl⟩,rfl,⟨U3 _,rfl⟩,rfl,id,.inl ⟨rfl,rfl,rfl,r⟩⟩
end
section
variable {w0 w w' w1 w2 u:World} {B N i:Nat} {L L' L1:Nat->Nat} {x:Xs} {l:List Int} {cs:List (List Int)} {hv:List (Nat × List Int)} {un:List (List Int)}
structure Uk (N:Nat) (x x':Xs):Prop where
 nc:x'.s.nc=x.s.nc+1
 cf:x'.m.cf=x.m.cf+1
 de:x'.m.de=x.m.de
 re:x'.m.re=x.m.re\/x'.m.re=x.m.re+1
 yJ:x'.m.yJ=x.m.yJ
 lrn:x'.m.lrn=x.m.lrn
 dU:x'.m.dU=x.m.dU
 dr:x.m.dr<=x'.m.dr/\x'.m.dr+x'.hv.length<=x.m.dr+x.hv.length+1
 pl:x'.pr.length+x'.hv.length<=x.pr.length+x.hv.length+2
 pc:x'.m.pu=Lu.rC x.m.pu x.m.pa x.m.pl/\x'.m.pa=Lu.nj x.m.pu x.m.pa x.m.pl/\x'.m.pl=Lu.pW x.m.pu x.m.pa x.m.pl
 ch:∃h1:Nat,((h1=x.hv.length+1/\x'.un=x.un)\/(h1=x.hv.length/\∃c:Us,c.2.length<=1/\x'.un=x.un++ [c]))/\
  ((x'.m.bZ=x.m.bZ/\x'.hv.length=h1/\¬F_ x.m.lrn x.m.bZ h1)\/(x.m.bZ<100/\x'.m.bZ=x.m.bZ+1/\x'.hv.length<=h1/\h1<=2*x'.hv.length+1/\F_ x.m.lrn x.m.bZ h1))
 bz:Lu.nV x.m.pu x.m.pa x.m.pl=true\/x'.m.bZ=x.m.bZ+1->x'.s.R .be= []
 rb:∀β,AB x.s β->1<=β/\(Lu.nV x.m.pu x.m.pa x.m.pl=false->x'.m.bZ=x.m.bZ->AB x'.s (β - 1))
theorem Ez (h:SR w0 w B L N x) (st:qk N cs x) (hN:N<=1000) (h3:x.hv.length<=900000/\x.un.length<=900000) (hq:((x.hv.length+1:Nat):Int)<Re.mM x.m.lrn 100) (hB:yz x.s i) (hl:0< (x.s.R .be).length) (f0:x.s.nc<262144) (gT:0<=x.m.cf/\x.m.cf<=1000000000) (g5:0<=x.m.re/\x.m.re<=1000000000) (gv:x.pr.length<=800000000) (eK:0<=x.m.dr/\x.m.dr<=1000000000):
 Calls prog cM.id #[ck B,.i i] w λe w'=>e=.returned (.tuple #[])/\∃L' J,SR w0 w' B L' N J/\Kp w0 w w' L L'/\qk N cs J/\Uk N x J:=by
 have g:=st.ci.g;refine cM.aj ⟨_,rfl,_,bK h.at rfl,_,rfl,?_⟩;have el:i64.wrap (x.m.cf+1)=x.m.cf+1:=aA (by omega) (by omega);rw [el];refine ju h.at rfl rfl λw4 h4 m4=>?_;obtain ⟨S4,k4⟩:=h.own (m':= {x.m with cf:=x.m.cf+1}) h4 m4;refine ⟨_,rfl,_,ae S4.at rfl,(S4.Lx g i).mono ?_⟩;rintro e w7 ⟨q8,d8,rfl,o8,g7,f8⟩;have gf:x.s.is (i:Int)=true:=aI.Da.2 ⟨by omega,by rw [tn];exact hB.1⟩;have b_:aI.is {x with m:= {x.m with cf:=x.m.cf+1}}.s (i:Int)=true:=gf;rw [b_,if_pos rfl,tn] at o8 ⊢;have o8:dz aq w7 q8 d8 (x.s.R (.a i)):=o8;obtain ⟨bk,a6⟩: ∃bk,bk=x.s.R (.a i):=⟨_,rfl⟩
 have fy:=g.al i;rw [<- a6] at o8 fy;show ∃gw g6 hA r9,Ending.returned (.tuple #[.slice q8 (x.s.R (.a i)).length d8,.bool true])=_/\_;rw [<- a6];refine ⟨_,_,_,_,rfl,?_⟩;have S7:=S4.new g7 9;have k7:Kp w0 w4 w7 L (lN L w4.heap.size 9):=mI.new g7 9;have vb:Vw sT w7 q8 (x.s.R (.a i)):=by rw [<- a6];exact o8.vw
 have ew:qR N cs ({x with m:= {x.m with cf:=x.m.cf+1}}:Xs).s (x.hv.map xr) (x.un.map (·.2)):=st.ci;refine (Nh S7 ew hN hB hl vb (by rw [a6])).mono ?_;rintro e ag ⟨q,d,l,bl,lv,rfl,ol,fl,az,Ls,Fl,eT,eF,eH⟩;have Ls:LS x.s l bl:=Ls;refine ⟨_,_,_,_,_,rfl,?_⟩;obtain ⟨gc,en⟩:SR w0 ag B _ N _/\Kp w0 w7 ag _ _:=⟨S7.new az 9,mI.new az 9⟩
 have b':RO ag (lN (lN L w4.heap.size 9) w7.heap.size 9) ⟨q,l.length,d⟩ l:=⟨rfl,ol.vw,λk hk=>⟨jC (fl k hk),ol.lt k hk⟩⟩
 have c2:=Ls.Si st.ci;have bY:l.length<=4096:=by
  have h1:=pS (n:=N+1) (l:=l.map bh) ?_ λy hy=>?_
  . simp at h1;omega
  . unfold List.Nodup;rw [Wv];refine Wr (λ{a b} ha hb gg e=>?_) Ls.nd;rcases wQ e with e|e
    . exact gg e
    . exact c2.nt b hb (by rw [<- e];exact ha)
  . obtain ⟨z,hz,rfl⟩:=L0.1 hy;have:=(c2.rO z hz).bh;omega
 have Si:xN x.s.vars l=true:=RQ (by rw [st.ci.v];omega) (λy hy=>Ls.rO g hy) bY;refine (iQ (o8.vw.grow az) rfl (by omega)).mono ?_;rintro e O ⟨eu,ho,rfl,cg,a',f15⟩;refine ⟨_,_,_,rfl,?_⟩;have dk:=gc.new a' 0;have b6:Kp w0 ag O _ (lN (lN (lN L w4.heap.size 9) w7.heap.size 9) ag.heap.size 0):=mI.new a' 0;obtain ⟨I,bx⟩: ∃I,I=lN (lN (lN L w4.heap.size 9) w7.heap.size 9) ag.heap.size 0:=⟨_,rfl⟩
 have V:∀b,aG eu=some b->I b=0/\w.heap.size<=b:=λb hb=>⟨by rw [bx];exact jC (f15 b hb),by have:=f15 b hb;have:=m4.size;have:=g7.size;have:=az.size;omega⟩
 rw [<- bx] at dk b6;have g8:=h.g.size;refine cg.SB xX (ol.grow a') rfl rfl fz (by omega) λZ ac g2 dd et d7 gn=>?_;have c0:aD (λk=>I k=0/\w0.heap.size<=k) O Z:=et.mono λb _ e=>⟨(V b e).1,by have:=(V b e).2;omega⟩
 obtain ⟨eR,a8⟩:=dk.TU (L':=lN I O.heap.size 0) c0 λ_ hk=>dD hk;have a8:Kp w0 O Z I (lN I O.heap.size 0):=a8.xU λi e=>by rw [e];decide
 have ay:∀b,aG ac=some b->lN I O.heap.size 0 b=0/\w.heap.size<=b:=λb hb=>by
  rcases d7 with rfl|rfl
  . rw [dD (cg.lt b hb)];exact V b hb
  . have:=aL hb;have:=m4.size;have:=g7.size;have:=az.size;have:=a'.size;exact ⟨jC (by omega),by omega⟩
 obtain ⟨U,av⟩: ∃U:Nat->Nat,U=λk=>if aG ac=some k then 9 else lN I O.heap.size 0 k:=⟨_,rfl⟩
 have bg:∀k,lN I O.heap.size 0 k≠0->U k=lN I O.heap.size 0 k:=λk hk=>by
  rw [av];show (if aG ac=some k then 9 else _)=_;rw [if_neg λe=>hk (ay k e).1]
 have fL:=eR.zF bg;have bf:=(((k4.trans k7).trans en).trans b6).trans a8;have cp:Kp w0 w Z L U:=⟨bf.mod,λk hk=>by
  rw [av];show (if aG ac=some k then 9 else _)=_;rw [if_neg λe=>by have:=(ay k e).2;omega];exact bf.DG k hk⟩
 have cm:RO Z U ⟨q,l.length,d⟩ l:=((b6.trans a8).ro b').zF bg;have c1:R9 Z U ac:=⟨λk hk=>⟨by rw [av];show (if aG ac=some k then 9 else _)=9;rw [if_pos hk],dd.lt k hk⟩⟩
 have c3:=dd.vw;have co:(bk++l).length<=10000:=by rw [UH];omega
 generalize bk++l=m at c3 co ⊢;refine ⟨λv u z=>∃ (t:Nat) (L1:Nat->Nat),v=t/\t<=m.length/\z=m.length - t/\SR w0 u B L1 N {x with m:= {x.m with cf:=x.m.cf+1}}/\Kp w0 Z u U L1,⟨_,0,U,rfl,vx _,rfl,fL,Kp.refl⟩,?_⟩;rintro v u z _ ⟨t,L1,rfl,ht,rfl,SS,kk⟩;refine ah (λr=>?_) (λr=>?_)
 . have r:t<m.length:=by simp at r;omega
   refine (kk.vw c3 c1).ix 0 (by omega) rfl (by omega) λa ha=>⟨_,ha,_,rfl,_,ae SS.at rfl,(SS.TR _).mono ?_⟩
   rintro e gV ⟨hM,rfl,ej,fu,fT⟩;refine ⟨_,rfl,_,?_,t+1,ej,wN,by omega,rfl,fu,kk.trans fT⟩;omega
 clear r;refine ⟨_,rfl,_,ae SS.at rfl,SS.Td.mono ?_⟩;rintro e gS ⟨rfl,hK,fv,dc⟩;refine ⟨rfl,?_⟩;have bu:=(kk.trans dc).ro cm;refine (Ic fv (by show x.pr.length<=_;omega) bu.v rfl (by omega)).mono ?_;rintro e hE ⟨rfl,hg,aw,Q,fk,ce⟩;have cc:=ce.ro bu;have fh:imax 0 (bl:Int)=bl:=by unfold imax;split<;>omega
 rw [fh];refine ⟨rfl,(AJ fk g st.ci.v hN st.ph bl).mono ?_⟩;rintro e er ⟨rfl,gk,S',a_,bb,c7,ec,cb,dp⟩;have d6:=c7.ro cc;have eb:cB x.s bl=x.s.bW bl:=by
  unfold cB;have e1:(max 0 (bl:Int)).toNat=bl:=by omega
  rw [e1,if_pos Ls.lt]
 have bb:SR w0 er B gk N {x with m:= {x.m with cf:=x.m.cf+1},ps:=aw,pr:=x.pr++ [(false,Q,l)],s:=cB x.s bl,S:=S',ph:=a_}:=bb;have bv:Cv N (cB x.s bl) S':=zK g st.ci.v st.hi cb dp;rw [eb] at bb bv;have gb:=mj g Ls.lt;refine ⟨rfl,(OG bb gb f0 Si d6 bY lv (by show x.hv.length<=_;omega) (by show x.un.length<=_;omega)).mono ?_⟩;rintro e fa ⟨rfl,ez,s',hs,us,ap,f1,fi,ha⟩;have ha:lS (x.s.bW bl) l s':=ha;have X:=(st.own (m':= {x.m with cf:=x.m.cf+1}) ⟨rfl,rfl⟩).lrn (q:=aw) (sl2:=Q) (sl:=⟨q,l.length,d⟩) (hs:=hs) (us:=us) Ls Fl eT rfl ha fi ec bv ⟨eF,eH⟩ bY;have d5:=(((((cp.trans kk).trans dc).trans ce).trans c7).trans f1)
 have es:({x with m:= {x.m with cf:=x.m.cf+1},ps:=aw,pr:=x.pr++ [(false,Q,l)],s:=x.s.bW bl,S:=S',ph:=a_}:Xs).lrn s' ⟨q,l.length,d⟩ l lv hs us=({x with m:= {x.m with cf:=x.m.cf+1},ps:=aw,pr:=x.pr++ [(false,Q,l)],s:=x.s.bW bl,S:=S',ph:=a_}:Xs).lrn s' ⟨q,l.length,d⟩ l lv hs us:=rfl;obtain ⟨y,hy⟩: ∃y,y=({x with m:= {x.m with cf:=x.m.cf+1},ps:=aw,pr:=x.pr++ [(false,Q,l)],s:=x.s.bW bl,S:=S',ph:=a_}:Xs).lrn s' ⟨q,l.length,d⟩ l lv hs us:=⟨_,rfl⟩
 have ym:y.m= {x.m with cf:=x.m.cf+1}:=by rw [hy];exact SD
 have ys:y.s.nc=x.s.nc+1:=by rw [hy,P6];exact ha.n
 have yp:y.pr.length=x.pr.length+1:=by rw [hy,Rb];simp
 have yl:y.hv.length+y.un.length=x.hv.length+x.un.length+1/\y.hv.length<=x.hv.length+1:=by rw [hy];exact NX
 have ap:SR w0 fa B ez N y:=by rw [hy];exact ap
 have X:qk N cs y:=by rw [hy];exact X
 have yc:(y.hv.length=x.hv.length+1/\y.un=x.un)\/(y.hv.length=x.hv.length/\∃c:Us,c.2.length<=1/\y.un=x.un++ [c]):=by rw [hy];exact Qs
 have yr:∀β,AB x.s β->1<=β/\AB y.s (β - 1):=λβ hb=>by rw [hy,P6];exact hb.IU g st.ci.J3 hB Ls ha
 clear hy es;refine ⟨rfl,_,rfl,_,_,_,⟨bK ap.at rfl,bK ap.at rfl,bK ap.at rfl,trivial⟩,(Lu.JZ _ _ _ _).mono ?_⟩;rintro e hF ⟨rfl,dh⟩;refine ⟨_,_,_,_,rfl,_,rfl,?_⟩;have d9:=ap.grow dh;refine cz d9.at rfl rfl λhx eN ek=>?_;obtain ⟨a7,f'⟩:=d9.own (m':= {y.m with pu:=Lu.rC y.m.pu y.m.pa y.m.pl,pa:=Lu.nj y.m.pu y.m.pa y.m.pl,pl:=Lu.pW y.m.pu y.m.pa y.m.pl}) eN ek;have d':=X.own (m':= {y.m with pu:=Lu.rC y.m.pu y.m.pa y.m.pl,pa:=Lu.nj y.m.pu y.m.pa y.m.pl,pl:=Lu.pW y.m.pu y.m.pa y.m.pl}) ⟨rfl,rfl⟩;have bn:=(d5.trans (mI.grow dh)).trans f';have dT:(y.hv.length:Int)<Re.mM y.m.lrn 100:=by rw [ym];show (y.hv.length:Int)<Re.mM x.m.lrn 100;omega
 have bi:0<=y.m.dr/\y.m.dr<=1000000000:=by rw [ym];exact eK
 have dG:∀ {z J:Xs},Rl N z J->qk N cs J->z.m.cf=y.m.cf->z.m.de=y.m.de->(z.m.re=y.m.re\/z.m.re=y.m.re+1)->z.m.yJ=y.m.yJ->z.m.lrn=y.m.lrn->z.m.dU=y.m.dU->z.m.dr=y.m.dr->z.m.bZ=y.m.bZ->z.s.nc=y.s.nc->z.hv=y.hv->z.un=y.un->z.pr=y.pr->
  (z.m.pu=Lu.rC y.m.pu y.m.pa y.m.pl/\z.m.pa=Lu.nj y.m.pu y.m.pa y.m.pl/\z.m.pl=Lu.pW y.m.pu y.m.pa y.m.pl)->((Lu.nV y.m.pu y.m.pa y.m.pl=true/\z.s.R .be= [])\/(Lu.nV y.m.pu y.m.pa y.m.pl=false/\z.s=y.s))->Uk N x J:=by
  intro z J R sx e1 e2 e3 e4 e5 e6 e7 e8 e9 b7 fq eA b3 ax;have hw:=st.bZ;have aa:=R.hv;rw [b7,e8,e5,ym] at aa;have aa:(J.m.bZ=x.m.bZ/\J.hv.length=y.hv.length/\J.s=z.s/\¬F_ x.m.lrn x.m.bZ y.hv.length)\/(x.m.bZ<100/\J.m.bZ=x.m.bZ+1/\J.hv.length<=y.hv.length/\y.hv.length<=2*J.hv.length+1/\F_ x.m.lrn x.m.bZ y.hv.length/\J.s.R .be= []):=aa;have ea:=R.pc;rw [b3.1,b3.2.1,b3.2.2,ym] at ea;rw [ym] at ax;have ax:(Lu.nV x.m.pu x.m.pa x.m.pl=true/\z.s.R .be= [])\/(Lu.nV x.m.pu x.m.pa x.m.pl=false/\z.s=y.s):=ax;refine ⟨by rw [R.nc,e9,ys],by rw [R.cf,e1,ym],by rw [R.de,e2,ym],by rw [R.re];rw [ym] at e3;exact e3,by rw [R.yJ,e4,ym],by rw [R.lrn,e5,ym],by rw [R.dU,e6,ym],?_,?_,ea,⟨y.hv.length,?_,?_⟩,?_,?_⟩
  . have:=R.dr;rw [e7,b7,ym] at this;have:x.m.dr<=J.m.dr/\J.m.dr+J.hv.length=x.m.dr+y.hv.length:=this;omega
  . have:=R.pl;rw [eA,b7] at this;omega
  . rw [R.un,fq];exact yc
  . rcases aa with ⟨a,b,_,d⟩| ⟨a,b,c,d,f,_⟩
    . exact .inl ⟨a,b,d⟩
    . exact .inr ⟨a,b,c,d,f⟩
  . rintro (h|h)
    . rcases ax with ⟨_,e⟩| ⟨e,_⟩
      . exact R.bz e
      . rw [h] at e;cases e
    . rcases aa with ⟨a,_⟩| ⟨_,_,_,_,_,e⟩
      . omega
      . exact e
  . intro β hb;obtain ⟨b1,b2⟩:=yr β hb;refine ⟨b1,λha g0=>?_⟩;rcases ax with ⟨e,_⟩| ⟨_,e⟩
    . rw [ha] at e;cases e
    . rcases aa with ⟨_,_,c,_⟩| ⟨_,b,_⟩
      . rw [c,e];exact b2
      . omega
 refine ah (λb5=>?_) (λb5=>?_)
 . refine ⟨_,rfl,_,bK a7.at rfl,_,rfl,?_⟩;refine ju a7.at rfl rfl λhL ey e'=>?_;have fP:i64.wrap (y.m.re+1)=y.m.re+1:=by
    have:y.m.re=x.m.re:=by rw [ym]
    rw [aA (by omega) (by omega)]
   obtain ⟨fo,fs⟩:=a7.own (m':= {y.m with pu:=Lu.rC y.m.pu y.m.pa y.m.pl,pa:=Lu.nj y.m.pu y.m.pa y.m.pl,pl:=Lu.pW y.m.pu y.m.pa y.m.pl,re:=i64.wrap (y.m.re+1)}) ey e';have Y:=X.own (m':= {y.m with pu:=Lu.rC y.m.pu y.m.pa y.m.pl,pa:=Lu.nj y.m.pu y.m.pa y.m.pl,pl:=Lu.pW y.m.pu y.m.pa y.m.pl,re:=i64.wrap (y.m.re+1)}) ⟨rfl,rfl⟩;refine (AJ fo Y.ci.g Y.ci.v hN Y.ph 0).mono ?_;rintro e gy ⟨rfl,hj,hc,gm,fd,eL,d4,dq,cT⟩;have b9:=Y.cB d4 dq cT;refine ⟨rfl,PW fd b9 hN (by show y.hv.length<=_;omega) dT (by show y.pr.length<=_;omega) bi λw' L' J S' k' s' R=>?_⟩;exact ⟨rfl,L',J,S',((bn.trans fs).trans eL).trans k',s',dG R s' rfl rfl (.inr fP) rfl rfl rfl rfl rfl BS rfl rfl rfl ⟨rfl,rfl,rfl⟩ (.inl ⟨b5,ua⟩)⟩
 . refine PW a7 d' hN (by show y.hv.length<=_;omega) dT (by show y.pr.length<=_;omega) bi λw' L' J S' k' s' R=>?_;exact ⟨rfl,L',J,S',bn.trans k',s',dG R s' rfl rfl (.inl rfl) rfl rfl rfl rfl rfl rfl rfl rfl rfl ⟨rfl,rfl,rfl⟩ (.inr ⟨b5,rfl⟩)⟩
end
section
variable {w0 w w' w1 w2 u:World} {B N i:Nat} {L L' L1:Nat->Nat} {x:Xs} {l:List Int} {cs:List (List Int)} {hv:List (Nat × List Int)} {un:List (List Int)}
def rN (u l:Int):Bool:=decide (1<=u/\u<=1048576/\1<=l/\l<=1048576)
theorem JY (b u l:Int) (w:World):Calls prog og.id #[.agg #[.i b,.i u,.i l]] w λe w'=>e=.returned (.i (if rN u l then 0 else 1))/\ak w w':=by
 refine og.aj ?_;intro V w2 I;have R:∀ {r:Int},r=(if rN u l then 0 else 1)->Ending.returned (.i r)=.returned (.i (if rN u l then 0 else 1))/\ak w w2:=λe=>⟨by rw [e],I.mod⟩
 have F: ¬(1<=u/\u<=1048576/\1<=l/\l<=1048576)->(1:Int)=(if rN u l then 0 else 1):=λh=>by unfold rN;rw [decide_eq_false h];rfl
 refine ⟨_,ae I.has rfl,ah (λU=>R (F ?_)) (λU=>⟨_,ae I.has rfl,ah (λJ=>R (F ?_)) (λJ=>⟨_,ae I.has rfl,ah (λQ=>R (F ?_)) (λQ=>⟨_,ae I.has rfl,ah (λO=>R (F ?_)) (λO=>R ?_)⟩)⟩)⟩)⟩;all_goals simp only [decide_eq_true_eq,decide_eq_false_iff_not] at*
 all_goals first|omega|skip
 unfold rN;rw [decide_eq_true (by omega)];rfl
theorem SR.run (h:SR w0 w B L N x) (g:aN x.s):Calls prog gB.id #[ck x.pb] w λe w'=>∃r:Int,e=.returned (.i r)/\∃s' L',SR w0 w' B L' N {x with s:=s'}/\Kp w0 w w' L L'/\aN s'/\j7 x.s s'/\((r= -1/\d_ s')\/∃i:Nat,r=i/\yz s' i):=by
 obtain ⟨H,pm,hl⟩:=h.pm id;refine (Gh pm g).mono ?_;rintro e w' ⟨r,rfl,s',O,p,I,ex,J⟩;have:=h.wV hl pm.lt p;exact ⟨r,rfl,s',_,this.1,this.2,I,ex,J⟩
theorem qk.run (st:qk N cs x) {s':aI} (I:aN s') (e:j7 x.s s'):qk N cs {x with s:=s'}:=
 ⟨st.ci.run e I,st.hi.run st.ci e I,st.ph,st.n,st.Qj,st.bZ,st.pf.ext e,st.mo⟩
structure KP where
 D:Nat
 wB:Nat
 C:Nat
 u:Nat
 T:Nat
def KP.qI (K:KP) (N:Nat) (lrn:Int):Nat:=if 0<K.wB then QuP.quo lrn.toNat 0+ (2*N+2)+PotP.MA (QuP.quo lrn.toNat) (K.wB - 1) 0+ (K.D+K.C) else K.C
structure Sa (K:KP) (N:Nat) (lrn:Int):Prop where
 hu:1<=K.u/\K.u<=1048576
 hl:1<=lrn/\lrn<=1048576
 hN:2 ^ (N - 1)<=K.D
 hC:∀a l,1<=a->l<=K.u*Luby.jP a->∃n,PotP.Tl K.D K.u a l n/\n<=K.C
 hD:∀w,K.wB<=w->K.D<=QuP.quo lrn.toNat w - PotP.qp (QuP.quo lrn.toNat) w
 hq:K.T+1<QuP.quo lrn.toNat 100
 ht:K.qI N lrn<=K.T
def H8 (K:KP) (N:Nat) (lrn:Int) (x:Xs) (μ:Nat):Prop:=∃β r a l:Nat,AB x.s β/\x.m.pu=K.u/\x.m.pa=a/\x.m.pl=l/\(∀c∈x.un,c.2.length<=1)/\a<=x.s.nc+1/\
 PotP.TC K.D K.wB K.C K.u (2*N+2) (QuP.quo lrn.toNat) x.m.bZ.toNat x.hv.length x.un.length a l β r μ
theorem H8.new {K:KP} {lrn:Int} (ok:Sa K N lrn) (X:x.s.R .be= []) (hv:x.s.vars=N) (h1:x.m.pu=K.u) (V:x.m.pa=1) (Y:x.m.pl=K.u) (J:x.un= []) (O:x.hv= []) (Q:x.m.bZ=0):∃μ,H8 K N lrn x μ/\μ<=K.qI N lrn:=by
 have hu:=ok.hu;have hl:=ok.hl;have l1:Luby.jP 1=1:=by have:=Luby.kN 0;simpa using this
 have q0:QuP.quo lrn.toNat 0=lrn.toNat:=rfl;have hN:=ok.hN;have U:=VG (N - 1);have I:K.u<=K.u*Luby.jP 1:=by rw [l1];omega
 have Z:K.u*Luby.jP 1 - K.u=0:=by rw [l1];omega
 have mk:∀μ,((0<K.wB/\μ=(QuP.quo lrn.toNat 0 - 0)+ (2*N+2 - 0)+PotP.MA (QuP.quo lrn.toNat) (K.wB - 1 - 0) 0+ (K.D+K.C))\/
  (K.wB<=0/\0<=PotP.qp (QuP.quo lrn.toNat) 0+0/\((K.u*Luby.jP 1 - K.u<=0+K.D/\PotP.Tl K.D K.u 1 K.u μ/\μ<=K.C)\/(0+K.D<K.u*Luby.jP 1 - K.u/\μ=(K.D - 0)+K.C))))->H8 K N lrn x μ:=by
  intro μ hp;refine ⟨2 ^ (N - 1) - 1,0,1,K.u,AB.zero X hv,h1,V,Y,by rw [J];simp,by omega,?_⟩;rw [J,O,Q];exact ⟨hu.1,I,y4 _,by rw [Z];omega,by show 0<QuP.quo lrn.toNat 0;omega,hp⟩
 by_cases e:0<K.wB
 . refine ⟨_,mk _ (.inl ⟨e,rfl⟩),?_⟩;unfold KP.qI;rw [if_pos e];exact y4 _
 . obtain ⟨n,t,hn⟩:=ok.hC 1 K.u (y4 _) I;refine ⟨n,mk n (.inr ⟨by omega,vx _,.inl ⟨by omega,t,hn⟩⟩),?_⟩;unfold KP.qI;rw [if_neg e];exact hn
theorem zb {lrn bZ:Int} (h:1<=lrn/\lrn<=1048576) (I:0<=bZ/\bZ<=100):Re.mM lrn bZ=(QuP.quo lrn.toNat bZ.toNat:Nat):=by
 unfold Re.mM;rw [if_pos (by unfold Re.AS;exact decide_eq_true ⟨h.1,h.2,I.1,I.2⟩)]
theorem Ms {s:aI} (k:qR N cs s hv un) (h:∀c∈un,c.length<=1):un.length<=2*N+2:=by
 have J:=k.dn;rw [LV] at J;have J:=(VQ.1 J).2.1;have hs:=Vn J (l₂:=([]::(List.range (2*N+1)).map λ(j:Nat)=> [(j:Int) - N]).map λc=>wc c N) λy O=>by
  obtain ⟨c,I,rfl⟩:=L0.1 O;refine L0.2 ⟨c,?_,rfl⟩;have h1:=h c I
  match c,h1,I with
  | [],_,_=>exact UJ
  | [z],_,I=>
    obtain ⟨Q,U,V⟩:=(k.ok [z] (Vt _ I)).rO z (by simp);refine vy _ (L0.2 ⟨(z+N).toNat,Vj.2 (by omega),?_⟩);show [((z+N).toNat:Int) - N]= [z]
    rw [show ((z+N).toNat:Int) - N=z by omega]
  |_::_::_,h1,_=>simp at h1
 simpa using hs
theorem AB.mono {s:aI} {β γ:Nat} (h:AB s β) (e:β<=γ):AB s γ:=λu a b c=>UY (h u a b c) e
theorem H8.run {K:KP} {lrn:Int} {μ:Nat} (P:H8 K N lrn x μ) {s':aI} (e:j7 x.s s'):H8 K N lrn {x with s:=s'} μ:=by
 obtain ⟨β,r,a,l,rb,h1,I,O,J,h5,p⟩:=P;exact ⟨β,r,a,l,rb.run e,h1,I,O,J,by show a<=s'.nc+1;rw [e.n];exact h5,p⟩
theorem H8.vP {K:KP} {lrn:Int} {μ:Nat} (P:H8 K N lrn x μ) (g:aN x.s) (Q:d_ x.s) {v de:Int} {S':Int->Prop}:H8 K N lrn {x with s:=x.s.decide v,S:=S',m:= {x.m with de:=de}} μ:=by
 obtain ⟨β,r,a,l,rb,h1,I,O,J,h5,p⟩:=P;exact ⟨β,r,a,l,AB.decide (rb.dG g (.inl Q)),h1,I,O,J,h5,p⟩
theorem H8.IU {K:KP} {lrn:Int} {μ:Nat} {I:Xs} (ok:Sa K N lrn) (P:H8 K N lrn x μ) (hl:x.m.lrn=lrn) (aa:qk N cs I) (C:Uk N x I) (hw:0<=x.m.bZ/\x.m.bZ<=100) (bk:x.s.nc<=262143):∃μ',H8 K N lrn I μ'/\μ'+1<=μ:=by
 obtain ⟨β,r,a,l,rb,h1,h2,h3,h4,h5,p⟩:=P;obtain ⟨b1,b2⟩:=C.rb β rb;obtain ⟨u1,u2⟩:=ok.hu;have RU:Lu.Fo (K.u:Int) (a:Int) (l:Int):=by
  have:=p.l1;have:=p.a1;have h:=p.l2;refine ⟨by omega,by omega,by omega,by omega,by omega,?_⟩;rw [tn,<- XR];exact Int.ofNat_le.2 h
 obtain ⟨c1,c2,c3⟩:=C.pc;have bz:=C.bz;rw [h1,h2,h3] at c1 c2 c3 bz b2;unfold Lu.rC at c1;rw [if_pos RU] at c1;have av:(a:Int)≠1073741824:=by omega
 have ax:Lu.nV (K.u:Int) a l=decide (l=1):=by
  unfold Lu.nV;rw [decide_eq_true RU,VL];exact decide_eq_decide.2 (by omega)
 rw [ax] at bz b2;have Z:I.m.pa=((if 1<l then a else a+1:Nat):Int):=by
  rw [c2];unfold Lu.nj;rw [if_pos RU];by_cases e:1<l
  . rw [if_pos (by omega),if_pos e]
  . rw [if_neg (by omega),if_neg av,if_neg e];rfl
 have ar:I.m.pl=((if 1<l then l - 1 else K.u*Luby.jP (a+1):Nat):Int):=by
  rw [c3,show Lu.pW (K.u:Int) a l=if 1< (l:Int) then (l:Int) - 1 else (K.u:Int)* (Luby.jP (Lu.nj (K.u:Int) a l).toNat:Int) by unfold Lu.pW;rw [if_pos RU],<- c2,Z];by_cases e:1<l
  . rw [if_pos (by omega),if_pos e];omega
  . rw [if_neg (by omega),if_neg e,if_neg e,tn,XR]
 obtain ⟨V,ac,J⟩:=C.ch;have U:∀c∈I.un,c.2.length<=1:=by
  intro c O;rcases ac with ⟨_,e⟩| ⟨_,d,hd,e⟩
  . rw [e] at O;exact h4 c O
  . rw [e] at O;rcases F'.1 O with O|O
    . exact h4 c O
    . rw [Bs] at O;subst O;exact hd
 have hU:=Ms aa.ci (λc O=>by
  obtain ⟨d,hd,rfl⟩:=L0.1 O;exact U d hd)
 rw [UL] at hU;have enc:=C.nc;have bi:1<=K.D:=by have:=p.p2;omega
 rw [hl] at J;have Q:=zb ok.hl hw;have q1:∀w,1<=QuP.quo lrn.toNat w:=λw=>UY (by have:=ok.hl;show 1<=QuP.quo lrn.toNat 0;show 1<=lrn.toNat;omega) (QuP.yH _ 0 w (by omega));have qs:∀w,QuP.quo lrn.toNat w<QuP.quo lrn.toNat (w+1):=λw=>by show _<QuP.quo _ w+QuP.quo _ w / 10+1;omega
 have a':=q1 x.m.bZ.toNat;have A1:(decide (l=1)=true/\l=1/\(if 1<l then a else a+1)=a+1/\(if 1<l then l - 1 else K.u*Luby.jP (a+1))=K.u*Luby.jP (a+1))\/(decide (l=1)=false/\1<l/\(if 1<l then a else a+1)=a/\(if 1<l then l - 1 else K.u*Luby.jP (a+1))=l - 1):=by
  have:=p.l1;by_cases e:l=1
  . exact .inl ⟨decide_eq_true e,e,if_neg (by omega),if_neg (by omega)⟩
  . exact .inr ⟨decide_eq_false e,by omega,if_pos (by omega),if_pos (by omega)⟩
 have A2:(V=x.hv.length+1/\I.un.length=x.un.length)\/(V=x.hv.length/\I.un.length=x.un.length+1/\I.un.length<=2*N+2):=by
  rcases ac with ⟨Y,e⟩| ⟨Y,d,_,e⟩
  . exact .inl ⟨Y,by rw [e]⟩
  . exact .inr ⟨Y,by rw [e];simp,hU⟩
 have A3:(decide (I.m.bZ=x.m.bZ+1)=false/\I.m.bZ.toNat=x.m.bZ.toNat/\I.hv.length=V/\V<QuP.quo lrn.toNat x.m.bZ.toNat)\/(decide (I.m.bZ=x.m.bZ+1)=true/\I.m.bZ.toNat=x.m.bZ.toNat+1/\QuP.quo lrn.toNat x.m.bZ.toNat<=V/\I.hv.length<=V/\V<=2*I.hv.length+1):=by
  unfold F_ at J;rw [Q] at J;rcases J with ⟨Y,X,e3⟩| ⟨e0,Y,X,e3,e4⟩
  . exact .inl ⟨decide_eq_false (by omega),by rw [Y],X,by omega⟩
  . exact .inr ⟨decide_eq_true Y,by omega,by omega,X,e3⟩
 have A4:((decide (l=1)=true\/decide (I.m.bZ=x.m.bZ+1)=true)/\(if l=1\/I.m.bZ=x.m.bZ+1 then K.D - 1 else β - 1)+1=K.D)\/(decide (l=1)=false/\decide (I.m.bZ=x.m.bZ+1)=false/\(if l=1\/I.m.bZ=x.m.bZ+1 then K.D - 1 else β - 1)+1=β):=by
  by_cases e:l=1\/I.m.bZ=x.m.bZ+1
  . rw [if_pos e];exact .inl ⟨e.imp (λe=>decide_eq_true e) (λe=>decide_eq_true e),by omega⟩
  . rw [if_neg e];exact .inr ⟨decide_eq_false λh=>e (.inl h),decide_eq_false λh=>e (.inr h),by omega⟩
 obtain ⟨r',μ',p',m'⟩:=p.step u1 ok.hC ok.hD qs b1 A1 A2 A3 A4;refine ⟨μ',⟨_,r',_,_,?_,c1,Z,ar,U,?_,p'⟩,m'⟩
 . by_cases e:l=1\/I.m.bZ=x.m.bZ+1
   . rw [if_pos e];have hz:=bz (e.imp (λe=>decide_eq_true e) id);have hN:=ok.hN;exact (AB.zero hz aa.ci.v).mono (by omega)
   . rw [if_neg e];rcases J with ⟨X,_⟩| ⟨_,X,_⟩
     . exact b2 (decide_eq_false λh=>e (.inl h)) X
     . exact absurd (.inr X) e
 . split<;>omega
structure BM (K:KP) (w0 w:World) (B:Nat) (L:Nat->Nat) (N:Nat) (cs:List (List Int)) (yJ lrn:Int) (x:Xs) (μ:Nat):Prop where
 sr:SR w0 w B L N x
 st:qk N cs x
 Hi:x.m.lrn=lrn
 CR:x.m.yJ=yJ
 dU:x.m.dU=0
 cf:0<=x.m.cf/\x.m.cf<=x.s.nc/\(0<=yJ->x.m.cf<=yJ)
 de:0<=x.m.de/\x.m.de<=1000*x.m.cf+ (x.s.R .be).length
 re:0<=x.m.re/\x.m.re<=x.s.nc
 dr:0<=x.m.dr/\x.m.dr+x.hv.length<=x.s.nc
 pl:x.pr.length+x.hv.length+2*cs.length<=2*x.s.nc
 pt:H8 K N lrn x μ
 nc:x.s.nc+μ<=262143
 cn:x.s.nc+μ<=cs.length+K.T
 hb:x.hv.length+μ<=K.T
 u0:uB cs []->x.s.R .be= []/\x.pr= []/\x.s.nc=cs.length
def Iu (N μ:Nat) (x:Xs):Nat:=μ* (N+1)+ (N - (x.s.R .be).length)
theorem Km {s:aI} (k:qR N cs s hv un) (hN:N<=1000) (hc:d_ s) (ha:∀v:Int,1<=v->v<=N->s.val v≠0):(nC s N).length=N/\(∀y∈nC s N,y=1\/y= -1)/\∀c∈cs,∃l∈c,iz (nC s N) l=1:=by
 have hlen:(nC s N).length=N:=by simp [nC]
 have hb:=λv=>s.ri k.g.wf v;refine ⟨hlen,λy O=>?_,λc ag=>?_⟩
 . unfold nC at O;obtain ⟨j,hj,rfl⟩:=L0.1 O;have:=Vj.1 hj;have h1:=ha ((j:Int)+1) (by omega) (by omega);have h2:=hb ((j:Int)+1);omega
 . obtain ⟨j,hj,rfl⟩:=I'.1 ag;obtain ⟨h1,h2⟩:=k.fc j hj;have e2:cs.getD j []=cs[j]:=by simp [List.getD,hj]
   rw [e2] at h2;rcases hc j h1 with ⟨y,O,ht⟩| ⟨y,O,z,hz,_,v0,_⟩
   . rw [h2] at O;refine ⟨y,O,?_⟩;have I:=k.g.tv y ht;have Y:=(k.g.v1 y I).2 ht;rw [k.v] at I;obtain ⟨U,J,Q⟩:=I;have an:=dN.bh ⟨U,J,Q⟩;have Z:bU y=true:=yo (n:=N) (by omega) ⟨U,J,Q⟩;have ge:(nC s N).getD (bh y - 1).toNat 0=s.val (bh y):=by
      have h3:(bh y - 1).toNat<N:=by omega
      unfold nC;simp only [y6,Vx];rw [List.getElem?_range h3];show s.val (((bh y - 1).toNat:Int)+1)=_;rw [show ((bh y - 1).toNat:Int)+1=bh y by omega]
     unfold iz;rw [if_neg (by rw [Z,hlen];simp;omega),ge];by_cases e:y<0
     . have X:bh y= -y:=by unfold bh;rw [if_pos e]
       have V:s.val (-y)= -s.val y:=pq (n:=N) ⟨U,J,Q⟩;rw [X,V,Y,if_neg (by decide),decide_eq_false (by omega: ¬(-1:Int)>0),decide_eq_false (by omega: ¬y>0)];rfl
     . have X:bh y=y:=by unfold bh;rw [if_neg e]
       rw [X,Y,if_neg (by decide),decide_eq_true (by omega:(1:Int)>0),decide_eq_true (by omega:y>0)];rfl
   . have I:=k.g.cv j h1 y ((k.g.ca j h1 y).2 O);rw [k.v] at I;obtain ⟨U,J,Q⟩:=I;have hv:=ha (bh y) (by have:=dN.bh ⟨U,J,Q⟩;omega) (by have:=dN.bh ⟨U,J,Q⟩;omega);exfalso;by_cases e:y<0
     . have X:bh y= -y:=by unfold bh;rw [if_pos e]
       have V:s.val (-y)= -s.val y:=pq (n:=N) ⟨U,J,Q⟩;rw [X,V] at hv;omega
     . have X:bh y=y:=by unfold bh;rw [if_neg e]
       rw [X] at hv;omega
theorem GY {s:aI} (k:qR N cs s hv un) (Q:yz s i) (V:s.R .be= []):∀v,R5 N v->¬∀d∈cs,Dg v d:=by
 intro v m U;have key:∀x∈s.R .tr,v x=1:=k.g.wC (λx O=>by unfold aI.vP at O;rw [V] at O;simp at O) λc J l hl X _=>by
  obtain ⟨i,hi,rfl⟩:=J;obtain ⟨y,I,hv⟩:=k.imp i hi v m U;by_cases e:y=l
  . rw [<- e];exact hv
  . have:=X y I e;rw [m.neg,hv] at this;omega
 obtain ⟨y,I,hv⟩:=k.imp i Q.1 v m U;have:=key _ (Q.2 y I);rw [m.neg,hv] at this;omega
theorem Rh {s:aI} (k:qR N cs s hv un) (hn:s.nc=cs.length) (Q:s.R .be= []) (U:d_ s): ¬uB cs []:=by
 have:=CB (cs:=cs) (c:= []) (r:= -1) k.g (.inl ⟨rfl,U⟩) (λx=>⟨λI=>?_,λ⟨i,hi,e⟩=>?_⟩) rfl (λx I=>by simp at I) (λx I=>by unfold aI.vP at I;rw [Q] at I;simp at I)
 . intro h;have:=this.2 h;omega
 . obtain ⟨j,J,rfl⟩:=I'.1 I;obtain ⟨h1,O⟩:=k.fc j J;exact ⟨j,h1,by rw [O];simp [List.getD,J]⟩
 . have J:i<cs.length:=by have:=hi.1;omega
   obtain ⟨h1,O⟩:=k.fc i J;rw [<- e,O];simp [List.getD,J]
theorem OP {s:aI} {S:Int->Prop} (h:∀v,S v):Cv N s S:=λv _ _ _=>h v
theorem Pb {s:aI} (d:LM N cs s) (g:aN s):qR N cs s [] []:=by
 have fc:∀j,j<cs.length->s.aO j/\s.R (.a j)=cs.getD j []:=λj I=>⟨⟨by rw [d.n];exact I,d.g j I⟩,d.a j I⟩
 refine ⟨g,d.v,fc,λi hi v m O=>?_,by simp,by simp,by simp,λj I=>?_,by simp,by simp⟩
 . have J:i<cs.length:=by have:=hi.1;rw [d.n] at this;exact this
   rw [d.a i J];refine O _ ?_;simp [List.getD,J]
 . rw [d.be] at I;simp at I
end
section
variable {w0 w w' w1 w2 u:World} {B N i μ:Nat} {K:KP} {L L' L1:Nat->Nat} {x:Xs} {l:List Int} {cs:List (List Int)} {hv:List (Nat × List Int)} {un:List (List Int)}
def JB (z:Nat) (w':World) (N M:Nat) (cs:List (List Int)) (yJ:Int) (e:Ending):Prop:=
 ∃ (dU:Int) (mp:sn) (O U:Nat) (Q:sn) (I pc:Nat) (cf de re dr J:Int),e=.returned (.tuple #[.agg #[.i dU,.slice mp O U,.slice Q I pc,.i cf,.i de,.i re,.i dr],.i J])/\0<=cf/\0<=de/\0<=re/\0<=dr/\
   ((J=6/\dU=0/\O=0/\I=0/\0<=yJ/\cf=yJ)\/
    (J=0/\dU=1/\I=0/\(0<=yJ->cf<=yJ)/\∃mo:List Int,O=mo.length/\Vw sT w' mp mo/\(∀k,aG mp=some k->z<=k)/\mo.length=N/\(∀y∈mo,y=1\/y= -1)/\∀c∈cs,∃l∈c,iz mo l=1)\/
    (J=0/\dU=2/\O=0/\(0<=yJ->cf<=yJ)/\(∀v,R5 N v->¬∀d∈cs,Dg v d)/\∃pr:List Ps,I=pr.length/\Gl z w' Q pr/\PE cs N (pr.map ik)/\pr.length<=2*M+1/\I<=pc/\(uB cs []->pr.map ik= [(false,[])])))
theorem Rk (h:bT w B x.cells):aK w ((qw B).add 14) 0 [.i x.m.dU,x.ms.v,x.ps.v,.i x.m.cf,.i x.m.de,.i x.m.re,.i x.m.dr]:=
 ⟨bK h rfl,bK h rfl,bK h rfl,bK h rfl,bK h rfl,bK h rfl,bK h rfl,trivial⟩
theorem La {n5:Nat} (h:bT w B x.cells) (h5:bT w n5 #[.i 0,.slice none 0 0,.slice none 0 0,.i 0,.i 0,.i 0,.i 0]) {K:Value->World->Prop}
 (hk:∀w',aD (·=n5) w w'->K (.agg #[.i x.m.dU,.slice x.ms.p x.ms.n x.ms.c,.slice x.ps.p x.ps.n x.ps.c,.i x.m.cf,.i x.m.de,.i x.m.re,.i x.m.dr]) w'):
 ∃aw,(some (qw B))=some aw/\∃a7 ac Y O ap Z ag av ay ar az,aK w (aw.add 14) 0 [.i a7,.slice ac Y O,.slice ap Z ag,.i av,.i ay,.i ar,.i az]/\
   ∃J,bB (qw n5) 0 [.i a7,.slice ac Y O,.slice ap Z ag,.i av,.i ay,.i ar,.i az] w J/\
   ∃a8 aa an V U Q X a6 a' aT ax,aK J (qw n5) 0 [.i a8,.slice aa an V,.slice U Q X,.i a6,.i a',.i aT,.i ax]/\
   K (.agg #[.i a8,.slice aa an V,.slice U Q X,.i a6,.i a',.i aT,.i ax]) J:=by
 refine ⟨_,rfl,_,_,_,_,_,_,_,_,_,_,_,Rk h,?_⟩;refine bD h5 rfl rfl λJ I bb=>?_;have I:bT J n5 #[.i x.m.dU,x.ms.v,x.ps.v,.i x.m.cf,.i x.m.de,.i x.m.re,.i x.m.dr]:=I;exact ⟨_,_,_,_,_,_,_,_,_,_,_,⟨ae I rfl,ae I rfl,ae I rfl,ae I rfl,ae I rfl,ae I rfl,ae I rfl,trivial⟩,hk J bb⟩
theorem BM.T7 {b lrn:Int} (I:BM K w0 w B L N cs b lrn x μ):Calls prog gB.id #[ck x.pb] w λe w'=>∃r:Int,e=.returned (.i r)/\∃ (L':Nat->Nat) (J:Xs),BM K w0 w' B L' N cs b lrn J μ/\Kp w0 w w' L L'/\Iu N μ J=Iu N μ x/\((r= -1/\d_ J.s)\/∃i:Nat,r=i/\yz J.s i):=by
 refine (I.sr.run I.st.ci.g).mono ?_;rintro e Y ⟨X,rfl,s',O,U,Q,V,ex,Z⟩;refine ⟨_,rfl,O,{x with s:=s'},⟨U,I.st.run V ex,I.Hi,I.CR,I.dU,?_,?_,?_,?_,?_,I.pt.run ex,?_,?_,I.hb,λhu=>?_⟩,Q,?_,Z⟩
 . have:=I.cf;show 0<=x.m.cf/\x.m.cf<=s'.nc/\_;rw [ex.n];exact this
 . have:=I.de;show 0<=x.m.de/\x.m.de<=1000*x.m.cf+ (s'.R .be).length;rw [ex.be];exact this
 . have:=I.re;show 0<=x.m.re/\x.m.re<=s'.nc;rw [ex.n];exact this
 . have:=I.dr;show 0<=x.m.dr/\x.m.dr+x.hv.length<=s'.nc;rw [ex.n];exact this
 . have:=I.pl;show x.pr.length+x.hv.length+2*cs.length<=2*s'.nc;rw [ex.n];exact this
 . have:=I.nc;show s'.nc+μ<=262143;rw [ex.n];exact this
 . have:=I.cn;show s'.nc+μ<=_;rw [ex.n];exact this
 . obtain ⟨a,b,c⟩:=I.u0 hu;exact ⟨by show s'.R .be= [];rw [ex.be];exact a,b,by show s'.nc=_;rw [ex.n];exact c⟩
 . show μ* (N+1)+ (N - (s'.R .be).length)=_;rw [ex.be];rfl
theorem BM.Uh {b lrn:Int} (I:BM K w0 w B L N cs b lrn x μ) (hN:N<=1000) (O:d_ x.s):Calls prog dH.id #[ck B] w λe w'=>∃r:Bool,e=.returned (.bool r)/\∃ (L':Nat->Nat) (Y:Xs),BM K w0 w' B L' N cs b lrn Y μ/\Kp w0 w w' L L'/\((r=false/\d_ Y.s/\∀v:Int,1<=v->v<=N->Y.s.val v≠0)\/(r=true/\Iu N μ Y<Iu N μ x)):=by
 refine (FU I.sr I.st.ci.g I.st.ci.v hN I.st.ph I.st.hi).mono ?_;rintro e ap ⟨aw,rfl,U,S',X,hd⟩;rcases hd with ⟨rfl,ha,Q⟩| ⟨rfl,v,hv,h0,hi,Q⟩
 . exact ⟨_,rfl,U,{x with S:=S'},⟨Q,⟨I.st.ci,λv v1 v2 h0=>absurd h0 (ha v v1 v2),I.st.ph,I.st.n,I.st.Qj,I.st.bZ,I.st.pf,I.st.mo⟩,I.Hi,I.CR,I.dU,I.cf,I.de,I.re,I.dr,I.pl,I.pt,I.nc,I.cn,I.hb,I.u0⟩,X,.inl ⟨rfl,O,ha⟩⟩
 . have hv':dN x.s.vars v:=by rw [I.st.ci.v];exact hv
   have J:=I.st.ci.decide O hv' h0;have enc:(x.s.decide v).nc=x.s.nc:=rfl;obtain ⟨d1,d2⟩:=I.de;obtain ⟨c1,c2,c3⟩:=I.cf;have V:=I.nc;have Z:((x.s.decide v).R .be).length=(x.s.R .be).length+1:=by rw [sK];simp
   have ag:((x.s.decide v).R .be).length<=N:=by have:=J.g.P_;have:=J.g.Ck;have:=J.v;omega
   have e1:i64.wrap (x.m.de+1)=x.m.de+1:=aA (by omega) (by omega);refine ⟨_,rfl,U,{x with s:=x.s.decide v,S:=S',m:= {x.m with de:=i64.wrap (x.m.de+1)}},⟨Q,⟨J,hi,I.st.ph,I.st.n,I.st.Qj,I.st.bZ,I.st.pf.decide,I.st.mo⟩,I.Hi,I.CR,I.dU,?_,?_,?_,?_,?_,I.pt.vP I.st.ci.g O,?_,I.cn,I.hb,λhu=>absurd hu (Rh I.st.ci (I.u0 hu).2.2 (I.u0 hu).1 O)⟩,X,.inr ⟨rfl,?_⟩⟩
   . show 0<=x.m.cf/\x.m.cf<=(x.s.decide v).nc/\(0<=b->x.m.cf<=b)
     rw [enc];exact ⟨c1,c2,c3⟩
   . show 0<=i64.wrap (x.m.de+1)/\i64.wrap (x.m.de+1)<=1000*x.m.cf+ (((x.s.decide v).R .be).length:Int)
     rw [e1,Z];omega
   . show 0<=x.m.re/\x.m.re<=(x.s.decide v).nc;rw [enc];exact I.re
   . show 0<=x.m.dr/\x.m.dr+x.hv.length<=(x.s.decide v).nc;rw [enc];exact I.dr
   . show x.pr.length+x.hv.length+2*cs.length<=2* (x.s.decide v).nc;rw [enc];exact I.pl
   . show (x.s.decide v).nc+μ<=262143;rw [enc];exact V
   . show μ* (N+1)+ (N - ((x.s.decide v).R .be).length)<μ* (N+1)+ (N - (x.s.R .be).length)
     exact Nat.add_lt_add_left (by omega) _
theorem BM.drew {b lrn:Int} (I:BM K w0 w B L N cs b lrn x μ):BM K w0 w.drew B L N cs b lrn x μ:=⟨I.sr.drew,I.st,I.Hi,I.CR,I.dU,I.cf,I.de,I.re,I.dr,I.pl,I.pt,I.nc,I.cn,I.hb,I.u0⟩
theorem BM.Ta {b lrn:Int} (ok:Sa K N lrn) (J:BM K w0 w B L N cs b lrn x μ) (hN:N<=1000) (hB:yz x.s i) (r:0< (x.s.R .be).length) (U:0<=b->x.m.cf<b):
 Calls prog cM.id #[ck B,.i i] w λe w'=>e=.returned (.tuple #[])/\∃ (L':Nat->Nat) (x':Xs) (V:Nat),BM K w0 w' B L' N cs b lrn x' V/\Kp w0 w w' L L'/\Iu N V x'<Iu N μ x:=by
 obtain ⟨c1,c2,c3⟩:=J.cf;have ag:=J.re;have an:=J.pl;have bc:=J.dr;have Z:=J.nc;have ay:=J.de;have av:=J.hb;have a_:=J.cn;have gJ:=J.st.ci.g;have aT:x.un.length<=2*N+2:=by
  obtain ⟨_,_,_,_,_,_,_,_,h4,_⟩:=J.pt;have:=Ms J.st.ci λc hc=>by
   obtain ⟨d,hd,rfl⟩:=L0.1 hc;exact h4 d hd
  rwa [UL] at this
 have hq:((x.hv.length+1:Nat):Int)<Re.mM lrn 100:=by
  rw [zb ok.hl (by omega)];have:=ok.hq;have:x.hv.length+1<QuP.quo lrn.toNat 100:=by omega
  exact Int.ofNat_lt.2 this
 have I:=J.st.bZ;refine (Ez J.sr J.st hN ⟨by omega,by omega⟩ (by rw [J.Hi];exact hq) hB r (by omega) (by omega) (by omega) (by omega) (by omega)).mono ?_;rintro e Y ⟨rfl,L2,X,S2,k2,Q,C⟩;obtain ⟨V,P',m'⟩:=J.pt.IU ok J.Hi Q C I (by omega);refine ⟨rfl,L2,X,V,⟨S2,Q,by rw [C.lrn];exact J.Hi,by rw [C.yJ];exact J.CR,by rw [C.dU];exact J.dU,?_,?_,?_,?_,?_,P',?_,?_,?_,λhu=>absurd (J.u0 hu).1 (λe=>by rw [e] at r;exact absurd r (by decide))⟩,k2,?_⟩
 . have h1:=C.nc;have O:=C.cf;rw [O];refine ⟨by omega,by omega,λhb=>by have:=U hb;omega⟩
 . have h1:=C.de;have O:=C.cf;have ar:(x.s.R .be).length<=1000:=by have:=gJ.P_;have:=gJ.Ck;have:=J.st.ci.v;omega
   rw [h1,O];omega
 . have h1:=C.nc;have O:=C.re;omega
 . have h1:=C.nc;have O:=C.dr;omega
 . have h1:=C.nc;have O:=C.pl;omega
 . have h1:=C.nc;omega
 . have h1:=C.nc;omega
 . obtain ⟨h1,e1,e2⟩:=C.ch;have:h1<=x.hv.length+1:=by omega
   have:X.hv.length<=h1:=by omega
   omega
 . unfold Iu;have O:(N - (X.s.R .be).length)<=N:=Nat.sub_le _ _;have h3:(V+1)* (N+1)<=μ* (N+1):=Vm _ m';rw [XV] at h3;omega
theorem O0 {b lrn:Int} {z:Nat} (U:z<=w0.heap.size) {O:Nat} {q:Sl} (J:BM K w0 w1 B L1 N cs b lrn x μ) (hN:N<=1000) (I:d_ x.s) (ha:∀v:Int,1<=v->v<=N->x.s.val v≠0) (S:SR w0 w B L N {x with m:= {x.m with dU:=1},ps:=Sl.nil,pr:= [],ms:=q,mo:=nC x.s N}) (h5:O<w0.heap.size) (m:aD (·=O) w w'):
 JB z w' N K.T cs b (.returned (.tuple #[.agg #[.i 1,.slice q.p q.n q.c,.slice none 0 0,.i x.m.cf,.i x.m.de,.i x.m.re,.i x.m.dr],.i 0])):=by
 obtain ⟨d1,d2,d3⟩:=Km J.st.ci hN I ha;obtain ⟨o1,o2,o3⟩:=S.mo id;have o2:q.n=(nC x.s N).length:=o2;have o1:dz aq w q.p q.c (nC x.s N):=o1;refine ⟨_,_,_,_,_,_,_,_,_,_,_,_,rfl,J.cf.1,J.de.1,J.re.1,J.dr.1,.inr (.inl ⟨rfl,rfl,rfl,J.cf.2.2,nC x.s N,o2,o1.vw.keep m λk Q (e:k=O)=>?_,λk Q=>UY U (o3 k Q).2,d1,d2,d3⟩)⟩;have h1:=(o3 k Q).2;omega
theorem Jl {b lrn:Int} {z:Nat} (hz:z<=w0.heap.size) {Q:Nat} {q sl:Sl} (J:BM K w0 w1 B L1 N cs b lrn x μ) (Y:yz x.s i) (Z:x.s.R .be= []) (S:SR w0 w B L N {x with m:= {x.m with dU:=2},ps:=q,pr:=x.pr++ [(false,sl,[])]}) (h5:Q<w0.heap.size) (hL:∀j,j<w0.heap.size->L j=4) (m:aD (·=Q) w w'):
 JB z w' N K.T cs b (.returned (.tuple #[.agg #[.i 2,.slice x.ms.p x.ms.n x.ms.c,.slice q.p q.n q.c,.i x.m.cf,.i x.m.de,.i x.m.re,.i x.m.dr],.i 0])):=by
 obtain ⟨o1,o2,o3⟩:=S.mo id;obtain ⟨I,p2,X⟩:=S.pr id;have p2:q.n=(x.pr++ [(false,sl,[])]).length:=p2;have I:Row 2 Rz kD w q.p q.c (x.pr++ [(false,sl,[])]):=I;have o2:x.ms.n=x.mo.length:=o2;have fr:∀j,w0.heap.size<=j->z<=j/\j≠Q:=λj O=>by omega
 have f9:∀j,L j=9->w0.heap.size<=j:=λj h=>Nat.le_of_not_lt λV=>by rw [hL j V] at h;exact absurd h (by decide)
 refine ⟨_,_,_,_,_,_,_,_,_,_,_,_,rfl,J.cf.1,J.de.1,J.re.1,J.dr.1,.inr (.inr ⟨rfl,rfl,by rw [o2,J.st.mo];rfl,J.cf.2.2,GY J.st.ci Y Z,x.pr++ [(false,sl,[])],p2,⟨(I.vr Kl).keep m λk U=> (fr k (X k U).2).2,λv hv=>?_,λ_ j O=> (fr j (X j O).2).1,λv hv j O=> (fr j (f9 j ((S.rr id v hv).l j O).1)).1⟩,?_⟩)⟩
 . have ro:=S.rr id v hv;exact ⟨ro.n,ro.v.keep m λk U=> (fr k (f9 k (ro.l k U).1)).2⟩
 . rw [LV];have:=PF.dG J.st.pf J.st.ci.g Y Z;rw [J.st.ci.v] at this;have h1:=J.pl;have h2:=J.cn;have h3:=I.cap;rw [UH,Va] at h3 p2 ⊢;exact ⟨this,by omega,by omega,λhu=>by rw [(J.u0 hu).2.1];rfl⟩
theorem Kt {b uni lrn:Int} {q:sn} {m d I pb hb n49:Nat} {s:aI} {H:Pt->Sl} {z:Hp.HS} (G:ak w0 w) (Z:I=w0.heap.size+1) (hN:N<=1000)
 (h:bT w I (Xs.cells {m:=⟨N,⟨q,m,d⟩,b,uni,lrn,uni,1,uni,0,0,0,0,0,0⟩,pb:=pb,hb:=hb,HI:=⟨some ⟨w0.heap.size,0,none⟩,N+1,N+1⟩,hs:=Sl.nil,us:=Sl.nil,ps:=Sl.nil,ms:=Sl.nil,s:=s,S:=λ_=>True,ph:=List.replicate (N+1) 0,hv:= [],un:= [],pr:= [],mo:= []}))
 (pm:PM w pb H s) (U:∀y k,own pb H y=some k->I<k/\k<n49) (hr:Hp.cN w hb z) (hf:Hp.zB z N N) (O:∀k,z.cq hb k->n49<=k) (hn:I<n49) (o:dz aq w (some ⟨w0.heap.size,0,none⟩) (N+1) (List.replicate (N+1) 0)) (Y:aN s) (nd:LM N cs s) (ok:Sa K N lrn) (Q:uni=K.u) (X:cs.length+K.T<=262143):
 ∃μ,BM K w0 w I (λk=>if k<I then 4 else if k=I then 1 else if k<n49 then 2 else 3) N cs b lrn {m:=⟨N,⟨q,m,d⟩,b,uni,lrn,uni,1,uni,0,0,0,0,0,0⟩,pb:=pb,hb:=hb,HI:=⟨some ⟨w0.heap.size,0,none⟩,N+1,N+1⟩,hs:=Sl.nil,us:=Sl.nil,ps:=Sl.nil,ms:=Sl.nil,s:=s,S:=λ_=>True,ph:=List.replicate (N+1) 0,hv:= [],un:= [],pr:= [],mo:= []} μ:=by
 obtain ⟨μ,P,hμ⟩:=H8.new (x:= {m:=⟨N,⟨q,m,d⟩,b,uni,lrn,uni,1,uni,0,0,0,0,0,0⟩,pb:=pb,hb:=hb,HI:=⟨some ⟨w0.heap.size,0,none⟩,N+1,N+1⟩,hs:=Sl.nil,us:=Sl.nil,ps:=Sl.nil,ms:=Sl.nil,s:=s,S:=λ_=>True,ph:=List.replicate (N+1) 0,hv:= [],un:= [],pr:= [],mo:= []}) ok nd.be nd.v Q rfl Q rfl rfl rfl;have hT:=ok.ht;refine ⟨μ,?_⟩;have nn:∀k,aG (none:sn)≠some k:=λk J=>by simp [aG] at J
 have hl:=h.lt;have V:=nd.n;refine ⟨⟨G,λ_=>h,⟨?_,by omega,hl⟩,λ_=>⟨H,pm,λy k J=>⟨?_,?_⟩⟩,λ_=>⟨z,hr,hf.T6 (by omega),λv v1 v2=>?_,λk J=>⟨?_,?_⟩⟩,λ_=>⟨o,by simp,λk J=>?_⟩,λ_=>⟨Row.nil _ _ _ _,rfl,λk J=>absurd J (nn k)⟩,λ_ u hu=>by simp at hu,λ_=>⟨Ow.nil _ _ _,rfl,λk J=>absurd J (nn k)⟩,λ_ u hu=>by simp at hu,λ_=>⟨Row.nil _ _ _ _,rfl,λk J=>absurd J (nn k)⟩,λ_ u hu=>by simp at hu,λ_=>⟨Ow.nil _ _ _,rfl,λk J=>absurd J (nn k)⟩⟩,
  ⟨Pb nd Y,OP λ_=>trivial,by simp,rfl,by simp,⟨U3 _,by show (0:Int)<=100;decide⟩,PF.new nd,rfl⟩,rfl,rfl,rfl,⟨U3 _,by show (0:Int)<=(s.nc:Int);omega,λh=>h⟩,⟨U3 _,by show (0:Int)<=1000*0+ ((s.R .be).length:Int);omega⟩,⟨U3 _,by show (0:Int)<=(s.nc:Int);omega⟩,⟨U3 _,by show (0:Int)+ ((0:Nat):Int)<=(s.nc:Int);omega⟩,by show 0+0+2*cs.length<=2*s.nc;omega,P,?_,by show s.nc+μ<=_;omega,by show 0+μ<=_;omega,λ_=>⟨nd.be,rfl,nd.n⟩⟩
 . show (if I<I then 4 else if I=I then 1 else _)=1;rw [if_neg (by omega),if_pos rfl]
 . have h1:=U y k J;show (if k<I then 4 else if k=I then 1 else if k<n49 then 2 else 3)=2;rw [if_neg (by omega),if_neg (by omega),if_pos (by omega)]
 . have h1:=U y k J;omega
 . rw [hf.au v (by omega) (by omega),if_pos v2];exact ⟨λ_=>trivial,λ_=>by omega⟩
 . have h1:=O k J;show (if k<I then 4 else if k=I then 1 else if k<n49 then 2 else 3)=3;rw [if_neg (by omega),if_neg (by omega),if_neg (by omega)]
 . have h1:=O k J;omega
 . have h1:=aL J;subst h1;refine ⟨?_,y4 _⟩;show (if w0.heap.size<I then 4 else _)=4;rw [if_pos (by omega)]
 . show s.nc+μ<=_;omega
theorem E2 {k b uni lrn:Int} {q:sn} {m d:Nat} {hs:List Sl} (hc:V2 sT w q hs cs) (hm:m=cs.length) (dk:cQ k cs=true) (ac:rN uni lrn=true) (U:k=N) (hN:N<=1000) (ok:Sa K N lrn) (hK:uni=K.u) (ep:cs.length+K.T<=262143):
 Calls prog kA.id #[.agg #[.i k,.slice q m d],.agg #[.i b,.i uni,.i lrn]] w λe w'=>JB w.heap.size w' N K.T cs b e/\ak w w':=by
 subst U;refine kA.aj ?_;intro n1 w2 h2 n3 w4 h4 n5 w6 h6;have G6:=(h2.mod.trans h4.mod).trans h6.mod;have A1:=(h2.has.grow h4.mod).grow h6.mod;have A3:=h4.has.grow h6.mod;have e1:=h2.num;have e3:=h4.num;have e5:=h6.num;have s2:=h2.size;have s4:=h4.size;have s6:=h6.size;refine ⟨_,_,_,_,⟨ae A1 rfl,ae A1 rfl,trivial⟩,(fS (hc.grow G6) hm).mono ?_⟩;rintro e w9 ⟨rfl,g9⟩;rw [dk];refine ⟨_,rfl,bA rfl ⟨_,_,_,⟨ae (A3.grow g9) rfl,ae (A3.grow g9) rfl,ae (A3.grow g9) rfl,trivial⟩,(JY _ _ _ _).mono ?_⟩⟩;rintro e a7 ⟨rfl,ek⟩;rw [ac];have gd:ak a7 a7.drew:=(aD.refl a7).drew;have X:=(g9.trans ek).trans gd;have V0:=(hc.grow G6).grow X;have B1:=A1.grow X;have B3:=A3.grow X;have B5:=h6.has.grow X;have ew:=X.size;obtain ⟨w0,c3⟩: ∃w0,w0=a7.drew:=⟨_,rfl⟩
 have Gw:ak w w0:=by rw [c3];exact G6.trans X
 try dsimp only
 rw [<- c3] at B1 B3 B5 V0 ew ⊢;refine ⟨_,rfl,bA rfl ⟨ak w0,aD.refl _,_,_,_,_,λv gv=>⟨ae (B1.grow gv) rfl,ae (B1.grow gv) rfl,trivial⟩,_,_,_,λv gv=>⟨ae (B3.grow gv) rfl,ae (B3.grow gv) rfl,ae (B3.grow gv) rfl,trivial⟩,_,λv gv=>ae (B1.grow gv) rfl,?_⟩⟩;have e0:i64.wrap ((N:Int)+1)=((N+1:Nat):Int):=by rw [aA (by omega) (by omega)];omega
 try dsimp only
 rw [e0];refine rZ xX Re.jx (x:=(0:Int)) rfl (N+1) rfl (by omega) λgm ef dh z39=>⟨dh,λO gg Y=>?_⟩
 have fP:=Y.num;have fT:=Y.size;have a6:=dh.trans Y.mod;refine ⟨_,_,_,_,⟨ae (B1.grow a6) rfl,ae (B1.grow a6) rfl,trivial⟩,(z_ (V0.grow a6) hm).mono ?_⟩;rintro e gf (⟨cm,_,_⟩| ⟨_,pb,s,H,rfl,pm,gs,nd,a_,hH⟩)
 . rw [dk] at cm;exact absurd cm (by decide)
 rw [tn] at nd;have gl:=a_.size;have ga:=Y.has.lt;refine ⟨_,_,rfl,_,rfl,?_⟩;refine cz (Y.has.grow a_) rfl rfl λdu c2 aT=>?_;have fk:=aT.size;have a':=pm.keep aT λy k U (e:k=O)=>by have:=hH y k U;omega
 have c0:ak w0 du:=(a6.trans a_).then aT λk U e=>by omega
 refine ⟨_,ae (B1.grow c0) rfl,(Hp.z_ N (by omega)).mono ?_⟩;rintro e fj ⟨hb,z,rfl,hr,hf,bx,av⟩;have e2:=av.size;refine ⟨_,_,rfl,_,rfl,?_⟩;refine cz (c2.grow av) rfl rfl λeg dT aw=>?_;have e':=aw.size;have bn:=(a'.grow av).keep aw λy k U (e:k=O)=>by have:=hH y k U;omega
 have bi:=hr.keep aw λk U (e:k=O)=>by have:=bx k U;omega
 have b_:ak w0 eg:=(c0.trans av).then aw λk U e=>by omega
 refine ⟨_,ae (B3.grow b_) rfl,(Lu.Hg _ _).mono ?_⟩;rintro e fo ⟨rfl,Z⟩;have fl:=Z.size;have er:1<=uni/\uni<=1048576:=by
  unfold rN at ac;simp only [decide_eq_true_eq] at ac;omega
 rw [if_pos er];refine ⟨_,_,_,_,rfl,_,rfl,?_⟩;refine cz (dT.grow Z) rfl rfl λb7 cT ax=>?_;have bc:=(bn.grow Z).keep ax λy k U (e:k=O)=>by have:=hH y k U;omega
 have bk:=(bi.grow Z).keep ax λk U (e:k=O)=>by have:=bx k U;omega
 have ed:ak w0 b7:=(b_.trans Z).then ax λk U e=>by omega
 have gb:=ax.size;have dq:dz aq b7 (some ⟨w0.heap.size,0,none⟩) (N+1) (List.replicate (N+1) 0):=((((((ef.grow Y.mod).grow a_).keep aT λk U (e:k=O)=>by have:=aL U;omega).grow av).keep aw λk U (e:k=O)=>by have:=aL U;omega).grow Z).keep ax λk U (e:k=O)=>by have:=aL U;omega
 obtain ⟨μ0,cb⟩:=Kt (cs:=cs) (b:=b) (lrn:=lrn) (n49:=du.heap.size) ed (by omega) hN cT bc (λy k U=>by have:=hH y k U;have:=pm.lt y k U;omega) bk hf bx (by omega) dq gs nd ok hK ep;clear cT bc bk dq dT bn bi c2 a' hr hf;refine ⟨λu z=>∃ (L:Nat->Nat) (x:Xs) (μ:Nat),BM K w0 u O L N cs b lrn x μ/\(∀j,j<w0.heap.size->L j=4)/\z=Iu N μ x,⟨_,_,_,_,cb,λj hj=>by show (if j<O then 4 else _)=4;rw [if_pos (by omega)],rfl⟩,?_⟩;clear cb;have l5:n5<w0.heap.size:=B5.lt;rintro f1 fu _ ⟨L,x,μ,I,el,rfl⟩;have lb:∀ {u v:World} {L1 L2:Nat->Nat},ak w0 u->Kp w0 u v L1 L2->(∀j,j<w0.heap.size->L1 j=4)->(∀j,j<w0.heap.size->L2 j=4):=λgu k h j hj=>by rw [k.DG j (VD hj gu.size)];exact h j hj
 have gW:∀ {u v:World} {L2:Nat->Nat} {y:Xs},SR w0 u O L2 N y->aD (·=n5) u v->ak w v:=λS m=>aD.cW (Gw.trans S.g) m (by omega);refine ⟨_,rfl,_,ae I.sr.at rfl,I.T7.mono ?_⟩;rintro e fh ⟨ag,rfl,ea,es,az,eb,ej,hh⟩;have ar:=lb I.sr.g eb el;refine ⟨_,rfl,λv u=> (v=true/\ag<0/\∃L1 Q μ1,BM K w0 u O L1 N cs b lrn Q μ1/\(∀j,j<w0.heap.size->L1 j=4)/\d_ Q.s/\∀v:Int,1<=v->v<=N->Q.s.val v≠0)\/(v=false/\ag<0/\∃L1 Q μ1,BM K w0 u O L1 N cs b lrn Q μ1/\(∀j,j<w0.heap.size->L1 j=4)/\Iu N μ1 Q<Iu N μ x)\/(v=false/\∃ (L1:Nat->Nat) (Q:Xs) (μ1 i:Nat),BM K w0 u O L1 N cs b lrn Q μ1/\(∀j,j<w0.heap.size->L1 j=4)/\Iu N μ1 Q=Iu N μ x/\ag=i/\yz Q.s i),?_,?_⟩
 . refine ah (λr=>?_) (λr=>?_)
   . have r:ag<0:=by simpa using r
     have b3:d_ es.s:=by
      rcases hh with ⟨_,c⟩| ⟨i,e,_⟩
      . exact c
      . omega
     refine (az.Uh hN b3).mono ?_;rintro e gk ⟨fd,rfl,b8,b9,b6,cc,hd⟩;refine ⟨_,rfl,?_⟩;rcases hd with ⟨rfl,ec,ha⟩| ⟨rfl,bv⟩
     . exact .inl ⟨rfl,r,b8,b9,_,b6,lb az.sr.g cc ar,ec,ha⟩
     . exact .inr (.inl ⟨rfl,r,b8,b9,_,b6,lb az.sr.g cc ar,by omega⟩)
   . have r: ¬ag<0:=by simpa using r
     rcases hh with ⟨e,_⟩| ⟨i,e,hB⟩
     . omega
     . exact .inr (.inr ⟨rfl,ea,_,_,i,az,ar,ej,e,hB⟩)
 . rintro f' e7 _ (⟨rfl,_,L1,Q,μ1,J,ap,b3,ha⟩| ⟨rfl,r,L1,Q,μ1,J,ap,bv⟩| ⟨rfl,L1,Q,μ1,i,J,ap,fi,rfl,hB⟩)
   . refine bP rfl ((N6 J.sr J.st.ci.g J.st.ci.v hN J.st.n J.st.mo).mono ?_);rintro e gp ⟨rfl,fL,fb,a8,f0⟩;exact ⟨rfl,La (K:=λv w'=>JB w.heap.size w' N K.T cs b (.returned (.tuple #[v,.i 0]))/\ak w w') a8.at (B5.grow a8.g) λw' m'=>⟨O0 (x:=Q) Gw.size J hN b3 ha a8 l5 m',gW a8 m'⟩⟩
   . exact bA rfl (bP (by simpa using r) ⟨_,bv,L1,Q,_,J,ap,rfl⟩)
   . obtain ⟨H1,en,_⟩:=J.sr.pm id;refine bA rfl (bA (by simp) ⟨_,rfl,_,ae J.sr.at rfl,(JI en).mono ?_⟩);rintro e eu ⟨rfl,rfl⟩;refine ⟨_,rfl,ah (λr=>?_) (λr=>?_)⟩
     . have r:(Q.s.R .be).length=0:=by simpa using r
       have r:Q.s.R .be= []:=UF r;have e6:=J.pl;have eA:=J.nc;refine (Ic J.sr (by omega) (l:= []) (p:=none) (n:=0) (c:=0) Vw.nil rfl (by omega)).mono ?_;rintro e fm ⟨rfl,fa,fq,eK,bu,d'⟩;refine ⟨rfl,_,rfl,?_⟩;refine ju bu.at rfl rfl λeR c1 cp=>?_;obtain ⟨V,c7⟩:=bu.own (m':= {Q.m with dU:=2}) c1 cp;exact La (K:=λv w'=>JB w.heap.size w' N K.T cs b (.returned (.tuple #[v,.i 0]))/\ak w w') V.at (B5.grow V.g) λw' m'=>⟨Jl (x:=Q) Gw.size J hB r V l5 (lb bu.g c7 (lb J.sr.g d' ap)) m',gW V m'⟩
     . have r:0< (Q.s.R .be).length:=by
        rcases UZ (Q.s.R .be).length with e|e
        . rw [e] at r;simp at r
        . exact e
       have D:=J.drew;have CR:=J.CR;have IU:(0<=b->Q.m.cf<b)->Calls prog cM.id #[.pointer (some (qw O)),.i i] eu.drew λe bf=>e=.returned (.tuple #[])/\∃b',b'<Iu N μ x/\∃ (L:Nat->Nat) (x:Xs) (μ:Nat),BM K w0 bf O L N cs b lrn x μ/\(∀j,j<w0.heap.size->L j=4)/\b'=Iu N μ x:=by
        intro cg;refine (D.Ta ok hN hB r cg).mono ?_;rintro e bf ⟨rfl,L2,x2,μ2,I2,k2,bv⟩;exact ⟨rfl,_,by omega,L2,x2,μ2,I2,lb D.sr.g k2 ap,rfl⟩
       refine ⟨_,rfl,_,bK D.sr.at rfl,?_⟩;rw [CR];refine ah (λrb=>?_) (λrb=>?_)
       . have rb:0<=b:=by simpa using rb
         refine ⟨_,rfl,_,bK D.sr.at rfl,_,rfl,_,bK D.sr.at rfl,?_⟩;rw [CR];refine ah (λrc=>?_) (λrc=>?_)
         . have rc:b<=Q.m.cf:=by simpa using rc
           refine ⟨_,rfl,?_⟩;refine ju D.sr.at rfl rfl λbg an co=>?_;have an:bT bg O ({Q with ps:=Sl.nil}:Xs).cells:=an;have aa:ak w0 bg:=D.sr.g.then co λk U (e:k=O)=>by omega
           obtain ⟨o1,o2,o3⟩:=D.sr.mo id;refine La (K:=λv w'=>JB w.heap.size w' N K.T cs b (.returned (.tuple #[v,.i 6]))/\ak w w') an (B5.grow aa) λw' m'=>⟨?_,aD.cW (Gw.trans aa) m' (by omega)⟩
           have:=J.cf.2.2 rb;exact ⟨_,_,_,_,_,_,_,_,_,_,_,_,rfl,J.cf.1,J.de.1,J.re.1,J.dr.1,.inl ⟨rfl,J.dU,by show Q.ms.n=0;rw [o2,J.st.mo];rfl,rfl,rb,by show Q.m.cf=b;omega⟩⟩
         . have rc: ¬b<=Q.m.cf:=by simpa using rc
           exact IU λ_=>by omega
       . have rb: ¬0<=b:=by simpa using rb
         exact IU λh=>absurd h rb
end
end Go.Proofs.YtbdghpjnifjlmaaGreat.W
