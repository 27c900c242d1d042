/- Layer 14: what a broken clause teaches, plain. -/
import Derived.Test.YtbdghpjnifjlmaaGreatBackA
import Derived.Test.YtbdghpjnifjlmaaGreatPropC
set_option linter.all false
namespace Go.Proofs.YtbdghpjnifjlmaaGreat.W
open Go Go.Fw Go.RowKit Go.SoP Go.LiP Go.LeP
open Go.Proofs.Tryz (prog)
section
variable{s t s':aH}{l c d bk:List Int}{x y:Int}{i j N:Nat}{cs:lq}{hv:List (Nat × List Int)}{un:lq}{tr:List As}{rl:List Int}
theorem N_(h:Le.uz tr l=true):gq tr=true/\fF tr/\tr.length<=4096/\∀x∈l,mA tr x:=by
 unfold Le.uz at h;simp only[ts]at h;obtain⟨ok,hl⟩:=q6 h.1.1;exact⟨h.1.1,ok,hl,nH.1 h.2⟩
theorem rG(ok:fF tr)(hb:∀x∈l,mA tr x):Ch tr (Le.pS tr (bC l)) (Le.y8 tr l):=by
 obtain⟨d,J,I,h,he⟩:=(Le.TR ok hb).end ok (vy _);unfold Le.y8;rw[I];refine OE ok h ?_;rcases he with⟨a,_⟩|b
 .exact .inl ⟨a,.inr a⟩
 .exact .inr b
theorem Mq(ok:fF tr)(hb:∀x∈l,mA tr x):(Le.y8 tr l).length<=tr.length:=by
 obtain⟨d,O,J,h,_⟩:=(Le.TR ok hb).end ok (vy _);unfold Le.y8;rw[J];exact Le.NJ (Le.tZ (pI h.br)) λx I=>h.br x ((jV ok h.br).1 I)
theorem Dg:Le.pS tr l=Le.pS tr (bC l):=by
 refine Le.Oq (Le.AU _ _) (λx I=>Le.xC (((c_ l).mem x).2 I)) ?_;rcases(Le.nI tr (bC l) 0).2.2 with e| ⟨x,I,e⟩
 .exact .inl e
 .exact .inr ⟨x,((c_ l).mem x).1 I,e⟩
theorem ud.at_(h:ud s tr rl)(b:mA tr x): -x∈s.R .tr/\0<=lv tr x/\lv tr x<rl.length/\s.bM x=rl.getD (lv tr x).toNat 0:=by
 have h1:=h.mem _ b.lt;have I:=h.bM _ b.lt;rw[b.eq]at h1 I;rw[tf]at I;exact⟨h1,I.1,I.2.1,I.2.2.symm⟩
theorem ud.m_(h:ud s tr rl)(k:qB N cs s hv un){v:Int->Int}(m:Rg N v)(J:∀d∈cs,BP v d):Ed tr v:=by
 refine⟨λl _=>m.neg l,m.val,λi hi=>m.set _ ?_,λi hi hr=>?_⟩
 .have:=k.g.tv _ (h.mem i hi)
  rwa [k.v]at this
 .rcases h.rs i hi with e| ⟨j,h1,I⟩
  .exact absurd e hr
  .rw [I];exact k.imp j h1 v m J
theorem Fj{v:Int->Int}(ok:fF tr)(V:Ed tr v)(hb:∀x∈bk,mA tr x)(h:BP v bk):BP v (Le.y8 tr bk):=by
 have I:=Le.TR ok hb;have U:BP v (bC bk):=by
  obtain⟨y,J,e⟩:=h;exact⟨y,((c_ bk).mem y).2 J,e⟩
 obtain⟨y,J,e⟩:=AG ok V I (vy _) U;obtain⟨d,X,O,Q,_⟩:=I.end ok (vy _);unfold Le.y8;rw[O]at J ⊢;exact⟨y,(jV ok Q.br).2 J,e⟩
theorem Tx(ok:fF tr)(hb:∀x∈bk,mA tr x)(J:0<Le.pS tr bk):Le.y8 tr bk≠[]:=by
 have I:=Le.TR ok hb;obtain⟨d,V,O,Q,he⟩:=I.end ok (vy _);unfold Le.y8;rw[O];rw[Dg]at J;intro e;rcases he with⟨a,b⟩| ⟨a,b⟩
 .rcases b with b|b
  .omega
  .rw [b]at J;simp[Le.pS]at J
 .obtain ⟨y,U,_⟩:=kg.1 (show 0<gM tr d (Le.pS tr (bC bk)) by omega);have:=(jV ok Q.br).2 U;rw[e]at this;simp at this
theorem KS(ok:fF tr)(hb:∀x∈bk,mA tr x):(Le.y8 tr bk).Nodup:=by
 have I:=Le.TR ok hb;obtain⟨d,Q,J,O,he⟩:=I.end ok (vy _);unfold Le.y8;rw[J];exact Le.tZ (pI O.br)
theorem J_{ld:List Int}(h:ld.Nodup):(shr tr ld).Nodup:=by
 cases ld with
 |nil=>exact h
 |cons y t=>exact h.sublist (List.Sublist.cons_cons _ (List.filter_sublist))
theorem SE{ld:List Int}(h:ld≠[]):shr tr ld≠[]:=by
 cases ld with
 |nil=>exact absurd rfl h
 |cons y t=>simp[shr]
theorem PW(g:aL s)(b:Ez s)(h:xN s i)(hl:0< (s.R .be).length):∃x∈s.R (.a i),s.bM x=(s.R .be).length:=by
 have O:(s.R .be).length - 1< (s.R .be).length:=by omega
 rcases b _ O i h.1 with⟨y,I,J⟩| ⟨y,I,z,V,U,_,b1,_,b2⟩
 .exact absurd (Wh J) (iR g (h.2 y I))
 .have h1: ¬s.bM y<=((s.R .be).length - 1:Nat):=λe=>b1 ((q_ g (h.2 y I) O).2 e);have Q:=(qF g (h.2 y I)).2;rw[tf]at Q;exact⟨y,I,by omega⟩
theorem D6{rl:List Int}(h:∀a b,a<b->b<rl.length->rl.getD a 0<rl.getD b 0){a b:Nat}(I:a<=b)(hb:b<rl.length):rl.getD a 0<=rl.getD b 0:=by
 rcases Wp a b with e|e
 .exact Int.le_of_lt (h a b e hb)
 .rw [show a=b by omega];exact Ww _
theorem Pj(h:ud s tr rl)(g:aL s)(ok:fF tr)(hb:∀x∈bk,mA tr x)(hl:0< (s.R .be).length)(ht:∃x∈bk,s.bM x=(s.R .be).length):
 shr tr (Le.y8 tr bk)≠[]/\0<=Le.pS tr ((shr tr (Le.y8 tr bk)).drop 1)/\Le.pS tr ((shr tr (Le.y8 tr bk)).drop 1)<rl.length/\0<=rl.getD (Le.pS tr ((shr tr (Le.y8 tr bk)).drop 1)).toNat 0/\
  LS s (shr tr (Le.y8 tr bk)) (rl.getD (Le.pS tr ((shr tr (Le.y8 tr bk)).drop 1)).toNat 0).toNat:=by
 obtain⟨O,U,e0⟩:=ht;obtain⟨_,a1,a2,a3⟩:=h.at_ (hb O U);have hz:rl.getD 0 0=0:=h.z λe=>by rw[e]at a2;simp at a2;omega
 have ax:0<rl.length:=by omega
 have ml:=Le.xC (tr:=tr) U;have a6:0<lv tr O:=by
  rcases Zk 0 (lv tr O) with e|e
  .exact e
  .have:lv tr O=0:=by omega
   rw[this]at a3;have:rl.getD (0:Int).toNat 0=0:=hz;omega
 obtain⟨L,hL⟩: ∃L,L=Le.pS tr bk:=⟨_,rfl⟩
 have Z:∃x∈bk,lv tr x=L:=by
  rcases(Le.nI tr bk 0).2.2 with e| ⟨x,Y,e⟩
  .have:Le.pS tr bk=0:=e;omega
  .exact ⟨x,Y,by rw[hL];exact e⟩
 obtain⟨x1,an,e1⟩:=Z;obtain⟨c0,c1,c2,c3⟩:=h.at_ (hb x1 an);have Q:=(qF g c0).2;rw[tf]at Q;have hm:=D6 h.up (a:=(lv tr O).toNat) (b:=(lv tr x1).toNat) (by omega) (by omega);have eL:rl.getD L.toNat 0=(s.R .be).length:=by rw[<- e1];omega
 have P:=Ch.shr (rG ok hb);rw[<- Dg,<- hL]at P;have J:=SE (tr:=tr) (Tx ok hb (by omega));obtain⟨l,el⟩: ∃l,l=shr tr (Le.y8 tr bk):=⟨_,rfl⟩
 rw[<- el]at P J ⊢;have ac:l.Nodup:=by rw[el];exact J_ (KS ok hb)
 cases l with
 |nil=>exact absurd rfl J
 |cons z r=>
  clear J el;show _/\0<=Le.pS tr r/\Le.pS tr r<_/\0<=rl.getD (Le.pS tr r).toNat 0/\LS s (z::r) (rl.getD (Le.pS tr r).toNat 0).toNat;have V:=(P.bP 0 (by simp)).2 rfl;have V:lv tr z=L:=V;have aa:∀y∈r,lv tr y<L:=λy I=>by
   obtain⟨j,hj,e⟩:=Bs.1 I;have h1:=P.bP (j+1) (by simpa using hj);have e2:(z::r).getD (j+1) 0=y:=by simp[List.getD,hj,e]
   rw[e2]at h1;have h2:=P.le y (xk _ I);have h3:lv tr y≠L:=λe=>by have:=h1.1 e;omega
   omega
  have X:=Le.AU tr r;have az:Le.pS tr r<L:=by
   rcases(Le.nI tr r 0).2.2 with e| ⟨y,I,e⟩
   .have:Le.pS tr r=0:=e;omega
   .have:=aa y I;have:Le.pS tr r=lv tr y:=e.symm;omega
  have aT:L<rl.length:=by omega
  have nn:0<=rl.getD (Le.pS tr r).toNat 0:=by
   have:=D6 h.up (a:=0) (b:=(Le.pS tr r).toNat) (by omega) (by omega);omega
  have up:=h.up (Le.pS tr r).toNat L.toNat (by omega) (by omega);refine⟨by simp,X,by omega,nn,⟨λx Y=> (h.at_ (P.br x Y)).1,⟨z,by simp,?_,λy I J=>?_⟩,by omega,?_,ac⟩⟩
  .rw [(h.at_ (P.br z (by simp))).2.2.2,V,eL]
  .rcases V'.1 I with e|I
   .exact absurd e J
   .have a':=h.at_ (P.br y (xk _ I));have hm:=Le.xC (tr:=tr) I;have:=D6 h.up (a:=(lv tr y).toNat) (b:=(Le.pS tr r).toNat) (by omega) (by omega);omega
  .rcases (Le.nI tr r 0).2.2 with e| ⟨y,I,e⟩
   .have:Le.pS tr r=0:=e;rw[this];exact .inl (by have:rl.getD (0:Int).toNat 0=0:=hz;omega)
   .have e:lv tr y=Le.pS tr r:=e;refine .inr ⟨y,xk _ I,?_⟩;rw[(h.at_ (P.br y (xk _ I))).2.2.2,e];omega
theorem LR(h:ud s tr rl)(k:qB N cs s hv un)(ok:fF tr)(hb:∀x∈bk,mA tr x)(f:F7 N cs bk):F7 N cs (shr tr (Le.y8 tr bk)):=by
 intro v m I;have V:=h.m_ k m I;refine Ga ok V (λx J=> (rG ok hb).br x J) (Fj ok V hb (f v m I))
def qR(s:aH)(t:Nat):List Int:=(((s.R .tr).take t).filter λx=>decide (s.nD x<0)).reverse.map λx=> -x
theorem CK{t:Nat}(h:t< (s.R .tr).length):qR s (t+1)=if s.nD ((s.R .tr).getD t 0)<0 then -((s.R .tr).getD t 0)::qR s t else qR s t:=by
 have e:(s.R .tr).take (t+1)=(s.R .tr).take t++ [(s.R .tr).getD t 0]:=by
  rw[Wo,V9 h];simp[List.getD,h]
 unfold qR;rw[e,Yi,List.reverse_append,GD];by_cases hr:s.nD ((s.R .tr).getD t 0)<0
 .rw [v8 hr,X4 (by simpa using hr)];rfl
 .rw [r8 hr,X5 (by simpa using hr)];rfl
theorem yR(g:aL s){p:Nat}(hp:p< (s.R .tr).length):s.nD ((s.R .tr).getD p 0)<0↔(p:Int)∈s.R .be:=by
 constructor
 .intro h;refine Wj λhn=>?_;obtain⟨i,e,_⟩:=g.Ru p hp hn;omega
 .intro h;have:=g.Tk p hp h;omega
theorem Ob(g:aL s):(s.R .be).Nodup:=by
 unfold List.Nodup;rw[Wy];intro i j hi J I e;have:=g.bs i j I J;simp only[List.getD,V9 hi,V9 J,Wn]at this;omega
theorem Fc{be:List Int}(h:be.Nodup)(t:Nat):be.countP (λe=>decide (e< ((t+1:Nat):Int)))=be.countP (λe=>decide (e< (t:Int)))+if (t:Int)∈be then 1 else 0:=by
 induction be with
 |nil=>rfl
 |cons a r ih=>
  obtain⟨h1,O⟩:=Ym.1 h;rw[WX,WX,ih O];by_cases e:a=(t:Int)
  .subst e;rw[r8 h1,v8 (by simp;omega)];simp
  .have J:((t:Int)∈a::r)↔(t:Int)∈r:=⟨λh=>by rcases V'.1 h with h|h;exact absurd h.symm e;exact h,xk _⟩
   have Q:decide (a< ((t+1:Nat):Int))=decide (a< (t:Int)):=decide_eq_decide.2 (by omega);rw[Q];by_cases I:(t:Int)∈r
   .rw [v8 I,v8 (J.2 I)];omega
   .rw [r8 I,r8 λh=>I (J.1 h)];omega
theorem Af(g:aL s):∀t,t<=(s.R .tr).length->(qR s t).length=(s.R .be).countP λe=>decide (e< (t:Int))
 |0,_=>by
  have:(s.R .be).countP (λe=>decide (e< ((0:Nat):Int)))=0:=by
   rw[X9];intro e he;obtain⟨j,I,rfl⟩:=Bs.1 he;have:=(g.bl j I).1;simp only[List.getD,V9 I,Wn]at this;simp;omega
  rw[this];simp[qR]
 |t+1,h=>by
  rw[CK (by omega),Fc (Ob g),<- Af g t (by omega)];by_cases hr:s.nD ((s.R .tr).getD t 0)<0
  .rw [v8 hr,v8 ((yR g (by omega)).1 hr)];rfl
  .rw [r8 hr,r8 λe=>hr ((yR g (by omega)).2 e)];rfl
theorem Gm(g:aL s):(qR s (s.R .tr).length).length=(s.R .be).length:=by
 rw[Af g _ (vy _)];rw[List.countP_eq_length];intro e he;obtain⟨j,I,rfl⟩:=Bs.1 he;have:=(g.bl j I).2;simp only[List.getD,V9 I,Wn]at this;simpa using this
theorem Qi(g:aL s){k:Nat}(I:k< (s.R .be).length):s.bM ((s.R .tr).getD ((s.R .be).getD k 0).toNat 0)=(k+1:Nat):=by
 have hb:=g.bl k I;rw[g.lv _ (by omega)];have h1:=xw g (p:=((s.R .be).getD k 0).toNat) I;have O:=Xm (p:=λe=>decide (e<=(((s.R .be).getD k 0).toNat:Int))) (l:=s.R .be);have U:=h1.2 (by omega);rcases Wp (k+1) (s.R .be).length with e|e
 .have J:=xw g (p:=((s.R .be).getD k 0).toNat) e;have h5:=g.bs k (k+1) (by omega) e;have Q: ¬k+1<_:=λh=>by have:=J.1 h;omega
  omega
 .omega
theorem qu(g:aL s):x∈qR s (s.R .tr).length↔∃k,k< (s.R .be).length/\ -x=(s.R .tr).getD ((s.R .be).getD k 0).toNat 0:=by
 unfold qR;rw[L0,LV];constructor
 .rintro ⟨y,J,rfl⟩;rw[Zu,WC]at J;obtain⟨p,hp,e⟩:=CL J.1;have h1:s.nD y<0:=by simpa using J.2
  rw[<- e]at h1;obtain⟨k,I,O⟩:=Bs.1 ((yR g hp).1 h1);refine⟨k,I,?_⟩;have Q:(s.R .be).getD k 0=(p:Int):=by simp[List.getD,I,O]
  rw[Q,tn,e,WJ]
 .rintro ⟨k,I,e⟩;have hb:=g.bl k I;refine⟨-x,Zu.2 (WC.2 ⟨?_,?_⟩),WJ x⟩
  .rw [e];exact bL (by omega)
  .rw [e];have:=(yR g (p:=((s.R .be).getD k 0).toNat) (by omega)).2 (by
    rw[XQ hb.1];exact bL I)
   simpa using this
theorem Ta(g:aL s)(hl:0< (s.R .be).length):LS s (qR s (s.R .tr).length) ((s.R .be).length - 1):=by
 have bM:∀ {y:Int} {k:Nat},k< (s.R .be).length-> -y=(s.R .tr).getD ((s.R .be).getD k 0).toNat 0->s.bM y=(k+1:Nat):=λ{y k} I e=>by
  rw[<- tf,e];exact Qi g I
 refine⟨λx V=>?_,?_,by omega,?_,?_⟩
 .obtain ⟨k,I,e⟩:=(qu g).1 V;have hb:=g.bl k I;rw[e];exact bL (by omega)
 .have I:(s.R .be).length - 1< (s.R .be).length:=by omega
  refine⟨-((s.R .tr).getD ((s.R .be).getD ((s.R .be).length - 1) 0).toNat 0),(qu g).2 ⟨_,I,WJ _⟩,?_,λy X J=>?_⟩
  .rw [bM I (WJ _)];omega
  .obtain ⟨k,O,e⟩:=(qu g).1 X;rw[bM O e];have:k≠(s.R .be).length - 1:=λU=>J (by rw[<- U,<- e,WJ]);omega
 .rcases Wt ((s.R .be).length - 1) with e|e
  .exact .inl e
  .have I:(s.R .be).length - 2< (s.R .be).length:=by omega
   refine .inr ⟨-((s.R .tr).getD ((s.R .be).getD ((s.R .be).length - 2) 0).toNat 0),(qu g).2 ⟨_,I,WJ _⟩,?_⟩;rw[bM I (WJ _)];omega
 .unfold qR;rw[L0];have h1:(s.R .tr).Nodup:=by
   have:=g.nd;unfold List.Nodup at this ⊢;rw[X2]at this;exact this.imp λ{a b} h e=>h (by rw[e])
  have Q:((s.R .tr).filter λx=>decide (s.nD x<0)).reverse.Pairwise λa b=>a≠b:=List.pairwise_reverse.2 (List.Pairwise.imp (λh=>WL h) (YK _ h1));unfold List.Nodup;rw[X2];exact Q.imp λ{a b} h e=>h (by omega)
theorem Rc(k:qB N cs s hv un)(X:xN s i):F7 N cs (qR s (s.R .tr).length):=by
 intro v m Q;refine Wj λhn=>?_;have hd:∀x∈s.wL,v x=1:=λx U=>by
  refine Wj λh1=>hn ?_;have O:=k.g.P_ x U;have hi:=k.g.tv x O;rw[k.v]at hi;have h2:=m.set x hi;have h3:=m.val x;refine⟨-x,(qu k.g).2 ?_,by rw[m.neg];omega⟩;obtain⟨e,he,Z⟩:=LV.1 U;obtain⟨j,V,e3⟩:=Bs.1 he;refine⟨j,V,?_⟩;have Y:(s.R .be).getD j 0=e:=by simp[List.getD,V,e3]
  rw[Y,Z,WJ]
 have key:∀x∈s.R .tr,v x=1:=k.g.wT hd λc J l hl hy _=>by
  obtain⟨i,hi,rfl⟩:=J;obtain⟨y,I,hv⟩:=k.imp i hi v m Q;by_cases e:y=l
  .rw [<- e];exact hv
  .have:=hy y I e;rw[m.neg,hv]at this;omega
 obtain⟨y,I,hv⟩:=k.imp i X.1 v m Q;have:=key _ (X.2 y I);rw[m.neg,hv]at this;omega
end
section
variable{s t s':aH}{l c d bk T:List Int}{x y:Int}{i j N:Nat}{cs ds:lq}{hv:List (Nat × List Int)}{un:lq}{tr:List As}{rl:List Int}
def FY(s:aH)(l:List Int):Prop:=∀ds:lq,(∀x,x∈ds.map bC↔∃i,s.aN i/\bC (s.R (.a i))=x)->uB ds l
noncomputable def vT(T tr:List Int)(x:Int):Int:=if x∈T then 1 else if -x∈T then -1 else if x∈tr then -1 else if -x∈tr then 1 else if 0<x then 1 else if x<0 then -1 else 0
theorem SG(g:aL s)(hv:s.vars=N)(I:Rm T):Rg N (vT T (s.R .tr)):=by
 have J:(0:Int) ∉ s.R .tr:=λh=> (g.tv _ h).1 rfl;have h1:(0:Int) ∉ T:=λh=>I 0 h (by simpa using h);refine⟨λl=>?_,λl=>?_,λl hl=>?_⟩
 .unfold vT;rw[WJ];by_cases a:l∈T
  .rw [r8 (I l a),v8 a,v8 a]
  .by_cases b: -l∈T
   .rw [v8 b,r8 a,v8 b];rfl
   .rw [r8 b,r8 a,r8 a,r8 b];by_cases c:l∈s.R .tr
    .rw [r8 (iR g (x:= -l) (by rw[WJ];exact c)),v8 c,v8 c];rfl
    .by_cases d: -l∈s.R .tr
     .rw [v8 d,r8 c,v8 d]
     .rw [r8 d,r8 c,r8 c,r8 d];by_cases e:0<l
      .rw [r8 (by omega),v8 (by omega),v8 e]
      .by_cases f:l<0
       .rw [v8 (by omega),r8 e,v8 f];rfl
       .rw [r8 (by omega),r8 (by omega),r8 e,r8 f];rfl
 .unfold vT;repeat' split
  all_goals omega
 .unfold vT;have:=hl.1;repeat' split
  all_goals omega
theorem Jt(g:aL s)(Z:∀x∈c,x≠0)(hb:cS c T=false)(hu:dz c T=0)(a:Int)(ha:∀x∈c,x≠a-> -x∈s.R .tr):BP (vT T (s.R .tr)) c:=by
 by_cases h1:∃x∈c,x∈T
 .obtain ⟨x,I,Q⟩:=h1;exact⟨x,I,by unfold vT;rw[v8 Q]⟩
 have hn:∀x∈c,x ∉ T:=λx I e=>h1 ⟨x,I,e⟩;by_cases V:∃x∈c,x≠a/\ -x ∉ T
 .obtain ⟨x,I,J,Q⟩:=V;have X:=ha x I J;exact⟨x,I,by unfold vT;rw[r8 (hn x I),r8 Q,r8 (iR g X),v8 X]⟩
 exfalso;have hf:∀x∈c,x≠a-> -x∈T:=λx I J=>Wj λe=>V ⟨x,I,J,e⟩;have U:∃x∈c,-x ∉ T:=Wj λe=>by
  rw[<- WI,cU]at hb;exact hb λx I=>Wj λe2=>e ⟨x,I,e2⟩
 obtain⟨x,I,O⟩:=U;have e:x=a:=Wj λJ=>O (hf x I J);subst e;have:=oD (t:=T) (l:=x) (Z x I) O c 0 (λy Y=>⟨hn y Y,by
  by_cases e:y=x
  .exact .inl e
  .exact .inr (hf y Y e)⟩) (.inr ⟨rfl,I⟩)
 have hu:kH T c 0=0:=hu;rw[this]at hu;exact Z x I hu
theorem CO(h:bC c=bC d)(x:Int):x∈c↔x∈d:=by rw[<- (c_ c).mem,<- (c_ d).mem,h]
theorem OW(Q:∀x∈c,x≠0)(U:Rm T)(h:∀x,x∈c↔x∈d)(e:cS c T=false/\dz c T=0):cS d T=false/\dz d T=0:=by
 obtain⟨O,I⟩:=e;refine⟨?_,Wj λhn=>?_⟩
 .rw [<- WI,cU]at O ⊢;exactλhb=>O λx V=>hb x ((h x).1 V)
 .obtain ⟨a1,a2,a3,a4⟩:=oR (λy J=>Q y ((h y).2 J)) hn;have:=oD (t:=T) (Q _ ((h _).2 a1)) a3 c 0 (λy J=>by
   rcases a4 y ((h y).1 J) with e|e
   .exact ⟨by rw[e];exact a2,.inl e⟩
   .exact ⟨λI=>U _ e (by rw[WJ];exact I),.inr e⟩) (.inr ⟨rfl,(h _).2 a1⟩)
  have I:kH T c 0=0:=I;rw[this]at I;exact hn I
theorem Iw(g:aL s)(h:∀T,Rm T->(∀c,s.BD c->cS c T=false/\dz c T=0)->(∀x∈l,-x∈T)->False):FY s l:=by
 intro ds Y;have O:∀c∈ds,∃i,s.aN i/\∀x,x∈c↔x∈s.R (.a i):=λc J=>by
  obtain⟨i,hi,e⟩:=(Y _).1 (WA J);exact⟨i,hi,CO e.symm⟩
 have X:NZ ds:=λx U y Z=>by
  obtain⟨i,hi,e⟩:=O x U;exact(g.R2 ⟨i,hi,rfl⟩ y ((e y).1 Z)).1
 by_cases ht:nh l=true
 .exact .inl ht
 obtain⟨T,V,Q⟩:=y7 (cs:=ds) (d:=vo l) X _ _ (vy _) .refl;rcases Q with Q|hE
 .exact .inr ⟨T,V,Q⟩
 .have I:=DK X (Bi (by simpa using ht)) V;refine(h T I (λc J=>?_) (λx U=>DF V _ (sH.2 (by rw[WJ];exact U)))).elim;obtain⟨i,hi,rfl⟩:=J;obtain⟨c,J,e⟩:=LV.1 ((Y _).2 ⟨i,hi,rfl⟩);exact OW (X c J) I (CO e) (hE c J)
theorem Lq(h:ud s tr rl)(g:aL s)(hv:s.vars=N)(hB:xN s i)(ok:fF tr)(hb:∀x∈s.R (.a i),mA tr x):FY s (shr tr (Le.y8 tr (s.R (.a i)))):=by
 refine Iw g λT Z hE hl=>?_;have m:=SG g hv Z;have V:Ed tr (vT T (s.R .tr)):=by
  refine⟨λl _=>m.neg l,m.val,λk O=>m.set _ ?_,λk O hr=>?_⟩
  .have:=g.tv _ (h.mem k O)
   rwa [hv]at this
  .rcases h.rs k O with e| ⟨j,h1,h2⟩
   .exact absurd e hr
   .have hd: ¬ji tr k< (aZ tr k).bM:=λe=>hr (ok.wL k O e);obtain⟨_,_,r3⟩:=ok.nD k O hd;rw[h2]at r3 ⊢;have I:s.BD (s.R (.a j)):=⟨j,h1,rfl⟩
    obtain⟨U,Q⟩:=hE _ I;exact Jt g (λx J=> (g.R2 I x J).1) U Q _ λx J X=> (h.at_ (r3 x J X).1).1
 have I:s.BD (s.R (.a i)):=⟨i,hB.1,rfl⟩
 obtain⟨U,Q⟩:=hE _ I;have Y:BP (vT T (s.R .tr)) (s.R (.a i)):=Jt g (λx J=> (g.R2 I x J).1) U Q 0 λx J _=>hB.2 x J;obtain⟨y,hy,e⟩:=Ga ok V (λx J=> (rG ok hb).br x J) (Fj ok V hb Y);have h1:=hl y hy;unfold vT at e;rw[r8 (λe=>Z y e h1),v8 h1]at e;exact absurd e (by decide)
theorem PQ(g:aL s)(J:xN s i):FY s (qR s (s.R .tr).length):=by
 refine Iw g λT V Q hl=>?_;have U:∀x∈s.wL,x∈T:=λx I=>by
  have:=hl (-x) ((qu g).2 (by
   obtain⟨e,he,Y⟩:=LV.1 I;obtain⟨j,O,Z⟩:=Bs.1 he;refine⟨j,O,?_⟩;have X:(s.R .be).getD j 0=e:=by simp[List.getD,O,Z]
   rw[X,WJ];exact Y.symm))
  rwa [WJ]at this
 have hs:=g.xz U V Q;have:=(Q _ ⟨i,J.1,rfl⟩).1;rw[<- WI,cU]at this;exact this λx I=>hs _ (J.2 x I)
theorem Q7(g:aL s)(J:xN s i)(Q:s.R .be= []):FY s []:=by
 refine Iw g λT U O _=>?_;have hs:=g.xz (λx I=>by unfold aH.wL at I;rw[Q]at I;simp at I) U O;have:=(O _ ⟨i,J.1,rfl⟩).1;rw[<- WI,cU]at this;exact this λx I=>hs _ (J.2 x I)
end
section
variable{w0 w w' w1 w2:World}{B N i:Nat}{L L':Nat->Nat}{x:Xs}{l:List Int}{cs:lq}{hv:List (Nat × List Int)}{un:lq}
theorem QA{T:TypeId}{q:sn}{d:Nat}(h:d_ T w q d l):l.length<=d:=by
 rcases h.un with⟨_,J,I⟩| ⟨g,cur,_,_,I,_⟩
 .rw [I];exact xc _
 .exact I
theorem Qc(h:SR w0 w B L N x)(g:aL x.s)(hN:x.s.vars<=1000):
 Calls prog 163 #[cj B] w λe w'=>∃ (p:sn) (c:Nat),e=.returned (.tuple #[.slice p (qR x.s (x.s.R .tr).length).length c,.i (((x.s.R .be).length:Int) - 1),.i (x.s.R .be).length])/\
  d_ aB w' p c (qR x.s (x.s.R .tr).length)/\(∀b,aF p=some b->w.heap.size<=b)/\ak w w':=by
 refine dI.aj ?_;obtain⟨H,pm,_⟩:=h.pm id;have aT:=g.CQ;have ag:=g.RK;refine⟨_,rfl,_,ae h.at rfl,(Bw pm (by omega)).mono ?_⟩;rintro e w3⟨qb,db,rfl,ob,Y,fb⟩;have s3:=Y.size;refine⟨_,_,_,rfl,λp n c I u z=>∃t:Nat,I=t/\t<=(x.s.R .tr).length/\z=(x.s.R .tr).length - t/\n=(qR x.s t).length/\d_ aB u p c (qR x.s t)/\(∀b,aF p=some b->w3.heap.size<=b)/\ak w3 u,
  ⟨_,0,rfl,xc _,rfl,by simp[qR],by simp[qR];exact Ow.nil _ _ _,λb hb=>by simp[aF]at hb,aE.refl _⟩,?_⟩
 rintro p n c I u z _⟨t,rfl,ht,rfl,rfl,o,fr,G⟩;refine ah (λr=>?_) (λr=>?_)
 .have r:t< (x.s.R .tr).length:=by simp at r;omega
  refine(ob.grow G).ix 0 (by omega) rfl (by omega) λa ha=>⟨_,ha,?_⟩
  rw[tn];have Q:(x.s.R .tr).getD t 0∈x.s.R .tr:=bL r;have S:=h.grow (Y.trans G);have X:=g.tv _ Q;have ap:=X.bd g.eM;refine⟨_,rfl,_,ae S.at rfl,(S.fH g _).mono ?_⟩;rintro e aw⟨rfl,O⟩;refine⟨_,rfl,?_⟩;rw[Dj g Q];have V:=CK (s:=x.s) r;have hlen:=Af g t (by omega);have ay:=Xm (p:=λe:Int=>decide (e< (t:Int))) (l:=x.s.R .be);refine ah (λU=>λaa Z J=>?_) (λU=>?_)
  .have U:x.s.nD ((x.s.R .tr).getD t 0)<0:=by simpa using U
   rw[v8 U]at V;have a7:=J.num;have az:=O.size;have sG:=G.size;have ew:IntKind.i64.wrap (0 - (x.s.R .tr).getD t 0)= -((x.s.R .tr).getD t 0):=by rw[ao (by omega) (by omega)];omega
   rw[ew]at J;have o1:d_ aB Z (some ⟨aa,0,none⟩) 1 [-((x.s.R .tr).getD t 0)]:=Ow.da J.at (vy _) (by decide) rfl rfl;refine o1.Um cR ((o.grow O).grow J.mod) rfl rfl eI (by simp;omega) λax p' c' o' m' ac an=>?_;refine⟨_,?_,t+1,wN,by omega,rfl,by rw[V];rfl,by rw[V];exact o',λb hb=>?_,((G.trans O).trans J.mod).then m' λb hb e=>?_⟩
   .omega
   .rcases ac with rfl|rfl
    .have:=aO hb;omega
    .have:=aO hb;have:=J.size;omega
   .have:=aO e;omega
  .have U: ¬x.s.nD ((x.s.R .tr).getD t 0)<0:=by simpa using U
   rw[r8 U]at V;exact⟨_,by omega,t+1,wN,by omega,rfl,by rw[V],by rw[V];exact o.grow O,fr,G.trans O⟩
 .have r:t=(x.s.R .tr).length:=by simp at r;omega
  subst r;have hlen:=Gm g;rw[hlen,ao (by omega) (by omega)];exact⟨p,c,rfl,o,λb hb=>by have:=fr b hb;omega,Y.trans G⟩
theorem NT(h:SR w0 w B L N x)(k:qB N cs x.s hv un)(hN:N<=1000)(Y:xN x.s i)(hl:0< (x.s.R .be).length){p:sn}{n c:Nat}(vb:Vw sT w p (x.s.R (.a i)))(hn:n=(x.s.R (.a i)).length):
 Calls prog 111 #[cj B,.slice p n c] w λe w'=>∃ (q:sn) (d:Nat) (l:List Int) (bl:Nat) (lv:Int),e=.returned (.tuple #[.slice q l.length d,.i bl,.i lv])/\d_ aB w' q d l/\(∀b,aF q=some b->w.heap.size<=b)/\ak w w'/\
  LS x.s l bl/\F7 N cs l/\FY x.s l/\0<=lv/\lv<=l.length:=by
 refine fZ.aj ?_;have g:=k.g;have ay:=k.v;have an:=g.al i;have bx:=g.CQ;refine(DW h g k.v hN vb hn an λy hy=>by rw[<- k.v];exact g.cv i Y.1 y ((g.ca i Y.1 y).2 hy)).mono ?_;rintro e w1⟨tp,tc,rp,rc,tr,rl,rfl,C,tv,vr,g1,a6⟩;have s1:=g1.size;refine⟨_,_,_,_,_,_,rfl,?_⟩;refine(Le.JZ tv rfl (vb.grow g1) hn (by unfold maxLen;omega)).mono ?_;rintro e w4⟨q2,d2,o,ho,rfl,O,Z⟩;have s4:=Z.size;refine⟨_,_,_,_,rfl,?_⟩;have ht:=PW g k.Lg Y hl;cases hm:Le.uz tr (x.s.R (.a i)) with
 |false=>
  refine bJ rfl ((Qc (h.grow (g1.trans Z)) g (by omega)).mono ?_);rintro e w7⟨p7,c7,rfl,o7,f7,g7⟩;have hlen:=Gm g;refine⟨_,_,_,_,_,rfl,p7,c7,_,(x.s.R .be).length - 1,(x.s.R .be).length,?_,o7,λb hb=>by have:=f7 b hb;omega,(g1.trans Z).trans g7,Ta g hl,Rc k Y,PQ g Y,by omega,by omega⟩;rw[show (((x.s.R .be).length - 1:Nat):Int)=((x.s.R .be).length:Int) - 1 by omega]
 |true=>
  rw[hm]at ho;simp only[I5]at ho;subst ho;obtain⟨m1,ok,m2,m3⟩:=N_ hm;have bg:=Mq ok m3;have P:=rG ok m3;refine bq rfl ((Le.yz (tv.grow Z) rfl m1 O.vw rfl (by omega) P.br).mono ?_);rintro e aT⟨q3,d3,rfl,O3,X,f11⟩;have b5:=X.size;have ag:=Q9 tr (Le.y8 tr (x.s.R (.a i)));have Q:=P.shr.br;have L1:=Pj C g ok m3 hl ht;have F1:=LR C k ok m3 (k.imp i Y.1);have R1:=Lq C g k.v Y ok m3;obtain⟨l,el⟩: ∃l,l=shr tr (Le.y8 tr (x.s.R (.a i))):=⟨_,rfl⟩
  rw[<- el]at O3 ag Q L1 F1 R1 ⊢;obtain⟨L2,L3,L4,L5,L6⟩:=L1;refine⟨_,_,_,rfl,(Le.D4 (tv.grow (Z.trans X)) rfl m1 O3.vw rfl (by omega) (QA O3) Q).mono ?_⟩;rintro e I⟨rfl,J⟩;have ap:l.isEmpty=false:=by cases l with
   |nil=>exact absurd rfl L2
   |cons _ _=>rfl
  rw[ap];refine⟨_,rfl,bq (by simpa using L3) ⟨ak I.drew,aE.refl _,?_⟩⟩;have V:=(Z.trans X).trans J;refine(vr.grow (V.trans (aE.refl I).drew)).ix 0 L3 rfl L4 λa ha=>⟨_,λu gu=>ee gu ha id,?_⟩
  refine(Le.AX (tv.grow (V.trans (aE.refl I).drew)) rfl m1 ((O3.grow J).grow (aE.refl I).drew).vw rfl (by omega) Q).mono ?_;rintro e bf⟨v,rfl,⟨v0,v1⟩,U⟩;refine⟨_,rfl,U,q3,d3,l,_,v,?_,((O3.grow J).grow (aE.refl I).drew).grow U,λb hb=>by have:=f11 b hb;omega,((g1.trans V).trans (aE.refl I).drew).trans U,L6,F1,R1,v0,v1⟩;rw[XQ L5]
end
section
variable{w0 w w' w1 w2:World}{B N i:Nat}{L L':Nat->Nat}{x:Xs}{l:List Int}{cs:lq}{hv:List (Nat × List Int)}{un:lq}
theorem A7:rM prog vQ cK 5 56=true:=by kernel_rfl
theorem Tj:mg prog eJ aI 24=true:=by kernel_rfl
theorem Rv{u:Hc}{b:Nat}(h:bO w b #[.i u.i,u.sl.v,.i u.lv,.i u.sz,.bool u.lk]):Vr 5 JL w (some ⟨b,0,none⟩) [u]:=by
 intro j I;have:j=0:=by simpa using I
 subst this;exact⟨_,rfl,ae h rfl,ae h rfl,ae h rfl,ae h rfl,ae h rfl,trivial⟩
theorem Sq{n:Nat}(hn:n<=4096)(h:∀y∈l,dZ n y)(hl:l.length<=4096):yB n l=true:=by
 unfold yB jL;simp only[ts,K',x7];exact⟨⟨λy I=>zp (by omega) (h y I),hl⟩,λy I=> (iX (by omega)).2 (h y I)⟩
theorem SR.U9(h:SR w0 w B L N x)(g:aL x.s)(J:x.s.nc<262144)(I:yB x.s.vars l=true){p:sn}{n c:Nat}(Q:Vw sT w p l)(hn:n=l.length)(U:n<=maxLen):
 Calls prog 103 #[cj x.pb,.slice p n c] w λe w'=>e=.returned (.tuple #[.i x.s.nc,.i 0])/\∃L' s',SR w0 w' B L' N {x with s:=s'}/\Kp w0 w w' L L'/\aL s'/\lM x.s l s':=by
 obtain⟨H,pm,hl⟩:=h.pm id;refine(mf pm g Q hn U).mono ?_;rintro e w'⟨Z,X,rfl,s',Y,p,V,O⟩;rcases O with⟨_,_,e,_⟩| ⟨_,_,_,e,_⟩| ⟨rfl,rfl,_,_,a⟩
 .rw [I]at e;exact absurd e (by decide)
 .omega
 .have:=h.wU hl pm.lt p;exact⟨rfl,_,s',this.1,this.2,V,a⟩
def Xs.lrn(x:Xs)(s':aH)(sl:Sl)(l:List Int)(lv:Int)(hs us:Sl):Xs:=
 if 1<l.length then {x with s:=s',hs:=hs,hv:=x.hv++ [⟨x.s.nc,sl,l,lv,l.length,false⟩]} else {x with s:=s',us:=us,un:=x.un++ [(sl,l)]}
theorem QS(h:SR w0 w B L N x)(g:aL x.s)(ax:x.s.nc<262144)(ay:yB x.s.vars l=true){p:sn}{n c:Nat}(ro:RO w L ⟨p,n,c⟩ l)(hx:l.length<=4096)(lv:Int)(bb:x.hv.length<=1000000)(a':x.un.length<=1000000):
 Calls prog 115 #[cj B,.slice p n c,.i lv] w λe w'=>e=.returned (.tuple #[])/\∃L' s' hs us,SR w0 w' B L' N (x.lrn s' ⟨p,n,c⟩ l lv hs us)/\Kp w0 w w' L L'/\aL s'/\lM x.s l s':=by
 have hn:n=l.length:=ro.n;refine iJ.aj ⟨_,rfl,_,ae h.at rfl,(h.U9 g ax ay ro.v hn (by unfold maxLen;omega)).mono ?_⟩;rintro e w3⟨rfl,L3,s',S3,k3,g',ha⟩;have ag:RO w3 L3 ⟨p,n,c⟩ l:=k3.ro ro;refine⟨_,_,rfl,bq rfl (ah (λr=>?_) (λr=>?_))⟩
 .have r:1<l.length:=by simp at r;omega
  refine⟨_,rfl,_,_,_,ae S3.at rfl,λac Q I=>?_⟩;have J:=S3.grow I.mod;obtain⟨r1,r2,r3⟩:=J.hv id;have k4:Kp w0 w3 Q L3 L3:=mF.grow I.mod;have U:=k4.ro ag;have hb:bO Q ac #[.i (x.s.nc:Int),(⟨p,n,c⟩:Sl).v,.i lv,.i (l.length:Int),.bool false]:=by have:=I.has;rw[hn]at this;rw[hn];exact this
  refine Row.nu Cm A7 r1 (Rv (u:=⟨x.s.nc,⟨p,n,c⟩,l,lv,l.length,false⟩) hb) r2 rfl (by simp;omega) λw8 Z c' o8 m8 O az=>⟨_,rfl,?_⟩
  have Y:bO w8 B _:=J.at.keep m8 λe=>by have:=(r3 B e).1;rw[J.ml.1]at this;exact absurd this (by decide)
  refine cz Y rfl rfl λaT X V=>?_;have:=J.Mc (q:=⟨Z,(x.hv++ [(⟨x.s.nc,⟨p,n,c⟩,l,lv,l.length,false⟩:Hc)]).length,c'⟩) (hv':=x.hv++ [(⟨x.s.nc,⟨p,n,c⟩,l,lv,l.length,false⟩:Hc)]) m8 o8 rfl (FZ O (vy _)) (λu hu=>by
   rcases y4.1 hu with hu|hu
   .exact J.hr id u hu
   .rw [xv]at hu;subst hu;exact U) X V (J.Uf (by decide) r3 O (vy _))
  refine⟨rfl,_,s',⟨Z,(x.hv++ [(⟨x.s.nc,⟨p,n,c⟩,l,lv,l.length,false⟩:Hc)]).length,c'⟩,x.us,?_,(k3.trans k4).trans this.2,g',ha⟩;unfold Xs.lrn;rw[v8 r];exact this.1
 .have r: ¬1<l.length:=by simp at r;omega
  refine⟨_,rfl,_,_,_,ae S3.at rfl,λac Q I=>?_⟩;have J:=S3.grow I.mod;obtain⟨r1,r2,r3⟩:=J.un id;have k4:Kp w0 w3 Q L3 L3:=mF.grow I.mod;have U:=k4.ro ag;refine r1.jS Tj (⟨p,n,c⟩:Sl) I.has rfl (by rw[We];exact r2) (λ_=>rfl) (by simp;omega) λw8 Z c' o8 m8 O az=>⟨_,rfl,?_⟩
  have Y:bO w8 B _:=J.at.keep m8 λe=>by have:=(r3 B e).1;rw[J.ml.1]at this;exact absurd this (by decide)
  refine cz Y rfl rfl λaT X V=>?_;have:=J.NV (q:=⟨Z,(x.un.map (·.1)).length+1,c'⟩) (un':=x.un++ [((⟨p,n,c⟩:Sl),l)]) m8 (by rw[GD];exact o8) (by simp) (FZ O (vy _)) (λu hu=>by
   rcases y4.1 hu with hu|hu
   .exact J.ur id u hu
   .rw [xv]at hu;subst hu;exact U) X V (J.Uf (by decide) r3 O (vy _))
  refine⟨rfl,_,s',x.hs,⟨Z,(x.un.map (·.1)).length+1,c'⟩,?_,(k3.trans k4).trans this.2,g',ha⟩;unfold Xs.lrn;rw[r8 r];exact this.1
end
section
variable{w0 w w' w1 w2:World}{B N i:Nat}{L L':Nat->Nat}{x:Xs}{l:List Int}{cs:lq}{hv:List (Nat × List Int)}{un:lq}
theorem TA(a b c:Value):(#[]++ #[a]++ #[b,c]:Array Value)= #[a,b,c]:=by simp
theorem H6(h:SR w0 w B L N x)(g:aL x.s){U V:Nat}(h1:bO w U #[cj B]){u:Hc}(Y:bO w V #[.i u.i,u.sl.v,.i u.lv,.i u.sz,.bool u.lk])(l:Int):
 Calls prog 206 #[.i l,.pointer (some ⟨U,0,none⟩),.pointer (some ⟨V,0,none⟩)] w λe w'=>e=.returned (.bool (decide (x.s.value l>0) && (x.s.fH l==u.i)))/\ak w w':=by
 refine dV.aj ?_;have Q:ak w w.drew:=(aE.refl w).drew;have D:=h.drew;have d1:=h1.grow Q;have d3:=Y.grow Q;refine⟨ak w.drew,aE.refl _,_,λu I=>aP (d1.grow I) rfl,_,rfl,_,λu I=>ae (D.at.grow I) rfl,(D.value g l).mono ?_⟩;rintro e Z⟨rfl,O⟩;refine⟨_,rfl,O,ah (λr=>?_) (λr=>?_)⟩
 .refine ⟨_,λu I=>aP (d1.grow I) rfl,_,rfl,_,λu I=>ae (D.at.grow I) rfl,((D.grow O).fH g l).mono ?_⟩;rintro e X⟨rfl,J⟩;refine⟨_,rfl,O.trans J,_,λu I=>ae (d3.grow I) rfl,?_,(Q.trans O).trans J⟩;rw[r];rfl
 .refine ⟨?_,Q.trans O⟩;rw[r];rfl
theorem EK:f_ prog 206=true:=by kernel_rfl
theorem Kh(h:SR w0 w B L N x)(g:aL x.s){u:Hc}(ro:RO w L u.sl u.c)(Y:u.c.length<=4096):
 Calls prog 176 #[cj B,.agg #[.i u.i,.slice u.sl.p u.sl.n u.sl.c,.i u.lv,.i u.sz,.bool u.lk]] w λe w'=>∃r:Bool,e=.returned (.bool r)/\ak w w':=by
 refine fD.aj ?_;intro U w2 O Z X I;have G:=O.mod.trans I.mod;refine⟨_,_,_,ae I.has rfl,?_⟩;have hn:=ro.n;refine(fS (ro.v.grow G) hn (by unfold maxLen;omega) EK (λl=>decide (x.s.value l>0) && (x.s.fH l==u.i)) λy _ V J=>?_).mono ?_
 .rw [TA];exact H6 (h.grow (G.trans J)) g ((O.has.grow I.mod).grow J) (I.has.grow J) y
 .rintro e w6 ⟨rfl,Q⟩;exact⟨_,rfl,_,rfl,G.trans Q⟩
theorem SR.Vn(h:SR w0 w B L N x)(m:aE (λk=>L k=0/\w0.heap.size<=k) w w')(hl:∀k,k<w.heap.size->L' k=L k):SR w0 w' B L' N x/\mF (λi=>i=0) w0 w w' L L':=by
 have b:=h.Ro (E':=λj=>j=0) ⟨m,hl⟩;exact⟨⟨b.g,λ_=>b.me (by simp),b.ml,λ_=>b.pm (by simp),λ_=>b.hp (by simp),λ_=>b.ph (by simp),λ_=>b.hv (by simp),λ_=>b.hr (by simp),λ_=>b.un (by simp),λ_=>b.ur (by simp),λ_=>b.pr (by simp),λ_=>b.rr (by simp),λ_=>b.mo (by simp)⟩,⟨m,hl⟩⟩
theorem RO.zB{s:Sl}{c:List Int}(h:RO w L s c)(hl:∀k,L k≠0->L' k=L k):RO w L' s c:=
 ⟨h.n,h.v,λk I=>⟨by rw[hl k (by rw[(h.l k I).1];decide)];exact(h.l k I).1,(h.l k I).2⟩⟩
theorem SR.zB(h:SR w0 w B L N x)(hl:∀k,L k≠0->L' k=L k):SR w0 w B L' N x:=by
 have key:∀ {i k:Nat},i≠0->L k=i/\w0.heap.size<=k->L' k=i/\w0.heap.size<=k:=λhi I=>⟨by rw[hl _ (by rw[I.1];exact hi)];exact I.1,I.2⟩
 refine⟨h.g,h.me,⟨by rw[hl B (by rw[h.ml.1];decide)];exact h.ml.1,h.ml.2⟩,λe=>?_,λe=>?_,λe=>?_,λe=>?_,λe u hu=> (h.hr e u hu).zB hl,λe=>?_,λe u hu=> (h.ur e u hu).zB hl,λe=>?_,λe u hu=> (h.rr e u hu).zB hl,λe=>?_⟩
 .obtain ⟨H,a,b⟩:=h.pm e;exact⟨H,a,λy k I=>key (by decide) (b y k I)⟩
 .obtain ⟨z,a,b,c,d⟩:=h.hp e;exact⟨z,a,b,c,λk I=>key (by decide) (d k I)⟩
 .obtain ⟨a,b,c⟩:=h.ph e;exact⟨a,b,λk I=>key (by decide) (c k I)⟩
 .obtain ⟨a,b,c⟩:=h.hv e;exact⟨a,b,λk I=>key (by decide) (c k I)⟩
 .obtain ⟨a,b,c⟩:=h.un e;exact⟨a,b,λk I=>key (by decide) (c k I)⟩
 .obtain ⟨a,b,c⟩:=h.pr e;exact⟨a,b,λk I=>key (by decide) (c k I)⟩
 .obtain ⟨a,b,c⟩:=h.mo e;exact⟨a,b,λk I=>key (by decide) (c k I)⟩
theorem SR.Ut(h:SR w0 w B L N x){hv':List Hc}(m:aE (λk=>aF x.hs.p=some k) w w')(r:Row 5 JL cK w' x.hs.p x.hs.c hv')(hq:hv'.length=x.hv.length)(I:∀u∈hv',RO w L u.sl u.c):SR w0 w' B L N {x with hv:=hv'}/\mF (λi=>i=5) w0 w w' L L:=by
 obtain⟨Q,O,J⟩:=h.hv id;have c:mF (λi=>i=5) w0 w w' L L:=⟨m.mono λk _ e=>J k e,λ_ _=>rfl⟩
 have b:=h.Ro c;exact⟨⟨b.g,λ_=>b.me (by simp),b.ml,λ_=>b.pm (by simp),λ_=>b.hp (by simp),λ_=>b.ph (by simp),λ_=>⟨r,by rw[O,hq],J⟩,λ_ u hu=> (I u hu).keep c (by simp),λ_=>b.un (by simp),λ_=>b.ur (by simp),λ_=>b.pr (by simp),λ_=>b.rr (by simp),λ_=>b.mo (by simp)⟩,c⟩
theorem SR.swap(h:SR w0 w B L N x){q:Sl}{hv':List Hc}(r:Row 5 JL cK w q.p q.c hv')(hq:q.n=hv'.length)(hl:∀k,aF q.p=some k->L k=5/\w0.heap.size<=k)(I:∀u∈hv',RO w L u.sl u.c)
 (st:bO w2 B {x with hs:=q,hv:=hv'}.cells) (m2:aE (·=B) w w2):SR w0 w2 B L N {x with hs:=q,hv:=hv'}/\Kp w0 w w2 L L:=by
 have c:mF (λi=>i=1) w0 w w2 L L:=⟨m2.mono λk _ (e:k=B)=>by subst e;exact⟨h.ml.1,h.ml.2.1⟩,λ_ _=>rfl⟩
 have b:=h.Ro c;exact⟨⟨b.g,λ_=>st,b.ml,λ_=>b.pm (by simp),λ_=>b.hp (by simp),λ_=>b.ph (by simp),λ_=>⟨r.keep m2 λk J (e:k=B)=>by subst e;have:=(hl _ J).1;rw[h.ml.1]at this;exact absurd this (by decide),hq,hl⟩,λ_ u hu=> (I u hu).keep c (by simp),λ_=>b.un (by simp),λ_=>b.ur (by simp),λ_=>b.pr (by simp),λ_=>b.rr (by simp),λ_=>b.mo (by simp)⟩,c.yH λi e=>by rw[e];decide⟩
theorem mF.row{E:Nat->Prop}{sz:Nat}{α:Type}{f:α->List Value}{T:TypeId}{p:sn}{c:Nat}{l:List α}(k:mF E w0 w w' L L')(h:Row sz f T w p c l)(hl:∀b,aF p=some b->¬E (L b)):Row sz f T w' p c l:=
 h.keep k.mod λb hb e=>hl b hb e.1
theorem mF.lb{E:Nat->Prop}{p:sn}{i n:Nat}(k:mF E w0 w w' L L')(h:∀b,aF p=some b->L b=i/\n<=b)(hl:∀b,aF p=some b->b<w.heap.size):∀b,aF p=some b->L' b=i/\n<=b:=
 λb hb=>⟨by rw[k.EC b (hl b hb)];exact(h b hb).1,(h b hb).2⟩
theorem SR.TW(h:SR w0 w B L N x)(g:aL x.s)(i:Nat):Calls prog 131 #[cj x.pb,.i i] w λe w'=>∃r:Int,e=.returned (.i r)/\∃L',mF (λi=>i=2) w0 w w' L L'/\
 ((r≠0/\SR w0 w' B L' N x)\/(r=0/\x.s.aN i/\aL (x.s.drop i)/\SR w0 w' B L' N {x with s:=x.s.drop i})):=by
 obtain⟨H,pm,hl⟩:=h.pm id;have J:∀ {w':World} {O:Pt->Sl} {s':aH},Pw w w' x.pb H O s'->mF (λi=>i=2) w0 w w' L (lW L w.heap.size 2):=λp=>⟨p.mod.mono λk _ ⟨y,e⟩=>hl y k e,λ_ U=>dF U⟩
 refine(DP pm g i).mono ?_;rintro e w'⟨r,rfl,O,⟨rfl,_,p⟩| ⟨rfl,_,_,p⟩| ⟨rfl,hi,hr,p⟩⟩
 .exact ⟨_,rfl,_,J p,.inl ⟨by decide,(h.wU hl pm.lt p).1⟩⟩
 .exact ⟨_,rfl,_,J p,.inl ⟨by decide,(h.wU hl pm.lt p).1⟩⟩
 .obtain ⟨_,I⟩:=aH.Ef.1 hi;rw[tn]at I hr p;exact⟨_,rfl,_,J p,.inr ⟨rfl,I,tA g I λy Q e=>hr ⟨y,Q,e⟩,(h.wU hl pm.lt p).1⟩⟩
theorem JW(h:SR w0 w B L N x)(hp:x.pr.length<=1000000000)(del:Bool){sl:Sl}(ro:RO w L sl l){b:Nat}(hb:bO w b #[.bool del,sl.v]){K:World->Prop}
 (Y:∀w' L' q,SR w0 w' B L' N {x with ps:=q,pr:=x.pr++ [(del,sl,l)]}->mF (λi=>i=7\/i=1) w0 w w' L L'->K w'):
 ∃w8 X Q J,(Builtin.append_ #[26,26] 26 #[.slice x.ps.p x.ps.n x.ps.c,.slice (some (qw b)) 1 1]).run prog w=.ok (.slice X Q J) w8/\
  ∃O,(some (qw B))=some O/\∃I,bD ((O.add 14).add 2) 0 [.slice X Q J] w8 I/\K I:=by
 obtain⟨r1,r2,Z⟩:=h.pr id;refine Row.nu Oz EX r1 (RD (u:=(del,sl,l)) hb) r2 rfl (by simp;omega) λw8 p' c' o8 m8 U av=>⟨_,rfl,?_⟩
 have ag:bO w8 B x.cells:=h.at.keep m8 λe=>by have:=(Z B e).1;rw[h.ml.1]at this;exact absurd this (by decide)
 refine iK ag rfl rfl λI ac V=>?_;have:=h.O9 (q:=⟨p',(x.pr++ [(del,sl,l)]).length,c'⟩) (pr':=x.pr++ [(del,sl,l)]) m8 o8 rfl (FZ U (vy _)) (λu hu=>by
  rcases y4.1 hu with hu|hu
  .exact h.rr id u hu
  .rw [xv]at hu;subst hu;exact ro) ac V (h.Uf (by decide) Z U (vy _))
 refine Y _ _ _ this.1 ⟨(m8.mono λk _ e=>⟨.inl (Z k e).1,(Z k e).2⟩).then V λk Y (e:k=B)=>by subst e;exact⟨.inr h.ml.1,h.ml.2.1⟩,λ_ Y=>dF Y⟩
end
section
variable{w0 w w' w1 w2 u:World}{B N i:Nat}{L L' L1:Nat->Nat}{x:Xs}{l:List Int}{cs:lq}{hv:List (Nat × List Int)}{un:lq}
def Ij:Hc:=⟨0,Sl.nil,[],0,0,false⟩
def xW(h:Hc):Nat × List Int:=(h.i,h.c)
def RJ(h:Hc):Prop:=0<=h.lv/\h.lv<=h.sz/\h.sz<=4096/\h.c.length<=4096
theorem UJ(a:Addr)(i j:Nat):(a.add i).add j=a.add (i+j):=by
 by_cases I:i=0
 .subst I;simp[Addr.add]
 .by_cases J:j=0
  .subst J;simp[Addr.add]
  .simp [Addr.add,I,J,Ye]
theorem CV{a:Addr}{k:Nat}:∀ {vs:List Value} {i:Nat},aM w a (k+i) vs->aM w (a.add k) i vs
 | [],_,_=>trivial
 |v::vs,i,⟨h1,h2⟩=>⟨by rw[UJ];exact h1,CV (i:=i+1) h2⟩
theorem US{hs:List Hc}{p:sn}{c n:Nat}(h:Row 5 JL cK w p c hs){i:Int}(t:Nat)(hi:i=t)(hn:n=hs.length)(ht:t<hs.length)(r:Bool){K:World->Prop}
 (J:∀w',Row 5 JL cK w' p c (hs.set t {hs.getD t Ij with lk:=r})->aE (λb=>aF p=some b) w w'->K w'):
 aV p n i 5 λa=>∃w',bD ((a.add 2).add 2) 0 [.bool r] w w'/\K w':=by
 have:=h.VJ Cm (i:=i) (n:=n) (o:=4) (v:=.bool r) Ij {hs.getD t Ij with lk:=r} (by rw[hi,tn];rfl) (by decide) rfl (by omega) hn (by omega) (K:=K) λw' I m'=>J w' (by rw[hi,tn]at I;exact I) m';simp only[UJ];exact this
theorem QB:rM prog wQ ua 3 24=true:=by kernel_rfl
theorem UQ{v:RedP.Lr}{b:Nat}(h:bO w b #[.i v.1,.i v.2.1,.bool v.2.2]):Vr 3 Re.Ll w (some ⟨b,0,none⟩) [v]:=by
 intro j I;have:j=0:=by simpa using I
 subst this;exact⟨_,rfl,ae h rfl,ae h rfl,ae h rfl,trivial⟩
theorem yT{α:Type}{m:List α}{t:Nat}{d:α}(h:t<m.length):m.getD t d∈m:=by simp[List.getD,h]
theorem Cl{m:List Hc}{t:Nat}(h:t<m.length):m.drop t=m.getD t Ij::m.drop (t+1):=by
 rw[XV h];simp[List.getD,h]
def uO(h:Hc):Nat × Sl × List Int × Int × Int:=(h.i,h.sl,h.c,h.lv,h.sz)
def qf(a b:List Hc):Prop:=a.map uO=b.map uO
theorem qf.len{a b:List Hc}(h:qf a b):a.length=b.length:=by have:=congrArg List.length h;simpa using this
theorem qf.at_{a b:List Hc}(h:qf a b){t:Nat}(ht:t<a.length):uO (a.getD t Ij)=uO (b.getD t Ij):=by
 have hb:t<b.length:=by rw[<- h.len];exact ht
 have I:(a.map uO)[t]? =(b.map uO)[t]? :=by rw[show a.map uO=b.map uO from h]
 rw[WW,WW,V9 ht,V9 hb]at I;simpa[List.getD,ht,hb]using I
theorem qf.mem{a b:List Hc}(h:qf a b){P:Hc->Prop}(O:∀u v:Hc,uO u=uO v->P u->P v)(ha:∀u∈a,P u):∀v∈b,P v:=by
 intro v hv;obtain⟨j,J,rfl⟩:=Bs.1 hv;have I:j<a.length:=by rw[h.len];exact J
 have:=h.at_ I;refine O _ _ ?_ (ha _ (yT (d:=Ij) I));rw[this];simp[List.getD,J]
theorem qf.set{a b:List Hc}(h:qf a b){t:Nat}(ht:t<b.length){v:Hc}(hv:uO v=uO (b.getD t Ij)):qf a (b.set t v):=by
 unfold qf at*
 rw[h];refine XC (by simp) λj h1 I=>?_;simp only[We,Xv]at h1 I;rw[XH,XH,List.getElem_set];by_cases e:t=j
 .subst e;rw[v8 rfl,hv];simp[List.getD,h1]
 .rw [r8 e]
theorem qf.xW{a b:List Hc}(h:qf a b):a.map xW=b.map xW:=by
 have:=congrArg (List.map λz:Nat × Sl × List Int × Int × Int=> (z.1,z.2.2.1)) h;rw[XW,XW]at this;exact this
structure VO(w0 w u:World)(B:Nat)(L:Nat->Nat)(N:Nat)(x:Xs)(t:Nat)(hv1:List Hc)(ll:List RedP.Lr)(p:sn)(c:Nat):Prop where
 len:ll.length=t
 ok:∀y∈ll,RedP.GC y=true
 row:Row 3 Re.Ll ua u p c ll
 fr:∀b,aF p=some b->w.heap.size<=b
 sr:SR w0 u B (lW L w.heap.size 0) N {x with hv:=hv1}
 kp:Kp w0 w u L (lW L w.heap.size 0)
 sm:qf x.hv hv1
theorem R8(h:SR w0 w B L N x){b:Nat}(hb:w.heap.size<=b):lW L w.heap.size 0 b=0/\w0.heap.size<=b:=⟨jw hb,Wl h.g.size hb⟩
theorem Tv(h:SR w0 w B L N x)(g:aL x.s)(er:x.hv.length<=1000000)(dT:∀u∈x.hv,RJ u){K:sn->Nat->Nat->World->Prop}
 (hk:∀p c u I ll,VO w0 w u B L N x x.hv.length I ll p c->K p ll.length c u):
 ∃I3:sn->Nat->Nat->Int->World->Nat->Prop,(∃k4,I3 none 0 0 0 w k4)/\
  ∀ (X:sn) (V:Nat) (U:Nat) (v7:Int) (w8:World) (k4:Nat) (_:Fr),I3 X V U v7 w8 k4->
  aD (decide (v7< (x.hs.n:Int)))
   (aV x.hs.p x.hs.n v7 5 λa9=>
     ∃cb aw a7 ax b7 co b8,aM w8 a9 0 [.i cb,.slice aw a7 ax,.i b7,.i co,.bool b8]/\
     ∀n15 b3,jz (.cells #[.i 0,.slice none 0 0,.i 0,.i 0,.bool false] 209) w8 n15 b3->
     ∃O,bD (qw n15) 0 [.i cb,.slice aw a7 ax,.i b7,.i co,.bool b8] b3 O/\
     ∃ap:World->Prop,ap O.drew/\
     ∃cr,(some (qw B))=some cr/\∃az ay dd,yY ap (cr.add 11) (.slice az ay dd)/\
     ∃cT a_ a' a8 dp cg c0,xi ap (qw n15) [.i cT,.slice a_ a' a8,.i dp,.i cg,.bool c0]/\
     Calls prog 176 #[.pointer (some (qw B)),.agg #[.i cT,.slice a_ a' a8,.i dp,.i cg,.bool c0]] O.drew λe an=>∃J,e=.returned (.bool J)/\
     ap an/\aV az ay v7 5 λd4=>
     ∃Z,bD ((d4.add 2).add 2) 0 [.bool J] an Z/\
     ∃cp,(some (qw B))=some cp/\∃aT a6 dk,Z.cell? (cp.add 11)=some (.slice aT a6 dk)/\
     aV aT a6 v7 5 λdh=>
     ∃c1 c4 c2,aM Z (dh.add 2) 0 [.i c1,.i c4,.bool c2]/\
     ∀bg ac,jz (.cells #[.i c1,.i c4,.bool c2] 207) Z bg ac->
     ∃ar av bf bb,(Builtin.append_ #[212,212] 212 #[.slice X V U,.slice (some (qw bg)) 1 1]).run prog ac=.ok (.slice av bf bb) ar/\
     ∃k5,k5<k4/\I3 av bf bb (IntKind.i64.wrap (v7+ (1:Int))) ar k5)
   (K X V U w8):=by
 have dc:=(h.hv id).2.1;refine⟨λp n c v u z=>∃ (t:Nat) (I:List Hc) (ll:List RedP.Lr),v=t/\t<=x.hv.length/\z=x.hv.length - t/\n=ll.length/\VO w0 w u B L N x t I ll p c,
  ⟨_,0,x.hv,[],rfl,xc _,rfl,rfl,⟨rfl,by simp,Row.nil _ _ _ _,λb hb=>by simp[aF]at hb,h.new (aE.refl w) 0,mF.new (aE.refl w) 0,rfl⟩⟩,?_⟩
 rintro p n c v u z _⟨t,I,ll,rfl,ht,rfl,rfl,A⟩;have hlen:=A.sm.len;refine ah (λr=>?_) (λr=>?_)
 .have r:t<x.hv.length:=by rw[dc]at r;simpa using r
  obtain⟨r1,r2,r3⟩:=A.sr.hv id;have r1:Row 5 JL cK u x.hs.p x.hs.c I:=r1;obtain⟨y,hy⟩: ∃y,y=I.getD t Ij:=⟨_,rfl⟩
  have bi:y∈I:=by rw[hy];exact yT (by omega)
  refine(r1.vr Cm).ix Ij (by omega) (by omega) (by omega) λa ha=>?_;rw[tn,<- hy]at ha;refine⟨_,_,_,_,_,_,_,ha,λn15 b3 bu=>?_⟩;refine aX bu.has rfl rfl λO bx d'=>?_;have bx:bO O n15 #[.i y.i,.slice y.sl.p y.sl.n y.sl.c,.i y.lv,.i y.sz,.bool y.lk]:=bx;have eg:=bu.num;have cm:ak u O.drew:=(aE.cE bu.mod d' (by omega)).trans (aE.refl O).drew;have bY:=A.sr.grow cm;have aa:=bx.grow (aE.refl O).drew;refine⟨ak O.drew,aE.refl _,_,rfl,_,_,_,λv gv=>ae (bY.at.grow gv) rfl,_,_,_,_,_,_,_,λv gv=>⟨ae (aa.grow gv) rfl,ae (aa.grow gv) rfl,ae (aa.grow gv) rfl,ae (aa.grow gv) rfl,ae (aa.grow gv) rfl,trivial⟩,?_⟩;have c7:RJ y:=A.sm.mem (λu v e hu=>by unfold RJ at*;simp only[uO,YR]at e;obtain⟨_,_,e3,e4,e5⟩:=e;rw[<- e3,<- e4,<- e5];exact hu) dT y bi;refine(Kh bY g (bY.hr id y bi) c7.2.2.2).mono ?_;rintro e an⟨J,rfl,ce⟩;refine⟨_,rfl,ce,?_⟩;have ag:=cm.trans ce;have d5:=r1.grow ag;have b4:=A.sr.grow ag;refine US d5 t rfl (by omega) (by omega) J λZ b5 c3=>?_;rw[<- hy]at b5;have Q:=b4.Ut c3 b5 (by show (I.set _ _).length=I.length;simp) λv hv=>by
   rcases List.mem_or_eq_of_mem_set hv with e|e
   .exact b4.hr id v e
   .subst e;exact b4.hr id y bi
  have Q1:SR w0 Z B (lW L w.heap.size 0) N {x with hv:=I.set t {y with lk:=J}}:=Q.1;refine⟨_,rfl,_,_,_,ae Q1.at rfl,(b5.vr Cm).ix Ij (by omega) (by simp;omega) (by show (t:Int)< (x.hs.n:Int);omega) λdh b9=>?_⟩;rw[tn,show (I.set t {y with lk:=J}).getD t Ij= {y with lk:=J} by simp[List.getD,show t<I.length by omega]]at b9;refine⟨y.lv,y.sz,J,CV (k:=2) (i:=0) b9.2.2,λbg ac Y=>?_⟩;have el:=Y.num;have ec:=Y.size;have b':aE (λk=>aF x.hs.p=some k) u ac:=(ag.mono λ_ _ e=>e.elim:aE (λk=>aF x.hs.p=some k) u an).then (c3.then Y.mod λ_ _ e=>e.elim) λ_ _ e=>e;have rl:=A.row.keep b' λb hb e=>by
   have h1:=A.fr b hb;have h2:=(h.hv id).1.lt b e;omega
  refine Row.nu Re.VK QB rl (UQ (v:=(y.lv,y.sz,J)) Y.has) rfl rfl (by have:=A.len;simp;omega) λar p' c' o8 m8 d8 ed=>?_;have d6:=Q1.grow Y.mod;have es:=A.kp.mod.size;have et:=b'.size;have d7:aE (λk=>lW L w.heap.size 0 k=0/\w0.heap.size<=k) ac ar:=m8.mono λk _ e=>R8 h (A.fr k e);have b_:=d6.Vn (L':=lW L w.heap.size 0) d7 λ_ _=>rfl;have kk:=(((A.kp.trans (mF.grow ag)).trans (Q.2.yH λi e=>by rw[e];decide)).trans (mF.grow Y.mod)).trans (b_.2.yH λi e=>by rw[e];decide);refine⟨_,?_,t+1,I.set t {y with lk:=J},ll++ [(y.lv,y.sz,J)],wN,by omega,rfl,rfl,⟨by rw[I',A.len];rfl,λv hv=>?_,o8,λb hb=>?_,b_.1,kk,A.sm.set (by omega) (by rw[<- hy];rfl)⟩⟩
  .omega
  .rcases y4.1 hv with hv|hv
   .exact A.ok v hv
   .rw [xv]at hv;subst hv;unfold RedP.GC;obtain⟨o1,o2,o3,o4⟩:=c7;simp;omega
  .rcases d8 with rfl|rfl
   .exact A.fr b hb
   .have:=aO hb;omega
 .have r:t=x.hv.length:=by rw[dc]at r;simp at r;omega
  subst r;exact hk _ _ _ _ _ A
end
