/- Layer 14: what a broken clause teaches, plain. -/
import Derived.Test.YtbdghpjnifjlmaaGreatBackA
import Derived.Test.YtbdghpjnifjlmaaGreatPropC
set_option linter.unusedVariables false
namespace Go.Proofs.YtbdghpjnifjlmaaGreat.W
open Go Go.Fw Go.RowKit Go.SoP Go.LiP Go.LeP
open Go.Proofs.Tryz (prog)
section
variable {s t s':aI} {l c d bk:List Int} {x y:Int} {i j N:Nat} {cs:List (List Int)} {hv:List (Nat × List Int)} {un:List (List Int)} {tr:List As} {rl:List Int}
theorem Ku (h:Le.uo tr l=true):rJ tr=true/\fC tr/\tr.length<=4096/\∀x∈l,mw tr x:=by
 unfold Le.uo at h;simp only [ts] at h;obtain ⟨ok,hl⟩:=q_ h.1.1;exact ⟨h.1.1,ok,hl,nB.1 h.2⟩
theorem qK (ok:fC tr) (hb:∀x∈l,mw tr x):Cc tr (Le.pG tr (aY l)) (Le.yb tr l):=by
 obtain ⟨d,J,I,h,he⟩:=(Le.Sb ok hb).end ok (y4 _);unfold Le.yb;rw [I];refine Ns ok h ?_;rcases he with ⟨a,_⟩|b
 . exact .inl ⟨a,.inr a⟩
 . exact .inr b
theorem Lz (ok:fC tr) (hb:∀x∈l,mw tr x):(Le.yb tr l).length<=tr.length:=by
 obtain ⟨d,O,J,h,_⟩:=(Le.Sb ok hb).end ok (y4 _);unfold Le.yb;rw [J];exact Le.M4 (Le.tH (px h.br)) λx I=>h.br x ((jT ok h.br).1 I)
theorem BD:Le.pG tr l=Le.pG tr (aY l):=by
 refine Le.K0 (Le.zx _ _) (λx I=>Le.wG (((c6 l).mem x).2 I)) ?_;rcases (Le.nu tr (aY l) 0).2.2 with e| ⟨x,I,e⟩
 . exact .inl e
 . exact .inr ⟨x,((c6 l).mem x).1 I,e⟩
theorem tJ.at_ (h:tJ s tr rl) (b:mw tr x): -x∈s.R .tr/\0<=lv tr x/\lv tr x<rl.length/\s.bI x=rl.getD (lv tr x).toNat 0:=by
 have h1:=h.mem _ b.lt;have I:=h.bI _ b.lt;rw [b.eq] at h1 I;rw [sQ] at I;exact ⟨h1,I.1,I.2.1,I.2.2.symm⟩
theorem tJ.Uj (h:tJ s tr rl) (k:qR N cs s hv un) {v:Int->Int} (m:R5 N v) (J:∀d∈cs,Dg v d):Dv tr v:=by
 refine ⟨λl _=>m.neg l,m.val,λi hi=>m.set _ ?_,λi hi hr=>?_⟩
 . have:=k.g.tv _ (h.mem i hi)
   rwa [k.v] at this
 . rcases h.rs i hi with e| ⟨j,h1,I⟩
   . exact absurd e hr
   . rw [I];exact k.imp j h1 v m J
theorem Ei {v:Int->Int} (ok:fC tr) (V:Dv tr v) (hb:∀x∈bk,mw tr x) (h:Dg v bk):Dg v (Le.yb tr bk):=by
 have I:=Le.Sb ok hb;have Q:Dg v (aY bk):=by
  obtain ⟨y,J,e⟩:=h;exact ⟨y,((c6 bk).mem y).2 J,e⟩
 obtain ⟨y,J,e⟩:=yP ok V I (y4 _) Q;obtain ⟨d,X,O,U,_⟩:=I.end ok (y4 _);unfold Le.yb;rw [O] at J ⊢;exact ⟨y,(jT ok U.br).2 J,e⟩
theorem QP (ok:fC tr) (hb:∀x∈bk,mw tr x) (J:0<Le.pG tr bk):Le.yb tr bk≠[]:=by
 have I:=Le.Sb ok hb;obtain ⟨d,V,Q,U,he⟩:=I.end ok (y4 _);unfold Le.yb;rw [Q];rw [BD] at J;intro e;rcases he with ⟨a,b⟩| ⟨a,b⟩
 . rcases b with b|b
   . omega
   . rw [b] at J;simp [Le.pG] at J
 . obtain ⟨y,O,_⟩:=qV.1 (show 0<gK tr d (Le.pG tr (aY bk)) by omega);have:=(jT ok U.br).2 O;rw [e] at this;simp at this
theorem IY (ok:fC tr) (hb:∀x∈bk,mw tr x):(Le.yb tr bk).Nodup:=by
 have I:=Le.Sb ok hb;obtain ⟨d,Q,O,J,he⟩:=I.end ok (y4 _);unfold Le.yb;rw [O];exact Le.tH (px J.br)
theorem IW {ld:List Int} (h:ld.Nodup):(shr tr ld).Nodup:=by
 cases ld with
 |nil=>exact h
 |cons y t=>exact h.sublist (List.Sublist.cons_cons _ (XT))
theorem R7 {ld:List Int} (h:ld≠[]):shr tr ld≠[]:=by
 cases ld with
 |nil=>exact absurd rfl h
 |cons y t=>simp [shr]
theorem Pj (g:aN s) (b:Em s) (h:yz s i) (hl:0< (s.R .be).length):∃x∈s.R (.a i),s.bI x=(s.R .be).length:=by
 have O:(s.R .be).length - 1< (s.R .be).length:=by omega
 rcases b _ O i h.1 with ⟨y,I,J⟩| ⟨y,I,z,V,U,_,b1,_,b2⟩
 . exact absurd (UN J) (iX g (h.2 y I))
 . have h1: ¬s.bI y<=((s.R .be).length - 1:Nat):=λe=>b1 ((tx g (h.2 y I) O).2 e);have Q:=(qo g (h.2 y I)).2;rw [sQ] at Q;exact ⟨y,I,by omega⟩
theorem CP {rl:List Int} (h:∀a b,a<b->b<rl.length->rl.getD a 0<rl.getD b 0) {a b:Nat} (I:a<=b) (hb:b<rl.length):rl.getD a 0<=rl.getD b 0:=by
 rcases UU a b with e|e
 . exact Int.le_of_lt (h a b e hb)
 . rw [show a=b by omega];exact U3 _
theorem Oa (h:tJ s tr rl) (g:aN s) (ok:fC tr) (hb:∀x∈bk,mw tr x) (hl:0< (s.R .be).length) (ht:∃x∈bk,s.bI x=(s.R .be).length):
 shr tr (Le.yb tr bk)≠[]/\0<=Le.pG tr ((shr tr (Le.yb tr bk)).drop 1)/\Le.pG tr ((shr tr (Le.yb tr bk)).drop 1)<rl.length/\0<=rl.getD (Le.pG tr ((shr tr (Le.yb tr bk)).drop 1)).toNat 0/\
  LS s (shr tr (Le.yb tr bk)) (rl.getD (Le.pG tr ((shr tr (Le.yb tr bk)).drop 1)).toNat 0).toNat:=by
 obtain ⟨U,Q,e0⟩:=ht;obtain ⟨_,a1,a2,a3⟩:=h.at_ (hb U Q);have hz:rl.getD 0 0=0:=h.z λe=>by rw [e] at a2;simp at a2;omega
 have ax:0<rl.length:=by omega
 have ml:=Le.wG (tr:=tr) Q;have ay:0<lv tr U:=by
  rcases XX 0 (lv tr U) with e|e
  . exact e
  . have:lv tr U=0:=by omega
    rw [this] at a3;have:rl.getD (0:Int).toNat 0=0:=hz;omega
 obtain ⟨L,hL⟩: ∃L,L=Le.pG tr bk:=⟨_,rfl⟩
 have V:∃x∈bk,lv tr x=L:=by
  rcases (Le.nu tr bk 0).2.2 with e| ⟨x,hx,e⟩
  . have:Le.pG tr bk=0:=e;omega
  . exact ⟨x,hx,by rw [hL];exact e⟩
 obtain ⟨x1,aa,e1⟩:=V;obtain ⟨c0,c1,c2,c3⟩:=h.at_ (hb x1 aa);have O:=(qo g c0).2;rw [sQ] at O;have hm:=CP h.up (a:=(lv tr U).toNat) (b:=(lv tr x1).toNat) (by omega) (by omega);have eL:rl.getD L.toNat 0=(s.R .be).length:=by rw [<- e1];omega
 have P:=Cc.shr (qK ok hb);rw [<- BD,<- hL] at P;have J:=R7 (tr:=tr) (QP ok hb (by omega));obtain ⟨l,X⟩: ∃l,l=shr tr (Le.yb tr bk):=⟨_,rfl⟩
 rw [<- X] at P J ⊢;have Y:l.Nodup:=by rw [X];exact IW (IY ok hb)
 cases l with
 |nil=>exact absurd rfl J
 |cons z r=>
  clear J X;show _/\0<=Le.pG tr r/\Le.pG tr r<_/\0<=rl.getD (Le.pG tr r).toNat 0/\LS s (z::r) (rl.getD (Le.pG tr r).toNat 0).toNat;have Z:=(P.bJ 0 (by simp)).2 rfl;have Z:lv tr z=L:=Z;have ag:∀y∈r,lv tr y<L:=λy I=>by
   obtain ⟨j,hj,e⟩:=I'.1 I;have h1:=P.bJ (j+1) (by simpa using hj);have e2:(z::r).getD (j+1) 0=y:=by simp [List.getD,hj,e]
   rw [e2] at h1;have h2:=P.le y (vy _ I);have h3:lv tr y≠L:=λe=>by have:=h1.1 e;omega
   omega
  have ac:=Le.zx tr r;have a6:Le.pG tr r<L:=by
   rcases (Le.nu tr r 0).2.2 with e| ⟨y,I,e⟩
   . have:Le.pG tr r=0:=e;omega
   . have:=ag y I;have:Le.pG tr r=lv tr y:=e.symm;omega
  have az:L<rl.length:=by omega
  have nn:0<=rl.getD (Le.pG tr r).toNat 0:=by
   have:=CP h.up (a:=0) (b:=(Le.pG tr r).toNat) (by omega) (by omega);omega
  have up:=h.up (Le.pG tr r).toNat L.toNat (by omega) (by omega);refine ⟨by simp,ac,by omega,nn,⟨λx hx=> (h.at_ (P.br x hx)).1,⟨z,by simp,?_,λy I J=>?_⟩,by omega,?_,Y⟩⟩
  . rw [(h.at_ (P.br z (by simp))).2.2.2,Z,eL]
  . rcases UI.1 I with e|I
    . exact absurd e J
    . have a7:=h.at_ (P.br y (vy _ I));have hm:=Le.wG (tr:=tr) I;have:=CP h.up (a:=(lv tr y).toNat) (b:=(Le.pG tr r).toNat) (by omega) (by omega);omega
  . rcases (Le.nu tr r 0).2.2 with e| ⟨y,I,e⟩
    . have:Le.pG tr r=0:=e;rw [this];exact .inl (by have:rl.getD (0:Int).toNat 0=0:=hz;omega)
    . have e:lv tr y=Le.pG tr r:=e;refine .inr ⟨y,vy _ I,?_⟩;rw [(h.at_ (P.br y (vy _ I))).2.2.2,e];omega
theorem LO (h:tJ s tr rl) (k:qR N cs s hv un) (ok:fC tr) (hb:∀x∈bk,mw tr x) (f:DN N cs bk):DN N cs (shr tr (Le.yb tr bk)):=by
 intro v m I;have V:=h.Uj k m I;refine DW ok V (λx J=> (qK ok hb).br x J) (Ei ok V hb (f v m I))
def qT (s:aI) (t:Nat):List Int:=(((s.R .tr).take t).filter λx=>decide (s.m_ x<0)).reverse.map λx=> -x
theorem Cg {t:Nat} (h:t< (s.R .tr).length):qT s (t+1)=if s.m_ ((s.R .tr).getD t 0)<0 then -((s.R .tr).getD t 0)::qT s t else qT s t:=by
 have e:(s.R .tr).take (t+1)=(s.R .tr).take t++ [(s.R .tr).getD t 0]:=by
  rw [UR,Mb h];simp [List.getD,h]
 unfold qT;rw [e,WS,List.reverse_append,LV];by_cases hr:s.m_ ((s.R .tr).getD t 0)<0
 . rw [if_pos hr,Wx (by simpa using hr)];rfl
 . rw [if_neg hr,Wy (by simpa using hr)];rfl
theorem yd (g:aN s) {p:Nat} (hp:p< (s.R .tr).length):s.m_ ((s.R .tr).getD p 0)<0↔(p:Int)∈s.R .be:=by
 constructor
 . intro h;refine UP λhn=>?_;obtain ⟨i,e,_⟩:=g.Qq p hp hn;omega
 . intro h;have:=g.Rc p hp h;omega
theorem ME (g:aN s):(s.R .be).Nodup:=by
 unfold List.Nodup;rw [U2];intro i j hi J I e;have:=g.bs i j I J;simp only [List.getD,Mb hi,Mb J,US] at this;omega
theorem Ey {be:List Int} (h:be.Nodup) (t:Nat):be.countP (λe=>decide (e< ((t+1:Nat):Int)))=be.countP (λe=>decide (e< (t:Int)))+if (t:Int)∈be then 1 else 0:=by
 induction be with
 |nil=>rfl
 |cons a r ih=>
  obtain ⟨h1,Q⟩:=WV.1 h;rw [Vq,Vq,ih Q];by_cases e:a=(t:Int)
  . subst e;rw [if_neg h1,if_pos (by simp;omega)];simp
  . have J:((t:Int)∈a::r)↔(t:Int)∈r:=⟨λh=>by rcases UI.1 h with h|h;exact absurd h.symm e;exact h,vy _⟩
    have O:decide (a< ((t+1:Nat):Int))=decide (a< (t:Int)):=decide_eq_decide.2 (by omega);rw [O];by_cases I:(t:Int)∈r
    . rw [if_pos I,if_pos (J.2 I)];omega
    . rw [if_neg I,if_neg λh=>I (J.1 h)];omega
theorem AE (g:aN s):∀t,t<=(s.R .tr).length->(qT s t).length=(s.R .be).countP λe=>decide (e< (t:Int))
 |0,_=>by
  have:(s.R .be).countP (λe=>decide (e< ((0:Nat):Int)))=0:=by
   rw [WD];intro e he;obtain ⟨j,I,rfl⟩:=I'.1 he;have:=(g.bl j I).1;simp only [List.getD,Mb I,US] at this;simp;omega
  rw [this];simp [qT]
 |t+1,h=>by
  rw [Cg (by omega),Ey (ME g),<- AE g t (by omega)];by_cases hr:s.m_ ((s.R .tr).getD t 0)<0
  . rw [if_pos hr,if_pos ((yd g (by omega)).1 hr)];rfl
  . rw [if_neg hr,if_neg λe=>hr ((yd g (by omega)).2 e)];rfl
theorem E0 (g:aN s):(qT s (s.R .tr).length).length=(s.R .be).length:=by
 rw [AE g _ (y4 _)];rw [List.countP_eq_length];intro e he;obtain ⟨j,I,rfl⟩:=I'.1 he;have:=(g.bl j I).2;simp only [List.getD,Mb I,US] at this;simpa using this
theorem ON (g:aN s) {k:Nat} (I:k< (s.R .be).length):s.bI ((s.R .tr).getD ((s.R .be).getD k 0).toNat 0)=(k+1:Nat):=by
 have hb:=g.bl k I;rw [g.lv _ (by omega)];have h1:=wE g (p:=((s.R .be).getD k 0).toNat) I;have O:=VK (p:=λe=>decide (e<=(((s.R .be).getD k 0).toNat:Int))) (l:=s.R .be);have U:=h1.2 (by omega);rcases UU (k+1) (s.R .be).length with e|e
 . have J:=wE g (p:=((s.R .be).getD k 0).toNat) e;have h5:=g.bs k (k+1) (by omega) e;have Q: ¬k+1<_:=λh=>by have:=J.1 h;omega
   omega
 . omega
theorem qF (g:aN s):x∈qT s (s.R .tr).length↔∃k,k< (s.R .be).length/\ -x=(s.R .tr).getD ((s.R .be).getD k 0).toNat 0:=by
 unfold qT;rw [K',L0];constructor
 . rintro ⟨y,J,rfl⟩;rw [X9,U8] at J;obtain ⟨p,hp,e⟩:=BH J.1;have h1:s.m_ y<0:=by simpa using J.2
   rw [<- e] at h1;obtain ⟨k,I,Q⟩:=I'.1 ((yd g hp).1 h1);refine ⟨k,I,?_⟩;have O:(s.R .be).getD k 0=(p:Int):=by simp [List.getD,I,Q]
   rw [O,tn,e,U_]
 . rintro ⟨k,I,e⟩;have hb:=g.bl k I;refine ⟨-x,X9.2 (U8.2 ⟨?_,?_⟩),U_ x⟩
   . rw [e];exact bE (by omega)
   . rw [e];have:=(yd g (p:=((s.R .be).getD k 0).toNat) (by omega)).2 (by
      rw [Wi hb.1];exact bE I)
     simpa using this
theorem Ro (g:aN s) (hl:0< (s.R .be).length):LS s (qT s (s.R .tr).length) ((s.R .be).length - 1):=by
 have bI:∀ {y:Int} {k:Nat},k< (s.R .be).length-> -y=(s.R .tr).getD ((s.R .be).getD k 0).toNat 0->s.bI y=(k+1:Nat):=λ{y k} I e=>by
  rw [<- sQ,e];exact ON g I
 refine ⟨λx X=>?_,?_,by omega,?_,?_⟩
 . obtain ⟨k,I,e⟩:=(qF g).1 X;have hb:=g.bl k I;rw [e];exact bE (by omega)
 . have I:(s.R .be).length - 1< (s.R .be).length:=by omega
   refine ⟨-((s.R .tr).getD ((s.R .be).getD ((s.R .be).length - 1) 0).toNat 0),(qF g).2 ⟨_,I,U_ _⟩,?_,λy U O=>?_⟩
   . rw [bI I (U_ _)];omega
   . obtain ⟨k,J,e⟩:=(qF g).1 U;rw [bI J e];have:k≠(s.R .be).length - 1:=λV=>O (by rw [<- V,<- e,U_]);omega
 . rcases UZ ((s.R .be).length - 1) with e|e
   . exact .inl e
   . have I:(s.R .be).length - 2< (s.R .be).length:=by omega
     refine .inr ⟨-((s.R .tr).getD ((s.R .be).getD ((s.R .be).length - 2) 0).toNat 0),(qF g).2 ⟨_,I,U_ _⟩,?_⟩;rw [bI I (U_ _)];omega
 . unfold qT;rw [K'];have h1:(s.R .tr).Nodup:=by
    have:=g.nd;unfold List.Nodup at this ⊢;rw [Wv] at this;exact this.imp λ{a b} h e=>h (by rw [e])
   have Q:((s.R .tr).filter λx=>decide (s.m_ x<0)).reverse.Pairwise λa b=>a≠b:=List.pairwise_reverse.2 (List.Pairwise.imp (λh=>Vc h) (Xj _ h1));unfold List.Nodup;rw [Wv];exact Q.imp λ{a b} h e=>h (by omega)
theorem Oc (k:qR N cs s hv un) (U:yz s i):DN N cs (qT s (s.R .tr).length):=by
 intro v m X;refine UP λhn=>?_;have Z:∀x∈s.vP,v x=1:=λx V=>by
  refine UP λh1=>hn ?_;have O:=k.g.N7 x V;have hi:=k.g.tv x O;rw [k.v] at hi;have h2:=m.set x hi;have h3:=m.val x;refine ⟨-x,(qF k.g).2 ?_,by rw [m.neg];omega⟩;obtain ⟨e,he,e2⟩:=L0.1 V;obtain ⟨j,Q,e3⟩:=I'.1 he;refine ⟨j,Q,?_⟩;have e4:(s.R .be).getD j 0=e:=by simp [List.getD,Q,e3]
  rw [e4,e2,U_]
 have key:∀x∈s.R .tr,v x=1:=k.g.wC Z λc J l hl Y _=>by
  obtain ⟨i,hi,rfl⟩:=J;obtain ⟨y,I,hv⟩:=k.imp i hi v m X;by_cases e:y=l
  . rw [<- e];exact hv
  . have:=Y y I e;rw [m.neg,hv] at this;omega
 obtain ⟨y,I,hv⟩:=k.imp i U.1 v m X;have:=key _ (U.2 y I);rw [m.neg,hv] at this;omega
end
section
variable {s t s':aI} {l c d bk T:List Int} {x y:Int} {i j N:Nat} {cs ds:List (List Int)} {hv:List (Nat × List Int)} {un:List (List Int)} {tr:List As} {rl:List Int}
def E9 (s:aI) (l:List Int):Prop:=∀ds:List (List Int),(∀x,x∈ds.map aY↔∃i,s.aO i/\aY (s.R (.a i))=x)->uB ds l
noncomputable def vT (T tr:List Int) (x:Int):Int:=if x∈T then 1 else if -x∈T then -1 else if x∈tr then -1 else if -x∈tr then 1 else if 0<x then 1 else if x<0 then -1 else 0
theorem QM (g:aN s) (hv:s.vars=N) (I:P7 T):R5 N (vT T (s.R .tr)):=by
 have J:(0:Int) ∉ s.R .tr:=λh=> (g.tv _ h).1 rfl;have h1:(0:Int) ∉ T:=λh=>I 0 h (by simpa using h);refine ⟨λl=>?_,λl=>?_,λl hl=>?_⟩
 . unfold vT;rw [U_];by_cases a:l∈T
   . rw [if_neg (I l a),if_pos a,if_pos a]
   . by_cases b: -l∈T
     . rw [if_pos b,if_neg a,if_pos b];rfl
     . rw [if_neg b,if_neg a,if_neg a,if_neg b];by_cases c:l∈s.R .tr
       . rw [if_neg (iX g (x:= -l) (by rw [U_];exact c)),if_pos c,if_pos c];rfl
       . by_cases d: -l∈s.R .tr
         . rw [if_pos d,if_neg c,if_pos d]
         . rw [if_neg d,if_neg c,if_neg c,if_neg d];by_cases e:0<l
           . rw [if_neg (by omega),if_pos (by omega),if_pos e]
           . by_cases f:l<0
             . rw [if_pos (by omega),if_neg e,if_pos f];rfl
             . rw [if_neg (by omega),if_neg (by omega),if_neg e,if_neg f];rfl
 . unfold vT;repeat' split
   all_goals omega
 . unfold vT;have:=hl.1;repeat' split
   all_goals omega
theorem Hw (g:aN s) (X:∀x∈c,x≠0) (hb:cu c T=false) (hu:cI c T=0) (a:Int) (ha:∀x∈c,x≠a-> -x∈s.R .tr):Dg (vT T (s.R .tr)) c:=by
 by_cases h1:∃x∈c,x∈T
 . obtain ⟨x,I,Q⟩:=h1;exact ⟨x,I,by unfold vT;rw [if_pos Q]⟩
 have hn:∀x∈c,x ∉ T:=λx I e=>h1 ⟨x,I,e⟩;by_cases V:∃x∈c,x≠a/\ -x ∉ T
 . obtain ⟨x,I,J,Q⟩:=V;have Y:=ha x I J;exact ⟨x,I,by unfold vT;rw [if_neg (hn x I),if_neg Q,if_neg (iX g Y),if_pos Y]⟩
 exfalso;have hf:∀x∈c,x≠a-> -x∈T:=λx I J=>UP λe=>V ⟨x,I,J,e⟩;have U:∃x∈c,-x ∉ T:=UP λe=>by
  rw [<- U5,cx] at hb;exact hb λx I=>UP λe2=>e ⟨x,I,e2⟩
 obtain ⟨x,I,O⟩:=U;have e:x=a:=UP λJ=>O (hf x I J);subst e;have:=nU (t:=T) (l:=x) (X x I) O c 0 (λy Z=>⟨hn y Z,by
  by_cases e:y=x
  . exact .inl e
  . exact .inr (hf y Z e)⟩) (.inr ⟨rfl,I⟩)
 have hu:je T c 0=0:=hu;rw [this] at hu;exact X x I hu
theorem BI (h:aY c=aY d) (x:Int):x∈c↔x∈d:=by rw [<- (c6 c).mem,<- (c6 d).mem,h]
theorem LP (O:∀x∈c,x≠0) (V:P7 T) (h:∀x,x∈c↔x∈d) (e:cu c T=false/\cI c T=0):cu d T=false/\cI d T=0:=by
 obtain ⟨Q,I⟩:=e;refine ⟨?_,UP λhn=>?_⟩
 . rw [<- U5,cx] at Q ⊢;exact λhb=>Q λx U=>hb x ((h x).1 U)
 . obtain ⟨a1,a2,a3,a4⟩:=mW (λy J=>O y ((h y).2 J)) hn;have:=nU (t:=T) (O _ ((h _).2 a1)) a3 c 0 (λy J=>by
    rcases a4 y ((h y).1 J) with e|e
    . exact ⟨by rw [e];exact a2,.inl e⟩
    . exact ⟨λI=>V _ e (by rw [U_];exact I),.inr e⟩) (.inr ⟨rfl,(h _).2 a1⟩)
   have I:je T c 0=0:=I;rw [this] at I;exact hn I
theorem Gq (g:aN s) (h:∀T,P7 T->(∀c,s.AP c->cu c T=false/\cI c T=0)->(∀x∈l,-x∈T)->False):E9 s l:=by
 intro ds Y;have Q:∀c∈ds,∃i,s.aO i/\∀x,x∈c↔x∈s.R (.a i):=λc J=>by
  obtain ⟨i,hi,e⟩:=(Y _).1 (U1 J);exact ⟨i,hi,BI e.symm⟩
 have V:NZ ds:=λx X y Z=>by
  obtain ⟨i,hi,e⟩:=Q x X;exact (g.Qv ⟨i,hi,rfl⟩ y ((e y).1 Z)).1
 by_cases ht:lO l=true
 . exact .inl ht
 obtain ⟨T,U,O⟩:=yg (cs:=ds) (d:=pM l) V _ _ (y4 _) .refl;rcases O with O|hE
 . exact .inr ⟨T,U,O⟩
 . have I:=CL V (Ad (by simpa using ht)) U;refine (h T I (λc J=>?_) (λx X=>Dy U _ (pQ.2 (by rw [U_];exact X)))).elim;obtain ⟨i,hi,rfl⟩:=J;obtain ⟨c,J,e⟩:=L0.1 ((Y _).2 ⟨i,hi,rfl⟩);exact LP (V c J) I (BI e) (hE c J)
theorem Ke (h:tJ s tr rl) (g:aN s) (hv:s.vars=N) (hB:yz s i) (ok:fC tr) (hb:∀x∈s.R (.a i),mw tr x):E9 s (shr tr (Le.yb tr (s.R (.a i)))):=by
 refine Gq g λT hT hE hl=>?_;have m:=QM g hv hT;have V:Dv tr (vT T (s.R .tr)):=by
  refine ⟨λl _=>m.neg l,m.val,λk O=>m.set _ ?_,λk O hr=>?_⟩
  . have:=g.tv _ (h.mem k O)
    rwa [hv] at this
  . rcases h.rs k O with e| ⟨j,h1,h2⟩
    . exact absurd e hr
    . have hd: ¬ji tr k< (aX tr k).bI:=λe=>hr (ok.vP k O e);obtain ⟨_,_,Z⟩:=ok.m_ k O hd;rw [h2] at Z ⊢;have I:s.AP (s.R (.a j)):=⟨j,h1,rfl⟩
      obtain ⟨Y,U⟩:=hE _ I;exact Hw g (λx J=> (g.Qv I x J).1) Y U _ λx J X=> (h.at_ (Z x J X).1).1
 have I:s.AP (s.R (.a i)):=⟨i,hB.1,rfl⟩
 obtain ⟨Y,U⟩:=hE _ I;have Q:Dg (vT T (s.R .tr)) (s.R (.a i)):=Hw g (λx J=> (g.Qv I x J).1) Y U 0 λx J _=>hB.2 x J;obtain ⟨y,hy,e⟩:=DW ok V (λx J=> (qK ok hb).br x J) (Ei ok V hb Q);have h1:=hl y hy;unfold vT at e;rw [if_neg (λe=>hT y e h1),if_pos h1] at e;exact absurd e (by decide)
theorem Pn (g:aN s) (J:yz s i):E9 s (qT s (s.R .tr).length):=by
 refine Gq g λT Z Q hl=>?_;have Y:∀x∈s.vP,x∈T:=λx I=>by
  have:=hl (-x) ((qF g).2 (by
   obtain ⟨e,he,V⟩:=L0.1 I;obtain ⟨j,O,U⟩:=I'.1 he;refine ⟨j,O,?_⟩;have X:(s.R .be).getD j 0=e:=by simp [List.getD,O,U]
   rw [X,U_];exact V.symm))
  rwa [U_] at this
 have hs:=g.wv Y Z Q;have:=(Q _ ⟨i,J.1,rfl⟩).1;rw [<- U5,cx] at this;exact this λx I=>hs _ (J.2 x I)
theorem O6 (g:aN s) (J:yz s i) (U:s.R .be= []):E9 s []:=by
 refine Gq g λT Q O _=>?_;have hs:=g.wv (λx I=>by unfold aI.vP at I;rw [U] at I;simp at I) Q O;have:=(O _ ⟨i,J.1,rfl⟩).1;rw [<- U5,cx] at this;exact this λx I=>hs _ (J.2 x I)
end
section
variable {w0 w w' w1 w2:World} {B N i:Nat} {L L':Nat->Nat} {x:Xs} {l:List Int} {cs:List (List Int)} {hv:List (Nat × List Int)} {un:List (List Int)}
theorem PC {T:TypeId} {q:sn} {d:Nat} (h:dz T w q d l):l.length<=d:=by
 rcases h.un with ⟨_,J,I⟩| ⟨g,cur,_,_,I,_⟩
 . rw [I];exact vx _
 . exact I
theorem Oo (h:SR w0 w B L N x) (g:aN x.s) (hN:x.s.vars<=1000):
 Calls prog dE.id #[ck B] w λe w'=>∃ (p:sn) (c:Nat),e=.returned (.tuple #[.slice p (qT x.s (x.s.R .tr).length).length c,.i (((x.s.R .be).length:Int) - 1),.i (x.s.R .be).length])/\
  dz aq w' p c (qT x.s (x.s.R .tr).length)/\(∀b,aG p=some b->w.heap.size<=b)/\ak w w':=by
 refine dE.aj ?_;obtain ⟨H,pm,_⟩:=h.pm id;have a7:=g.Ck;have ag:=g.P_;refine ⟨_,rfl,_,ae h.at rfl,(Ao pm (by omega)).mono ?_⟩;rintro e w3 ⟨qb,db,rfl,ob,Y,fb⟩;have s3:=Y.size;refine ⟨_,_,_,rfl,λp n c I u z=>∃t:Nat,I=t/\t<=(x.s.R .tr).length/\z=(x.s.R .tr).length - t/\n=(qT x.s t).length/\dz aq u p c (qT x.s t)/\(∀b,aG p=some b->w3.heap.size<=b)/\ak w3 u,
  ⟨_,0,rfl,vx _,rfl,by simp [qT],by simp [qT];exact Ow.nil _ _ _,λb hb=>by simp [aG] at hb,aD.refl _⟩,?_⟩
 rintro p n c I u z _ ⟨t,rfl,ht,rfl,rfl,o,fr,G⟩;refine ah (λr=>?_) (λr=>?_)
 . have r:t< (x.s.R .tr).length:=by simp at r;omega
   refine (ob.grow G).ix 0 (by omega) rfl (by omega) λa ha=>⟨_,ha,?_⟩
   rw [tn];have Q:(x.s.R .tr).getD t 0∈x.s.R .tr:=bE r;have S:=h.grow (Y.trans G);have ac:=g.tv _ Q;have ap:=ac.bd g.eG;refine ⟨_,rfl,_,ae S.at rfl,(S.fE g _).mono ?_⟩;rintro e a6 ⟨rfl,O⟩;refine ⟨_,rfl,?_⟩;rw [B2 g Q];have V:=Cg (s:=x.s) r;have hlen:=AE g t (by omega);have aw:=VK (p:=λe:Int=>decide (e< (t:Int))) (l:=x.s.R .be);refine ah (λU=>λaa X J=>?_) (λU=>?_)
   . have U:x.s.m_ ((x.s.R .tr).getD t 0)<0:=by simpa using U
     rw [if_pos U] at V;have aT:=J.num;have az:=O.size;have sG:=G.size;have ew:IntKind.i64.wrap (0 - (x.s.R .tr).getD t 0)= -((x.s.R .tr).getD t 0):=by rw [aA (by omega) (by omega)];omega
     rw [ew] at J;have o1:dz aq X (some ⟨aa,0,none⟩) 1 [-((x.s.R .tr).getD t 0)]:=Ow.df J.at (y4 _) (by decide) rfl rfl;refine o1.SB c9 ((o.grow O).grow J.mod) rfl rfl fz (by simp;omega) λan p' c' o' m' Z ax=>?_;refine ⟨_,?_,t+1,wN,by omega,rfl,by rw [V];rfl,by rw [V];exact o',λb hb=>?_,((G.trans O).trans J.mod).then m' λb hb e=>?_⟩
     . omega
     . rcases Z with rfl|rfl
       . have:=aL hb;omega
       . have:=aL hb;have:=J.size;omega
     . have:=aL e;omega
   . have U: ¬x.s.m_ ((x.s.R .tr).getD t 0)<0:=by simpa using U
     rw [if_neg U] at V;exact ⟨_,by omega,t+1,wN,by omega,rfl,by rw [V],by rw [V];exact o.grow O,fr,G.trans O⟩
 . have r:t=(x.s.R .tr).length:=by simp at r;omega
   subst r;have hlen:=E0 g;rw [hlen,aA (by omega) (by omega)];exact ⟨p,c,rfl,o,λb hb=>by have:=fr b hb;omega,Y.trans G⟩
theorem Nh (h:SR w0 w B L N x) (k:qR N cs x.s hv un) (hN:N<=1000) (Q:yz x.s i) (hl:0< (x.s.R .be).length) {p:sn} {n c:Nat} (vb:Vw sT w p (x.s.R (.a i))) (hn:n=(x.s.R (.a i)).length):
 Calls prog fZ.id #[ck B,.slice p n c] w λe w'=>∃ (q:sn) (d:Nat) (l:List Int) (bl:Nat) (lv:Int),e=.returned (.tuple #[.slice q l.length d,.i bl,.i lv])/\dz aq w' q d l/\(∀b,aG q=some b->w.heap.size<=b)/\ak w w'/\
  LS x.s l bl/\DN N cs l/\E9 x.s l/\0<=lv/\lv<=l.length:=by
 refine fZ.aj ?_;have g:=k.g;have ax:=k.v;have ag:=g.al i;have bv:=g.Ck;refine (OD h g k.v hN vb hn ag λy hy=>by rw [<- k.v];exact g.cv i Q.1 y ((g.ca i Q.1 y).2 hy)).mono ?_;rintro e w1 ⟨tp,tc,rp,rc,tr,rl,rfl,C,tv,vr,g1,a_⟩;have s1:=g1.size;refine ⟨_,_,_,_,_,_,rfl,?_⟩;refine (Le.JQ tv rfl (vb.grow g1) hn (by unfold maxLen;omega)).mono ?_;rintro e w4 ⟨q2,d2,o,ho,rfl,O,Z⟩;have s4:=Z.size;refine ⟨_,_,_,_,rfl,?_⟩;have ht:=Pj g k.J3 Q hl;cases hm:Le.uo tr (x.s.R (.a i)) with
 |false=>
  refine bP rfl ((Oo (h.grow (g1.trans Z)) g (by omega)).mono ?_);rintro e w7 ⟨p7,c7,rfl,o7,f7,g7⟩;have hlen:=E0 g;refine ⟨_,_,_,_,_,rfl,p7,c7,_,(x.s.R .be).length - 1,(x.s.R .be).length,?_,o7,λb hb=>by have:=f7 b hb;omega,(g1.trans Z).trans g7,Ro g hl,Oc k Q,Pn g Q,by omega,by omega⟩;rw [show (((x.s.R .be).length - 1:Nat):Int)=((x.s.R .be).length:Int) - 1 by omega]
 |true=>
  rw [hm] at ho;simp only [if_true] at ho;subst ho;obtain ⟨m1,ok,m2,m3⟩:=Ku hm;have a6:=Lz ok m3;have P:=qK ok m3;refine bA rfl ((Le.xM (tv.grow Z) rfl m1 O.vw rfl (by omega) P.br).mono ?_);rintro e a8 ⟨q3,d3,rfl,O3,Y,f11⟩;have bY:=Y.size;have an:=OM tr (Le.yb tr (x.s.R (.a i)));have U:=P.shr.br;have L1:=Oa C g ok m3 hl ht;have F1:=LO C k ok m3 (k.imp i Q.1);have R1:=Ke C g k.v Q ok m3;obtain ⟨l,el⟩: ∃l,l=shr tr (Le.yb tr (x.s.R (.a i))):=⟨_,rfl⟩
  rw [<- el] at O3 an U L1 F1 R1 ⊢;obtain ⟨L2,L3,L4,L5,L6⟩:=L1;refine ⟨_,_,_,rfl,(Le.CD (tv.grow (Z.trans Y)) rfl m1 O3.vw rfl (by omega) (PC O3) U).mono ?_⟩;rintro e I ⟨rfl,J⟩;have ar:l.isEmpty=false:=by cases l with
   |nil=>exact absurd rfl L2
   |cons _ _=>rfl
  rw [ar];refine ⟨_,rfl,bA (by simpa using L3) ⟨ak I.drew,aD.refl _,?_⟩⟩;have V:=(Z.trans Y).trans J;refine (vr.grow (V.trans (aD.refl I).drew)).ix 0 L3 rfl L4 λa ha=>⟨_,λu gu=>dZ gu ha id,?_⟩
  refine (Le.yQ (tv.grow (V.trans (aD.refl I).drew)) rfl m1 ((O3.grow J).grow (aD.refl I).drew).vw rfl (by omega) U).mono ?_;rintro e az ⟨v,rfl,⟨v0,v1⟩,X⟩;refine ⟨_,rfl,X,q3,d3,l,_,v,?_,((O3.grow J).grow (aD.refl I).drew).grow X,λb hb=>by have:=f11 b hb;omega,((g1.trans V).trans (aD.refl I).drew).trans X,L6,F1,R1,v0,v1⟩;rw [Wi L5]
end
section
variable {w0 w w' w1 w2:World} {B N i:Nat} {L L':Nat->Nat} {x:Xs} {l:List Int} {cs:List (List Int)} {hv:List (Nat × List Int)} {un:List (List Int)}
theorem AL:pR prog uJ cK 5 56=true:=by kernel_rfl
theorem RY:nE prog nv aE 24=true:=by kernel_rfl
theorem Qe {u:Hc} {b:Nat} (h:bT w b #[.i u.i,u.sl.v,.i u.lv,.i u.sz,.bool u.lk]):Vr 5 JJ w (some ⟨b,0,none⟩) [u]:=by
 intro j I;have:j=0:=by simpa using I
 subst this;exact ⟨_,rfl,ae h rfl,ae h rfl,ae h rfl,ae h rfl,ae h rfl,trivial⟩
theorem RQ {n:Nat} (hn:n<=4096) (h:∀y∈l,dN n y) (hl:l.length<=4096):xN n l=true:=by
 unfold xN jf;simp only [ts,UK,decide_eq_true_eq];exact ⟨⟨λy I=>yo (by omega) (h y I),hl⟩,λy I=> (jc (by omega)).2 (h y I)⟩
theorem SR.Uf (h:SR w0 w B L N x) (g:aN x.s) (Q:x.s.nc<262144) (I:xN x.s.vars l=true) {p:sn} {n c:Nat} (V:Vw sT w p l) (hn:n=l.length) (O:n<=maxLen):
 Calls prog iW.id #[ck x.pb,.slice p n c] w λe w'=>e=.returned (.tuple #[.i x.s.nc,.i 0])/\∃L' s',SR w0 w' B L' N {x with s:=s'}/\Kp w0 w w' L L'/\aN s'/\lS x.s l s':=by
 obtain ⟨H,pm,hl⟩:=h.pm id;refine (sb pm g V hn O).mono ?_;rintro e w' ⟨Z,X,rfl,s',Y,p,J,U⟩;rcases U with ⟨_,_,e,_⟩| ⟨_,_,_,e,_⟩| ⟨rfl,rfl,_,_,a⟩
 . rw [I] at e;exact absurd e (by decide)
 . omega
 . have:=h.wV hl pm.lt p;exact ⟨rfl,_,s',this.1,this.2,J,a⟩
def Xs.lrn (x:Xs) (s':aI) (sl:Sl) (l:List Int) (lv:Int) (hs us:Sl):Xs:=
 if 1<l.length then {x with s:=s',hs:=hs,hv:=x.hv++ [⟨x.s.nc,sl,l,lv,l.length,false⟩]} else {x with s:=s',us:=us,un:=x.un++ [(sl,l)]}
theorem OG (h:SR w0 w B L N x) (g:aN x.s) (aT:x.s.nc<262144) (a8:xN x.s.vars l=true) {p:sn} {n c:Nat} (ro:RO w L ⟨p,n,c⟩ l) (hx:l.length<=4096) (lv:Int) (a':x.hv.length<=1000000) (bb:x.un.length<=1000000):
 Calls prog iE.id #[ck B,.slice p n c,.i lv] w λe w'=>e=.returned (.tuple #[])/\∃L' s' hs us,SR w0 w' B L' N (x.lrn s' ⟨p,n,c⟩ l lv hs us)/\Kp w0 w w' L L'/\aN s'/\lS x.s l s':=by
 have hn:n=l.length:=ro.n;refine iE.aj ⟨_,rfl,_,ae h.at rfl,(h.Uf g aT a8 ro.v hn (by unfold maxLen;omega)).mono ?_⟩;rintro e w3 ⟨rfl,L3,s',S3,k3,g',ha⟩;have ap:RO w3 L3 ⟨p,n,c⟩ l:=k3.ro ro;refine ⟨_,_,rfl,bA rfl (ah (λr=>?_) (λr=>?_))⟩
 . have r:1<l.length:=by simp at r;omega
   refine ⟨_,rfl,_,_,_,ae S3.at rfl,λZ Q I=>?_⟩;have J:=S3.grow I.mod;obtain ⟨r1,r2,r3⟩:=J.hv id;have k4:Kp w0 w3 Q L3 L3:=mI.grow I.mod;have Y:=k4.ro ap;have hb:bT Q Z #[.i (x.s.nc:Int),(⟨p,n,c⟩:Sl).v,.i lv,.i (l.length:Int),.bool false]:=by have:=I.has;rw [hn] at this;rw [hn];exact this
   refine Row.mA BE AL r1 (Qe (u:=⟨x.s.nc,⟨p,n,c⟩,l,lv,l.length,false⟩) hb) r2 rfl (by simp;omega) λw8 p' c' o8 m8 O ax=>⟨_,rfl,?_⟩
   have X:bT w8 B _:=J.at.keep m8 λe=>by have:=(r3 B e).1;rw [J.ml.1] at this;exact absurd this (by decide)
   refine cz X rfl rfl λav U V=>?_;have:=J.MW (q:=⟨p',(x.hv++ [(⟨x.s.nc,⟨p,n,c⟩,l,lv,l.length,false⟩:Hc)]).length,c'⟩) (hv':=x.hv++ [(⟨x.s.nc,⟨p,n,c⟩,l,lv,l.length,false⟩:Hc)]) m8 o8 rfl (E3 O (y4 _)) (λu hu=>by
    rcases F'.1 hu with hu|hu
    . exact J.hr id u hu
    . rw [Bs] at hu;subst hu;exact Y) U V (J.Ti (by decide) r3 O (y4 _))
   refine ⟨rfl,_,s',⟨p',(x.hv++ [(⟨x.s.nc,⟨p,n,c⟩,l,lv,l.length,false⟩:Hc)]).length,c'⟩,x.us,?_,(k3.trans k4).trans this.2,g',ha⟩;unfold Xs.lrn;rw [if_pos r];exact this.1
 . have r: ¬1<l.length:=by simp at r;omega
   refine ⟨_,rfl,_,_,_,ae S3.at rfl,λZ Q I=>?_⟩;have J:=S3.grow I.mod;obtain ⟨r1,r2,r3⟩:=J.un id;have k4:Kp w0 w3 Q L3 L3:=mI.grow I.mod;have Y:=k4.ro ap;refine r1.lP RY (⟨p,n,c⟩:Sl) I.has rfl (by rw [UL];exact r2) (λ_=>rfl) (by simp;omega) λw8 p' c' o8 m8 O ax=>⟨_,rfl,?_⟩
   have X:bT w8 B _:=J.at.keep m8 λe=>by have:=(r3 B e).1;rw [J.ml.1] at this;exact absurd this (by decide)
   refine cz X rfl rfl λav U V=>?_;have:=J.Lh (q:=⟨p',(x.un.map (·.1)).length+1,c'⟩) (un':=x.un++ [((⟨p,n,c⟩:Sl),l)]) m8 (by rw [LV];exact o8) (by simp) (E3 O (y4 _)) (λu hu=>by
    rcases F'.1 hu with hu|hu
    . exact J.ur id u hu
    . rw [Bs] at hu;subst hu;exact Y) U V (J.Ti (by decide) r3 O (y4 _))
   refine ⟨rfl,_,s',x.hs,⟨p',(x.un.map (·.1)).length+1,c'⟩,?_,(k3.trans k4).trans this.2,g',ha⟩;unfold Xs.lrn;rw [if_neg r];exact this.1
end
section
variable {w0 w w' w1 w2:World} {B N i:Nat} {L L':Nat->Nat} {x:Xs} {l:List Int} {cs:List (List Int)} {hv:List (Nat × List Int)} {un:List (List Int)}
theorem QY (a b c:Value):(#[]++ #[a]++ #[b,c]:Array Value)= #[a,b,c]:=by simp
theorem FV (h:SR w0 w B L N x) (g:aN x.s) {U V:Nat} (h1:bT w U #[ck B]) {u:Hc} (Y:bT w V #[.i u.i,u.sl.v,.i u.lv,.i u.sz,.bool u.lk]) (l:Int):
 Calls prog dP.id #[.i l,.pointer (some ⟨U,0,none⟩),.pointer (some ⟨V,0,none⟩)] w λe w'=>e=.returned (.bool (decide (x.s.value l>0) && (x.s.fE l==u.i)))/\ak w w':=by
 refine dP.aj ?_;have Q:ak w w.drew:=(aD.refl w).drew;have D:=h.drew;have d1:=h1.grow Q;have d3:=Y.grow Q;refine ⟨ak w.drew,aD.refl _,_,λu I=>aV (d1.grow I) rfl,_,rfl,_,λu I=>ae (D.at.grow I) rfl,(D.value g l).mono ?_⟩;rintro e Z ⟨rfl,O⟩;refine ⟨_,rfl,O,ah (λr=>?_) (λr=>?_)⟩
 . refine ⟨_,λu I=>aV (d1.grow I) rfl,_,rfl,_,λu I=>ae (D.at.grow I) rfl,((D.grow O).fE g l).mono ?_⟩;rintro e X ⟨rfl,J⟩;refine ⟨_,rfl,O.trans J,_,λu I=>ae (d3.grow I) rfl,?_,(Q.trans O).trans J⟩;rw [r];rfl
 . refine ⟨?_,Q.trans O⟩;rw [r];rfl
theorem Ew:gH prog 206=true:=by kernel_rfl
theorem JA (h:SR w0 w B L N x) (g:aN x.s) {u:Hc} (ro:RO w L u.sl u.c) (Z:u.c.length<=4096):
 Calls prog fD.id #[ck B,.agg #[.i u.i,.slice u.sl.p u.sl.n u.sl.c,.i u.lv,.i u.sz,.bool u.lk]] w λe w'=>∃r:Bool,e=.returned (.bool r)/\ak w w':=by
 refine fD.aj ?_;intro X w2 O Y U I;have G:=O.mod.trans I.mod;refine ⟨_,_,_,ae I.has rfl,?_⟩;have hn:=ro.n;refine (kj (ro.v.grow G) hn (by unfold maxLen;omega) Ew (λl=>decide (x.s.value l>0) && (x.s.fE l==u.i)) λy _ V J=>?_).mono ?_
 . rw [QY];exact FV (h.grow (G.trans J)) g ((O.has.grow I.mod).grow J) (I.has.grow J) y
 . rintro e w6 ⟨rfl,Q⟩;exact ⟨_,rfl,_,rfl,G.trans Q⟩
theorem SR.TU (h:SR w0 w B L N x) (m:aD (λk=>L k=0/\w0.heap.size<=k) w w') (hl:∀k,k<w.heap.size->L' k=L k):SR w0 w' B L' N x/\mI (λi=>i=0) w0 w w' L L':=by
 have b:=h.PX (E':=λj=>j=0) ⟨m,hl⟩;exact ⟨⟨b.g,λ_=>b.me (by simp),b.ml,λ_=>b.pm (by simp),λ_=>b.hp (by simp),λ_=>b.ph (by simp),λ_=>b.hv (by simp),λ_=>b.hr (by simp),λ_=>b.un (by simp),λ_=>b.ur (by simp),λ_=>b.pr (by simp),λ_=>b.rr (by simp),λ_=>b.mo (by simp)⟩,⟨m,hl⟩⟩
theorem RO.zF {s:Sl} {c:List Int} (h:RO w L s c) (hl:∀k,L k≠0->L' k=L k):RO w L' s c:=
 ⟨h.n,h.v,λk I=>⟨by rw [hl k (by rw [(h.l k I).1];decide)];exact (h.l k I).1,(h.l k I).2⟩⟩
theorem SR.zF (h:SR w0 w B L N x) (hl:∀k,L k≠0->L' k=L k):SR w0 w B L' N x:=by
 have key:∀ {i k:Nat},i≠0->L k=i/\w0.heap.size<=k->L' k=i/\w0.heap.size<=k:=λhi I=>⟨by rw [hl _ (by rw [I.1];exact hi)];exact I.1,I.2⟩
 refine ⟨h.g,h.me,⟨by rw [hl B (by rw [h.ml.1];decide)];exact h.ml.1,h.ml.2⟩,λe=>?_,λe=>?_,λe=>?_,λe=>?_,λe u hu=> (h.hr e u hu).zF hl,λe=>?_,λe u hu=> (h.ur e u hu).zF hl,λe=>?_,λe u hu=> (h.rr e u hu).zF hl,λe=>?_⟩
 . obtain ⟨H,a,b⟩:=h.pm e;exact ⟨H,a,λy k I=>key (by decide) (b y k I)⟩
 . obtain ⟨z,a,b,c,d⟩:=h.hp e;exact ⟨z,a,b,c,λk I=>key (by decide) (d k I)⟩
 . obtain ⟨a,b,c⟩:=h.ph e;exact ⟨a,b,λk I=>key (by decide) (c k I)⟩
 . obtain ⟨a,b,c⟩:=h.hv e;exact ⟨a,b,λk I=>key (by decide) (c k I)⟩
 . obtain ⟨a,b,c⟩:=h.un e;exact ⟨a,b,λk I=>key (by decide) (c k I)⟩
 . obtain ⟨a,b,c⟩:=h.pr e;exact ⟨a,b,λk I=>key (by decide) (c k I)⟩
 . obtain ⟨a,b,c⟩:=h.mo e;exact ⟨a,b,λk I=>key (by decide) (c k I)⟩
theorem SR.Tq (h:SR w0 w B L N x) {hv':List Hc} (m:aD (λk=>aG x.hs.p=some k) w w') (r:Row 5 JJ cK w' x.hs.p x.hs.c hv') (hq:hv'.length=x.hv.length) (I:∀u∈hv',RO w L u.sl u.c):SR w0 w' B L N {x with hv:=hv'}/\mI (λi=>i=5) w0 w w' L L:=by
 obtain ⟨O,p2,J⟩:=h.hv id;have c:mI (λi=>i=5) w0 w w' L L:=⟨m.mono λk _ e=>J k e,λ_ _=>rfl⟩
 have b:=h.PX c;exact ⟨⟨b.g,λ_=>b.me (by simp),b.ml,λ_=>b.pm (by simp),λ_=>b.hp (by simp),λ_=>b.ph (by simp),λ_=>⟨r,by rw [p2,hq],J⟩,λ_ u hu=> (I u hu).keep c (by simp),λ_=>b.un (by simp),λ_=>b.ur (by simp),λ_=>b.pr (by simp),λ_=>b.rr (by simp),λ_=>b.mo (by simp)⟩,c⟩
theorem SR.swap (h:SR w0 w B L N x) {q:Sl} {hv':List Hc} (r:Row 5 JJ cK w q.p q.c hv') (hq:q.n=hv'.length) (hl:∀k,aG q.p=some k->L k=5/\w0.heap.size<=k) (I:∀u∈hv',RO w L u.sl u.c)
 (st:bT w2 B {x with hs:=q,hv:=hv'}.cells) (m2:aD (·=B) w w2):SR w0 w2 B L N {x with hs:=q,hv:=hv'}/\Kp w0 w w2 L L:=by
 have c:mI (λi=>i=1) w0 w w2 L L:=⟨m2.mono λk _ (e:k=B)=>by subst e;exact ⟨h.ml.1,h.ml.2.1⟩,λ_ _=>rfl⟩
 have b:=h.PX c;exact ⟨⟨b.g,λ_=>st,b.ml,λ_=>b.pm (by simp),λ_=>b.hp (by simp),λ_=>b.ph (by simp),λ_=>⟨r.keep m2 λk J (e:k=B)=>by subst e;have:=(hl _ J).1;rw [h.ml.1] at this;exact absurd this (by decide),hq,hl⟩,λ_ u hu=> (I u hu).keep c (by simp),λ_=>b.un (by simp),λ_=>b.ur (by simp),λ_=>b.pr (by simp),λ_=>b.rr (by simp),λ_=>b.mo (by simp)⟩,c.xU λi e=>by rw [e];decide⟩
theorem mI.row {E:Nat->Prop} {sz:Nat} {α:Type} {f:α->List Value} {T:TypeId} {p:sn} {c:Nat} {l:List α} (k:mI E w0 w w' L L') (h:Row sz f T w p c l) (hl:∀b,aG p=some b->¬E (L b)):Row sz f T w' p c l:=
 h.keep k.mod λb hb e=>hl b hb e.1
theorem mI.lb {E:Nat->Prop} {p:sn} {i n:Nat} (k:mI E w0 w w' L L') (h:∀b,aG p=some b->L b=i/\n<=b) (hl:∀b,aG p=some b->b<w.heap.size):∀b,aG p=some b->L' b=i/\n<=b:=
 λb hb=>⟨by rw [k.DG b (hl b hb)];exact (h b hb).1,(h b hb).2⟩
theorem SR.SE (h:SR w0 w B L N x) (g:aN x.s) (i:Nat):Calls prog gN.id #[ck x.pb,.i i] w λe w'=>∃r:Int,e=.returned (.i r)/\∃L',mI (λi=>i=2) w0 w w' L L'/\
 ((r≠0/\SR w0 w' B L' N x)\/(r=0/\x.s.aO i/\aN (x.s.drop i)/\SR w0 w' B L' N {x with s:=x.s.drop i})):=by
 obtain ⟨H,pm,hl⟩:=h.pm id;have J:∀ {w':World} {O:Pt->Sl} {s':aI},Pw w w' x.pb H O s'->mI (λi=>i=2) w0 w w' L (lN L w.heap.size 2):=λp=>⟨p.mod.mono λk _ ⟨y,e⟩=>hl y k e,λ_ U=>dD U⟩
 refine (CT pm g i).mono ?_;rintro e w' ⟨r,rfl,O,⟨rfl,_,p⟩| ⟨rfl,_,_,p⟩| ⟨rfl,hi,hr,p⟩⟩
 . exact ⟨_,rfl,_,J p,.inl ⟨by decide,(h.wV hl pm.lt p).1⟩⟩
 . exact ⟨_,rfl,_,J p,.inl ⟨by decide,(h.wV hl pm.lt p).1⟩⟩
 . obtain ⟨_,I⟩:=aI.Da.1 hi;rw [tn] at I hr p;exact ⟨_,rfl,_,J p,.inr ⟨rfl,I,sS g I λy Q e=>hr ⟨y,Q,e⟩,(h.wV hl pm.lt p).1⟩⟩
theorem II (h:SR w0 w B L N x) (hp:x.pr.length<=1000000000) (del:Bool) {sl:Sl} (ro:RO w L sl l) {b:Nat} (hb:bT w b #[.bool del,sl.v]) {K:World->Prop}
 (hk:∀w' L' q,SR w0 w' B L' N {x with ps:=q,pr:=x.pr++ [(del,sl,l)]}->mI (λi=>i=7\/i=1) w0 w w' L L'->K w'):
 ∃Z V O U,(Builtin.append_ #[26,26] 26 #[.slice x.ps.p x.ps.n x.ps.c,.slice (some (qw b)) 1 1]).run prog w=.ok (.slice V O U) Z/\
  ∃X,(some (qw B))=some X/\∃I,bB ((X.add 14).add 2) 0 [.slice V O U] Z I/\K I:=by
 obtain ⟨r1,r2,Y⟩:=h.pr id;refine Row.mA Kl DM r1 (P5 (u:=(del,sl,l)) hb) r2 rfl (by simp;omega) λZ p' c' o8 m8 Q av=>⟨_,rfl,?_⟩
 have ac:bT Z B x.cells:=h.at.keep m8 λe=>by have:=(Y B e).1;rw [h.ml.1] at this;exact absurd this (by decide)
 refine ju ac rfl rfl λI ag J=>?_;have:=h.MX (q:=⟨p',(x.pr++ [(del,sl,l)]).length,c'⟩) (pr':=x.pr++ [(del,sl,l)]) m8 o8 rfl (E3 Q (y4 _)) (λu hu=>by
  rcases F'.1 hu with hu|hu
  . exact h.rr id u hu
  . rw [Bs] at hu;subst hu;exact ro) ag J (h.Ti (by decide) Y Q (y4 _))
 refine hk _ _ _ this.1 ⟨(m8.mono λk _ e=>⟨.inl (Y k e).1,(Y k e).2⟩).then J λk hk (e:k=B)=>by subst e;exact ⟨.inr h.ml.1,h.ml.2.1⟩,λ_ hk=>dD hk⟩
end
section
variable {w0 w w' w1 w2 u:World} {B N i:Nat} {L L' L1:Nat->Nat} {x:Xs} {l:List Int} {cs:List (List Int)} {hv:List (Nat × List Int)} {un:List (List Int)}
def GR:Hc:=⟨0,Sl.nil,[],0,0,false⟩
def xr (h:Hc):Nat × List Int:=(h.i,h.c)
def Qp (h:Hc):Prop:=0<=h.lv/\h.lv<=h.sz/\h.sz<=4096/\h.c.length<=4096
theorem SH (a:Addr) (i j:Nat):(a.add i).add j=a.add (i+j):=by
 by_cases J:i=0
 . subst J;simp [Addr.add]
 . by_cases I:j=0
   . subst I;simp [Addr.add]
   . simp [Addr.add,J,I,WL]
theorem BW {a:Addr} {k:Nat}:∀ {vs:List Value} {i:Nat},aK w a (k+i) vs->aK w (a.add k) i vs
 | [],_,_=>trivial
 |v::vs,i,⟨h1,h2⟩=>⟨by rw [SH];exact h1,BW (i:=i+1) h2⟩
theorem Tm {hs:List Hc} {p:sn} {c n:Nat} (h:Row 5 JJ cK w p c hs) {i:Int} (t:Nat) (hi:i=t) (hn:n=hs.length) (ht:t<hs.length) (r:Bool) {K:World->Prop}
 (J:∀w',Row 5 JJ cK w' p c (hs.set t {hs.getD t GR with lk:=r})->aD (λb=>aG p=some b) w w'->K w'):
 aW p n i 5 λa=>∃w',bB ((a.add 2).add 2) 0 [.bool r] w w'/\K w':=by
 have:=h.Um BE (i:=i) (n:=n) (o:=4) (v:=.bool r) GR {hs.getD t GR with lk:=r} (by rw [hi,tn];rfl) (by decide) rfl (by omega) hn (by omega) (K:=K) λw' I m'=>J w' (by rw [hi,tn] at I;exact I) m';simp only [SH];exact this
theorem Oj:pR prog vU tN 3 24=true:=by kernel_rfl
theorem Tb {v:RedP.Lr} {b:Nat} (h:bT w b #[.i v.1,.i v.2.1,.bool v.2.2]):Vr 3 Re.Kb w (some ⟨b,0,none⟩) [v]:=by
 intro j I;have:j=0:=by simpa using I
 subst this;exact ⟨_,rfl,ae h rfl,ae h rfl,ae h rfl,trivial⟩
theorem yC {α:Type} {m:List α} {t:Nat} {d:α} (h:t<m.length):m.getD t d∈m:=by simp [List.getD,h]
theorem Bi {m:List Hc} {t:Nat} (h:t<m.length):m.drop t=m.getD t GR::m.drop (t+1):=by
 rw [VN h];simp [List.getD,h]
def uw (h:Hc):Nat × Sl × List Int × Int × Int:=(h.i,h.sl,h.c,h.lv,h.sz)
def qa (a b:List Hc):Prop:=a.map uw=b.map uw
theorem qa.len {a b:List Hc} (h:qa a b):a.length=b.length:=by have:=congrArg List.length h;simpa using this
theorem qa.at_ {a b:List Hc} (h:qa a b) {t:Nat} (ht:t<a.length):uw (a.getD t GR)=uw (b.getD t GR):=by
 have hb:t<b.length:=by rw [<- h.len];exact ht
 have I:(a.map uw)[t]? =(b.map uw)[t]? :=by rw [show a.map uw=b.map uw from h]
 rw [Vx,Vx,Mb ht,Mb hb] at I;simpa [List.getD,ht,hb] using I
theorem qa.mem {a b:List Hc} (h:qa a b) {P:Hc->Prop} (O:∀u v:Hc,uw u=uw v->P u->P v) (ha:∀u∈a,P u):∀v∈b,P v:=by
 intro v hv;obtain ⟨j,J,rfl⟩:=I'.1 hv;have I:j<a.length:=by rw [h.len];exact J
 have:=h.at_ I;refine O _ _ ?_ (ha _ (yC (d:=GR) I));rw [this];simp [List.getD,J]
theorem qa.set {a b:List Hc} (h:qa a b) {t:Nat} (ht:t<b.length) {v:Hc} (hv:uw v=uw (b.getD t GR)):qa a (b.set t v):=by
 unfold qa at*
 rw [h];refine VH (by simp) λj h1 I=>?_;simp only [UL,VT] at h1 I;rw [Wa,Wa,List.getElem_set];by_cases e:t=j
 . subst e;rw [if_pos rfl,hv];simp [List.getD,h1]
 . rw [if_neg e]
theorem qa.xr {a b:List Hc} (h:qa a b):a.map xr=b.map xr:=by
 have:=congrArg (List.map λz:Nat × Sl × List Int × Int × Int=> (z.1,z.2.2.1)) h;rw [VU,VU] at this;exact this
structure Un (w0 w u:World) (B:Nat) (L:Nat->Nat) (N:Nat) (x:Xs) (t:Nat) (hv1:List Hc) (ll:List RedP.Lr) (p:sn) (c:Nat):Prop where
 len:ll.length=t
 ok:∀y∈ll,RedP.Fq y=true
 row:Row 3 Re.Kb tN u p c ll
 fr:∀b,aG p=some b->w.heap.size<=b
 sr:SR w0 u B (lN L w.heap.size 0) N {x with hv:=hv1}
 kp:Kp w0 w u L (lN L w.heap.size 0)
 sm:qa x.hv hv1
theorem RC (h:SR w0 w B L N x) {b:Nat} (hb:w.heap.size<=b):lN L w.heap.size 0 b=0/\w0.heap.size<=b:=⟨jC hb,UY h.g.size hb⟩
theorem RH (h:SR w0 w B L N x) (g:aN x.s) (eu:x.hv.length<=1000000) (ea:∀u∈x.hv,Qp u) {K:sn->Nat->Nat->World->Prop}
 (hk:∀p c u I ll,Un w0 w u B L N x x.hv.length I ll p c->K p ll.length c u):
 ∃I3:sn->Nat->Nat->Int->World->Nat->Prop,(∃k4,I3 none 0 0 0 w k4)/\
  ∀ (X:sn) (V:Nat) (U:Nat) (v7:Int) (w8:World) (k4:Nat) (_:Fr),I3 X V U v7 w8 k4->
  aF (decide (v7< (x.hs.n:Int)))
   (aW x.hs.p x.hs.n v7 5 λa9=>
     ∃b9 a6 a_ aT cp ce c3,aK w8 a9 0 [.i b9,.slice a6 a_ aT,.i cp,.i ce,.bool c3]/\
     ∀n15 bn,jI (.cells #[.i 0,.slice none 0 0,.i 0,.i 0,.bool false] 209) w8 n15 bn->
     ∃O,bB (qw n15) 0 [.i b9,.slice a6 a_ aT,.i cp,.i ce,.bool c3] bn O/\
     ∃ar:World->Prop,ar O.drew/\
     ∃dk,(some (qw B))=some dk/\∃a' ax cc,xR ar (dk.add 11) (.slice a' ax cc)/\
     ∃dc az bc ay cm cb b',w_ ar (qw n15) [.i dc,.slice az bc ay,.i cm,.i cb,.bool b']/\
     Calls prog 176 #[.pointer (some (qw B)),.agg #[.i dc,.slice az bc ay,.i cm,.i cb,.bool b']] O.drew λe an=>∃J,e=.returned (.bool J)/\
     ar an/\aW a' ax v7 5 λd7=>
     ∃Y,bB ((d7.add 2).add 2) 0 [.bool J] an Y/\
     ∃c7,(some (qw B))=some c7/\∃aw a8 dd,Y.cell? (c7.add 11)=some (.slice aw a8 dd)/\
     aW aw a8 v7 5 λb6=>
     ∃co b8 dh,aK Y (b6.add 2) 0 [.i co,.i b8,.bool dh]/\
     ∀bv aa,jI (.cells #[.i co,.i b8,.bool dh] 207) Y bv aa->
     ∃ap a7 av bb,(Builtin.append_ #[212,212] 212 #[.slice X V U,.slice (some (qw bv)) 1 1]).run prog aa=.ok (.slice a7 av bb) ap/\
     ∃k5,k5<k4/\I3 a7 av bb (IntKind.i64.wrap (v7+ (1:Int))) ap k5)
   (K X V U w8):=by
 have c2:=(h.hv id).2.1;refine ⟨λp n c v u z=>∃ (t:Nat) (I:List Hc) (ll:List RedP.Lr),v=t/\t<=x.hv.length/\z=x.hv.length - t/\n=ll.length/\Un w0 w u B L N x t I ll p c,
  ⟨_,0,x.hv,[],rfl,vx _,rfl,rfl,⟨rfl,by simp,Row.nil _ _ _ _,λb hb=>by simp [aG] at hb,h.new (aD.refl w) 0,mI.new (aD.refl w) 0,rfl⟩⟩,?_⟩
 rintro p n c v u z _ ⟨t,I,ll,rfl,ht,rfl,rfl,A⟩;have hlen:=A.sm.len;refine ah (λr=>?_) (λr=>?_)
 . have r:t<x.hv.length:=by rw [c2] at r;simpa using r
   obtain ⟨r1,r2,r3⟩:=A.sr.hv id;have r1:Row 5 JJ cK u x.hs.p x.hs.c I:=r1;obtain ⟨y,hy⟩: ∃y,y=I.getD t GR:=⟨_,rfl⟩
   have bf:y∈I:=by rw [hy];exact yC (by omega)
   refine (r1.vr BE).ix GR (by omega) (by omega) (by omega) λa ha=>?_;rw [tn,<- hy] at ha;refine ⟨_,_,_,_,_,_,_,ha,λn15 bn bx=>?_⟩;refine bD bx.has rfl rfl λO bY d4=>?_;have bY:bT O n15 #[.i y.i,.slice y.sl.p y.sl.n y.sl.c,.i y.lv,.i y.sz,.bool y.lk]:=bY;have es:=bx.num;have b7:ak u O.drew:=(aD.cW bx.mod d4 (by omega)).trans (aD.refl O).drew;have bg:=A.sr.grow b7;have ac:=bY.grow (aD.refl O).drew;refine ⟨ak O.drew,aD.refl _,_,rfl,_,_,_,λv gv=>ae (bg.at.grow gv) rfl,_,_,_,_,_,_,_,λv gv=>⟨ae (ac.grow gv) rfl,ae (ac.grow gv) rfl,ae (ac.grow gv) rfl,ae (ac.grow gv) rfl,ae (ac.grow gv) rfl,trivial⟩,?_⟩;have c0:Qp y:=A.sm.mem (λu v e hu=>by unfold Qp at*;simp only [uw,XM] at e;obtain ⟨_,_,e3,e4,e5⟩:=e;rw [<- e3,<- e4,<- e5];exact hu) ea y bf;refine (JA bg g (bg.hr id y bf) c0.2.2.2).mono ?_;rintro e an ⟨J,rfl,b5⟩;refine ⟨_,rfl,b5,?_⟩;have ag:=b7.trans b5;have d6:=r1.grow ag;have bi:=A.sr.grow ag;refine Tm d6 t rfl (by omega) (by omega) J λY b3 b_=>?_;rw [<- hy] at b3;have Q:=bi.Tq b_ b3 (by show (I.set _ _).length=I.length;simp) λv hv=>by
    rcases List.mem_or_eq_of_mem_set hv with e|e
    . exact bi.hr id v e
    . subst e;exact bi.hr id y bf
   have Q1:SR w0 Y B (lN L w.heap.size 0) N {x with hv:=I.set t {y with lk:=J}}:=Q.1;refine ⟨_,rfl,_,_,_,ae Q1.at rfl,(b3.vr BE).ix GR (by omega) (by simp;omega) (by show (t:Int)< (x.hs.n:Int);omega) λb6 c1=>?_⟩;rw [tn,show (I.set t {y with lk:=J}).getD t GR= {y with lk:=J} by simp [List.getD,show t<I.length by omega]] at c1;refine ⟨y.lv,y.sz,J,BW (k:=2) (i:=0) c1.2.2,λbv aa Z=>?_⟩;have el:=Z.num;have ec:=Z.size;have cT:aD (λk=>aG x.hs.p=some k) u aa:=(ag.mono λ_ _ e=>e.elim:aD (λk=>aG x.hs.p=some k) u an).then (b_.then Z.mod λ_ _ e=>e.elim) λ_ _ e=>e;have rl:=A.row.keep cT λb hb e=>by
    have h1:=A.fr b hb;have h2:=(h.hv id).1.lt b e;omega
   refine Row.mA Re.Up Oj rl (Tb (v:=(y.lv,y.sz,J)) Z.has) rfl rfl (by have:=A.len;simp;omega) λap p' c' o8 m8 d' en=>?_;have d8:=Q1.grow Z.mod;have ek:=A.kp.mod.size;have ef:=cT.size;have d9:aD (λk=>lN L w.heap.size 0 k=0/\w0.heap.size<=k) aa ap:=m8.mono λk _ e=>RC h (A.fr k e);have cg:=d8.TU (L':=lN L w.heap.size 0) d9 λ_ _=>rfl;have kk:=(((A.kp.trans (mI.grow ag)).trans (Q.2.xU λi e=>by rw [e];decide)).trans (mI.grow Z.mod)).trans (cg.2.xU λi e=>by rw [e];decide);refine ⟨_,?_,t+1,I.set t {y with lk:=J},ll++ [(y.lv,y.sz,J)],wN,by omega,rfl,rfl,⟨by rw [UH,A.len];rfl,λv hv=>?_,o8,λb hb=>?_,cg.1,kk,A.sm.set (by omega) (by rw [<- hy];rfl)⟩⟩
   . omega
   . rcases F'.1 hv with hv|hv
     . exact A.ok v hv
     . rw [Bs] at hv;subst hv;unfold RedP.Fq;obtain ⟨o1,o2,o3,o4⟩:=c0;simp;omega
   . rcases d' with rfl|rfl
     . exact A.fr b hb
     . have:=aL hb;omega
 . have r:t=x.hv.length:=by rw [c2] at r;simp at r;omega
   subst r;exact hk _ _ _ _ _ A
end
end Go.Proofs.YtbdghpjnifjlmaaGreat.W
