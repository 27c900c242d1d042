/- Layer 14: what a broken clause teaches, plain. -/
import Derived.Test.YtenmibfmhccmiaaGreatBackA
import Derived.Test.YtenmibfmhccmiaaGreatPropC
namespace Go.Proofs.YtenmibfmhccmiaaGreat.W
open Go Go.Fw Go.RowKit Go.SoP Go.LiP Go.LeP
open Go.Proofs.Tryz (prog)
section
variable {s t s':aG} {l c d bk:List Int} {x y:Int} {i j N:Nat} {cs:List (List Int)} {hv:List (Nat × List Int)} {un:List (List Int)} {tr:List As} {rl:List Int}
theorem GJ (h:Le.pM tr l=true):nH tr=true/\eB tr/\tr.length<=4096/\∀x∈l,jk tr x:=by
 unfold Le.pM at h;simp only [Bool.and_eq_true] at h;obtain ⟨ok,hl⟩:=mV h.1.1;exact ⟨h.1.1,ok,hl,j7.1 h.2⟩
theorem mL (ok:eB tr) (hb: ∀x∈l,jk tr x):wL tr (Le.lG tr (bh l)) (Le.sF tr l):=by
 obtain ⟨d,J,I,h,he⟩:=(Le.KY ok hb).end ok (Nat.le_refl _);unfold Le.sF;rw [I];refine Gl ok h ?_;rcases he with ⟨a,_⟩|b
 . exact .inl ⟨a,.inr a⟩
 . exact .inr b
theorem GO (ok:eB tr) (hb: ∀x∈l,jk tr x):(Le.sF tr l).length<=tr.length:=by
 obtain ⟨d,O,I,h,_⟩:=(Le.KY ok hb).end ok (Nat.le_refl _);unfold Le.sF;rw [I];exact Le.FU (Le.oX (lA h.br)) fun x J=>h.br x ((iv ok h.br).1 J)
theorem wk:Le.lG tr l=Le.lG tr (bh l):=by
 refine Le.ED (Le.uF _ _) (fun x I=>Le.qS (((cE l).mem x).2 I)) ?_;rcases (Le.jZ tr (bh l) 0).2.2 with e| ⟨x,I,e⟩
 . exact .inl e
 . exact .inr ⟨x,((cE l).mem x).1 I,e⟩
theorem pv.at_ (h:pv s tr rl) (b:jk tr x): -x∈s.R .tr/\0<=lv tr x/\lv tr x<rl.length/\s.bj x=rl.getD (lv tr x).toNat 0:=by
 have h1:=h.mem _ b.lt;have I:=h.bj _ b.lt;rw [b.eq] at h1 I;rw [oM] at I;exact ⟨h1,I.1,I.2.1,I.2.2.symm⟩
theorem pv.Ml (h:pv s tr rl) (k:ni N cs s hv un) {v:Int->Int} (m:Jp N v) (J: ∀d∈cs,vS v d):xF tr v:=by
 refine ⟨fun l _=>m.neg l,m.val,fun i hi=>m.set _ ?_,fun i hi hr=> ?_⟩
 . have:=k.g.tv _ (h.mem i hi)
   rwa [k.v] at this
 . rcases h.rs i hi with e| ⟨j,h1,I⟩
   . exact absurd e hr
   . rw [I];exact k.imp j h1 v m J
theorem yK {v:Int->Int} (ok:eB tr) (V:xF tr v) (hb: ∀x∈bk,jk tr x) (h:vS v bk):vS v (Le.sF tr bk):=by
 have I:=Le.KY ok hb;have U:vS v (bh bk):=by
  obtain ⟨y,J,e⟩:=h;exact ⟨y,((cE bk).mem y).2 J,e⟩
 obtain ⟨y,J,e⟩:=tZ ok V I (Nat.le_refl _) U;obtain ⟨d,X,Q,O,_⟩:=I.end ok (Nat.le_refl _);unfold Le.sF;rw [Q] at J ⊢;exact ⟨y,(iv ok O.br).2 J,e⟩
theorem Jz (ok:eB tr) (hb: ∀x∈bk,jk tr x) (J:0<Le.lG tr bk):Le.sF tr bk≠[]:=by
 have I:=Le.KY ok hb;obtain ⟨d,V,U,O,he⟩:=I.end ok (Nat.le_refl _);unfold Le.sF;rw [U];rw [wk] at J;intro e;rcases he with ⟨a,b⟩| ⟨a,b⟩
 . rcases b with b|b
   . omega
   . rw [b] at J;simp [Le.lG] at J
 . obtain ⟨y,Q,_⟩:=mT.1 (show 0<fO tr d (Le.lG tr (bh bk)) by omega);have:=(iv ok O.br).2 Q;rw [e] at this;simp at this
theorem Ei (ok:eB tr) (hb: ∀x∈bk,jk tr x):(Le.sF tr bk).Nodup:=by
 have I:=Le.KY ok hb;obtain ⟨d,Q,J,O,he⟩:=I.end ok (Nat.le_refl _);unfold Le.sF;rw [J];exact Le.oX (lA O.br)
theorem DA {ld:List Int} (h:ld.Nodup):(shr tr ld).Nodup:=by
 cases ld with
 |nil=>exact h
 |cons y t=>exact h.sublist (List.Sublist.cons_cons _ (List.filter_sublist))
theorem Ku {ld:List Int} (h:ld≠[]):shr tr ld≠[]:=by
 cases ld with
 |nil=>exact absurd rfl h
 |cons y t=>simp [shr]
theorem IS (g:aM s) (b:yz s) (h:sU s i) (hl:0< (s.R .be).length): ∃x∈s.R (.a i),s.bj x=(s.R .be).length:=by
 have O:(s.R .be).length - 1< (s.R .be).length:=by omega
 rcases b _ O i h.1 with ⟨y,I,J⟩| ⟨y,I,z,V,U,_,b1,_,b2⟩
 . exact absurd (List.mem_of_mem_take J) (gh g (h.2 y I))
 . have h1: ¬s.bj y<=((s.R .be).length - 1:Nat):=fun e=>b1 ((oQ g (h.2 y I) O).2 e);have Q:=(mF g (h.2 y I)).2;rw [oM] at Q;exact ⟨y,I,by omega⟩
theorem xA {rl:List Int} (h: ∀a b,a<b->b<rl.length->rl.getD a 0<rl.getD b 0) {a b:Nat} (I:a<=b) (hb:b<rl.length):rl.getD a 0<=rl.getD b 0:=by
 rcases Nat.lt_or_ge a b with e|e
 . exact Int.le_of_lt (h a b e hb)
 . rw [show a=b by omega];exact Int.le_refl _
theorem Hu (h:pv s tr rl) (g:aM s) (ok:eB tr) (hb: ∀x∈bk,jk tr x) (hl:0< (s.R .be).length) (ht: ∃x∈bk,s.bj x=(s.R .be).length):
 shr tr (Le.sF tr bk)≠[]/\0<=Le.lG tr ((shr tr (Le.sF tr bk)).drop 1)/\Le.lG tr ((shr tr (Le.sF tr bk)).drop 1)<rl.length/\0<=rl.getD (Le.lG tr ((shr tr (Le.sF tr bk)).drop 1)).toNat 0/\
  LS s (shr tr (Le.sF tr bk)) (rl.getD (Le.lG tr ((shr tr (Le.sF tr bk)).drop 1)).toNat 0).toNat:=by
 obtain ⟨Q,O,e0⟩:=ht;obtain ⟨_,a1,a2,a3⟩:=h.at_ (hb Q O);have hz:rl.getD 0 0=0:=h.z fun e=>by rw [e] at a2;simp at a2;omega
 have aT:0<rl.length:=by omega
 have ml:=Le.qS (tr:=tr) O;have a6:0<lv tr Q:=by
  rcases Int.lt_or_le 0 (lv tr Q) with e|e
  . exact e
  . have:lv tr Q=0:=by omega
    rw [this] at a3;have:rl.getD (0:Int).toNat 0=0:=hz;omega
 obtain ⟨L,hL⟩: ∃L,L=Le.lG tr bk:=⟨_,rfl⟩
 have ag: ∃x∈bk,lv tr x=L:=by
  rcases (Le.jZ tr bk 0).2.2 with e| ⟨x,hx,e⟩
  . have:Le.lG tr bk=0:=e;omega
  . exact ⟨x,hx,by rw [hL];exact e⟩
 obtain ⟨x1,V,e1⟩:=ag;obtain ⟨c0,c1,c2,c3⟩:=h.at_ (hb x1 V);have U:=(mF g c0).2;rw [oM] at U;have hm:=xA h.up (a:=(lv tr Q).toNat) (b:=(lv tr x1).toNat) (by omega) (by omega);have eL:rl.getD L.toNat 0=(s.R .be).length:=by rw [<- e1];omega
 have P:=wL.shr (mL ok hb);rw [<- wk,<- hL] at P;have J:=Ku (tr:=tr) (Jz ok hb (by omega));obtain ⟨l,X⟩: ∃l,l=shr tr (Le.sF tr bk):=⟨_,rfl⟩
 rw [<- X] at P J ⊢;have Z:l.Nodup:=by rw [X];exact DA (Ei ok hb)
 cases l with
 |nil=>exact absurd rfl J
 |cons z r=>
  clear J X;show _/\0<=Le.lG tr r/\Le.lG tr r<_/\0<=rl.getD (Le.lG tr r).toNat 0/\LS s (z::r) (rl.getD (Le.lG tr r).toNat 0).toNat;have h0:=(P.bS 0 (by simp)).2 rfl;have h0:lv tr z=L:=h0;have Y: ∀y∈r,lv tr y<L:=fun y I=>by
   obtain ⟨j,hj,e⟩:=List.mem_iff_getElem.1 I;have h1:=P.bS (j+1) (by simpa using hj);have e2:(z::r).getD (j+1) 0=y:=by simp [List.getD,hj,e]
   rw [e2] at h1;have h2:=P.le y (List.mem_cons_of_mem _ I);have h3:lv tr y≠L:=fun e=>by have:=h1.1 e;omega
   omega
  have ac:=Le.uF tr r;have a7:Le.lG tr r<L:=by
   rcases (Le.jZ tr r 0).2.2 with e| ⟨y,I,e⟩
   . have:Le.lG tr r=0:=e;omega
   . have:=Y y I;have:Le.lG tr r=lv tr y:=e.symm;omega
  have a_:L<rl.length:=by omega
  have nn:0<=rl.getD (Le.lG tr r).toNat 0:=by
   have:=xA h.up (a:=0) (b:=(Le.lG tr r).toNat) (by omega) (by omega);omega
  have up:=h.up (Le.lG tr r).toNat L.toNat (by omega) (by omega);refine ⟨by simp,ac,by omega,nn,⟨fun x hx=> (h.at_ (P.br x hx)).1,⟨z,by simp,?_,fun y I J=> ?_⟩,by omega,?_,Z⟩⟩
  . rw [(h.at_ (P.br z (by simp))).2.2.2,h0,eL]
  . rcases List.mem_cons.1 I with e|I
    . exact absurd e J
    . have a8:=h.at_ (P.br y (List.mem_cons_of_mem _ I));have hm:=Le.qS (tr:=tr) I;have:=xA h.up (a:=(lv tr y).toNat) (b:=(Le.lG tr r).toNat) (by omega) (by omega);omega
  . rcases (Le.jZ tr r 0).2.2 with e| ⟨y,I,e⟩
    . have:Le.lG tr r=0:=e;rw [this];exact .inl (by have:rl.getD (0:Int).toNat 0=0:=hz;omega)
    . have e:lv tr y=Le.lG tr r:=e;refine .inr ⟨y,List.mem_cons_of_mem _ I,?_⟩;rw [(h.at_ (P.br y (List.mem_cons_of_mem _ I))).2.2.2,e];omega
theorem FR (h:pv s tr rl) (k:ni N cs s hv un) (ok:eB tr) (hb: ∀x∈bk,jk tr x) (f:zK N cs bk):zK N cs (shr tr (Le.sF tr bk)):=by
 intro v m I;have V:=h.Ml k m I;refine Aj ok V (fun x J=> (mL ok hb).br x J) (yK ok V hb (f v m I))
def mH (s:aG) (t:Nat):List Int:=(((s.R .tr).take t).filter fun x=>decide (s.j8 x<0)).reverse.map fun x=> -x
theorem vM {t:Nat} (h:t< (s.R .tr).length):mH s (t+1)=if s.j8 ((s.R .tr).getD t 0)<0 then -((s.R .tr).getD t 0)::mH s t else mH s t:=by
 have e:(s.R .tr).take (t+1)=(s.R .tr).take t++ [(s.R .tr).getD t 0]:=by
  rw [List.take_add_one,List.getElem?_eq_getElem h];simp [List.getD,h]
 unfold mH;rw [e,List.filter_append,List.reverse_append,List.map_append];by_cases hr:s.j8 ((s.R .tr).getD t 0)<0
 . rw [if_pos hr,List.filter_cons_of_pos (by simpa using hr)];rfl
 . rw [if_neg hr,List.filter_cons_of_neg (by simpa using hr)];rfl
theorem sy (g:aM s) {p:Nat} (hp:p< (s.R .tr).length):s.j8 ((s.R .tr).getD p 0)<0↔(p:Int)∈s.R .be:=by
 constructor
 . intro h;refine Classical.byContradiction fun hn=> ?_;obtain ⟨i,e,_⟩:=g.IZ p hp hn;omega
 . intro h;have:=g.Kx p hp h;omega
theorem E0 (g:aM s):(s.R .be).Nodup:=by
 unfold List.Nodup;rw [List.pairwise_iff_getElem];intro i j hi J I e;have:=g.bs i j I J;simp only [List.getD,List.getElem?_eq_getElem hi,List.getElem?_eq_getElem J,Option.getD_some] at this;omega
theorem zM {be:List Int} (h:be.Nodup) (t:Nat):be.countP (fun e=>decide (e< ((t+1:Nat):Int)))=be.countP (fun e=>decide (e< (t:Int)))+if (t:Int)∈be then 1 else 0:=by
 induction be with
 |nil=>rfl
 |cons a r ih=>
  obtain ⟨h1,O⟩:=List.nodup_cons.1 h;rw [List.countP_cons,List.countP_cons,ih O];by_cases e:a=(t:Int)
  . subst e;rw [if_neg h1,if_pos (by simp;omega)];simp
  . have J:((t:Int)∈a::r)↔(t:Int)∈r:=⟨fun h=>by rcases List.mem_cons.1 h with h|h;exact absurd h.symm e;exact h,List.mem_cons_of_mem _⟩
    have Q:decide (a< ((t+1:Nat):Int))=decide (a< (t:Int)):=decide_eq_decide.2 (by omega);rw [Q];by_cases I:(t:Int)∈r
    . rw [if_pos I,if_pos (J.2 I)];omega
    . rw [if_neg I,if_neg fun h=>I (J.1 h)];omega
theorem uc (g:aM s): ∀t,t<=(s.R .tr).length->(mH s t).length=(s.R .be).countP fun e=>decide (e< (t:Int))
 |0,_=>by
  have:(s.R .be).countP (fun e=>decide (e< ((0:Nat):Int)))=0:=by
   rw [List.countP_eq_zero];intro e he;obtain ⟨j,I,rfl⟩:=List.mem_iff_getElem.1 he;have:=(g.bl j I).1;simp only [List.getD,List.getElem?_eq_getElem I,Option.getD_some] at this;simp;omega
  rw [this];simp [mH]
 |t+1,h=>by
  rw [vM (by omega),zM (E0 g),<- uc g t (by omega)];by_cases hr:s.j8 ((s.R .tr).getD t 0)<0
  . rw [if_pos hr,if_pos ((sy g (by omega)).1 hr)];rfl
  . rw [if_neg hr,if_neg fun e=>hr ((sy g (by omega)).2 e)];rfl
theorem Ak (g:aM s):(mH s (s.R .tr).length).length=(s.R .be).length:=by
 rw [uc g _ (Nat.le_refl _)];rw [List.countP_eq_length];intro e he;obtain ⟨j,I,rfl⟩:=List.mem_iff_getElem.1 he;have:=(g.bl j I).2;simp only [List.getD,List.getElem?_eq_getElem I,Option.getD_some] at this;simpa using this
theorem H8 (g:aM s) {k:Nat} (I:k< (s.R .be).length):s.bj ((s.R .tr).getD ((s.R .be).getD k 0).toNat 0)=(k+1:Nat):=by
 have hb:=g.bl k I;rw [g.lv _ (by omega)];have h1:=q_ g (p:=((s.R .be).getD k 0).toNat) I;have O:=List.countP_le_length (p:=fun e=>decide (e<=(((s.R .be).getD k 0).toNat:Int))) (l:=s.R .be);have U:=h1.2 (by omega);rcases Nat.lt_or_ge (k+1) (s.R .be).length with e|e
 . have J:=q_ g (p:=((s.R .be).getD k 0).toNat) e;have h5:=g.bs k (k+1) (by omega) e;have Q: ¬k+1<_:=fun h=>by have:=J.1 h;omega
   omega
 . omega
theorem lX (g:aM s):x∈mH s (s.R .tr).length↔∃k,k< (s.R .be).length/\ -x=(s.R .tr).getD ((s.R .be).getD k 0).toNat 0:=by
 unfold mH;rw [List.take_length,List.mem_map];constructor
 . rintro ⟨y,J,rfl⟩;rw [List.mem_reverse,List.mem_filter] at J;obtain ⟨p,hp,e⟩:=vQ J.1;have h1:s.j8 y<0:=by simpa using J.2
   rw [<- e] at h1;obtain ⟨k,I,Q⟩:=List.mem_iff_getElem.1 ((sy g hp).1 h1);refine ⟨k,I,?_⟩;have O:(s.R .be).getD k 0=(p:Int):=by simp [List.getD,I,Q]
   rw [O,Int.toNat_natCast,e,Int.neg_neg]
 . rintro ⟨k,I,e⟩;have hb:=g.bl k I;refine ⟨-x,List.mem_reverse.2 (List.mem_filter.2 ⟨?_,?_⟩),Int.neg_neg x⟩
   . rw [e];exact bE (by omega)
   . rw [e];have:=(sy g (p:=((s.R .be).getD k 0).toNat) (by omega)).2 (by
      rw [Int.toNat_of_nonneg hb.1];exact bE I)
     simpa using this
theorem Kt (g:aM s) (hl:0< (s.R .be).length):LS s (mH s (s.R .tr).length) ((s.R .be).length - 1):=by
 have bj: ∀ {y:Int} {k:Nat},k< (s.R .be).length-> -y=(s.R .tr).getD ((s.R .be).getD k 0).toNat 0->s.bj y=(k+1:Nat):=fun {y k} I e=>by
  rw [<- oM,e];exact H8 g I
 refine ⟨fun x V=> ?_,?_,by omega,?_,?_⟩
 . obtain ⟨k,I,e⟩:=(lX g).1 V;have hb:=g.bl k I;rw [e];exact bE (by omega)
 . have I:(s.R .be).length - 1< (s.R .be).length:=by omega
   refine ⟨-((s.R .tr).getD ((s.R .be).getD ((s.R .be).length - 1) 0).toNat 0),(lX g).2 ⟨_,I,Int.neg_neg _⟩,?_,fun y U O=> ?_⟩
   . rw [bj I (Int.neg_neg _)];omega
   . obtain ⟨k,J,e⟩:=(lX g).1 U;rw [bj J e];have:k≠(s.R .be).length - 1:=fun X=>O (by rw [<- X,<- e,Int.neg_neg]);omega
 . rcases Nat.eq_zero_or_pos ((s.R .be).length - 1) with e|e
   . exact .inl e
   . have I:(s.R .be).length - 2< (s.R .be).length:=by omega
     refine .inr ⟨-((s.R .tr).getD ((s.R .be).getD ((s.R .be).length - 2) 0).toNat 0),(lX g).2 ⟨_,I,Int.neg_neg _⟩,?_⟩;rw [bj I (Int.neg_neg _)];omega
 . unfold mH;rw [List.take_length];have h1:(s.R .tr).Nodup:=by
    have:=g.nd;unfold List.Nodup at this ⊢;rw [List.pairwise_map] at this;exact this.imp fun {a b} h e=>h (by rw [e])
   have Q:((s.R .tr).filter fun x=>decide (s.j8 x<0)).reverse.Pairwise fun a b=>a≠b:=List.pairwise_reverse.2 (List.Pairwise.imp (fun h=>Ne.symm h) (List.Pairwise.filter _ h1));unfold List.Nodup;rw [List.pairwise_map];exact Q.imp fun {a b} h e=>h (by omega)
theorem Ij (k:ni N cs s hv un) (U:sU s i):zK N cs (mH s (s.R .tr).length):=by
 intro v m X;refine Classical.byContradiction fun hn=> ?_;have hd: ∀x∈s.sE,v x=1:=fun x V=>by
  refine Classical.byContradiction fun h1=>hn ?_;have J:=k.g.IT x V;have hi:=k.g.tv x J;rw [k.v] at hi;have h2:=m.set x hi;have h3:=m.val x;refine ⟨-x,(lX k.g).2 ?_,by rw [m.neg];omega⟩;obtain ⟨e,he,Y⟩:=List.mem_map.1 V;obtain ⟨j,Q,e3⟩:=List.mem_iff_getElem.1 he;refine ⟨j,Q,?_⟩;have Z:(s.R .be).getD j 0=e:=by simp [List.getD,Q,e3]
  rw [Z,Y,Int.neg_neg]
 have key: ∀x∈s.R .tr,v x=1:=k.g.ru hd fun c O l hl hy _=>by
  obtain ⟨i,hi,rfl⟩:=O;obtain ⟨y,I,hv⟩:=k.imp i hi v m X;by_cases e:y=l
  . rw [<- e];exact hv
  . have:=hy y I e;rw [m.neg,hv] at this;omega
 obtain ⟨y,I,hv⟩:=k.imp i U.1 v m X;have:=key _ (U.2 y I);rw [m.neg,hv] at this;omega
end
section
variable {s t s':aG} {l c d bk T:List Int} {x y:Int} {i j N:Nat} {cs ds:List (List Int)} {hv:List (Nat × List Int)} {un:List (List Int)} {tr:List As} {rl:List Int}
def zk (s:aG) (l:List Int):Prop:= ∀ds:List (List Int),(∀x,x∈ds.map bh↔∃i,s.aQ i/\bh (s.R (.a i))=x)->uB ds l
noncomputable def vT (T tr:List Int) (x:Int):Int:=if x∈T then 1 else if -x∈T then -1 else if x∈tr then -1 else if -x∈tr then 1 else if 0<x then 1 else if x<0 then -1 else 0
theorem JV (g:aM s) (hv:s.vars=N) (I:IY T):Jp N (vT T (s.R .tr)):=by
 have J:(0:Int) ∉ s.R .tr:=fun h=> (g.tv _ h).1 rfl;have h1:(0:Int) ∉ T:=fun h=>I 0 h (by simpa using h);refine ⟨fun l=> ?_,fun l=> ?_,fun l hl=> ?_⟩
 . unfold vT;rw [Int.neg_neg];by_cases a:l∈T
   . rw [if_neg (I l a),if_pos a,if_pos a]
   . by_cases b: -l∈T
     . rw [if_pos b,if_neg a,if_pos b];rfl
     . rw [if_neg b,if_neg a,if_neg a,if_neg b];by_cases c:l∈s.R .tr
       . rw [if_neg (gh g (x:= -l) (by rw [Int.neg_neg];exact c)),if_pos c,if_pos c];rfl
       . by_cases d: -l∈s.R .tr
         . rw [if_pos d,if_neg c,if_pos d]
         . rw [if_neg d,if_neg c,if_neg c,if_neg d];by_cases e:0<l
           . rw [if_neg (by omega),if_pos (by omega),if_pos e]
           . by_cases f:l<0
             . rw [if_pos (by omega),if_neg e,if_pos f];rfl
             . rw [if_neg (by omega),if_neg (by omega),if_neg e,if_neg f];rfl
 . unfold vT;repeat' split
   all_goals omega
 . unfold vT;have:=hl.1;repeat' split
   all_goals omega
theorem Cv (g:aM s) (Y: ∀x∈c,x≠0) (hb:cR c T=false) (hu:df c T=0) (a:Int) (ha: ∀x∈c,x≠a-> -x∈s.R .tr):vS (vT T (s.R .tr)) c:=by
 by_cases h1: ∃x∈c,x∈T
 . obtain ⟨x,I,U⟩:=h1;exact ⟨x,I,by unfold vT;rw [if_pos U]⟩
 have hn: ∀x∈c,x ∉ T:=fun x I e=>h1 ⟨x,I,e⟩;by_cases V: ∃x∈c,x≠a/\ -x ∉ T
 . obtain ⟨x,I,J,U⟩:=V;have Z:=ha x I J;exact ⟨x,I,by unfold vT;rw [if_neg (hn x I),if_neg U,if_neg (gh g Z),if_pos Z]⟩
 exfalso;have hf: ∀x∈c,x≠a-> -x∈T:=fun x I J=>Classical.byContradiction fun e=>V ⟨x,I,J,e⟩;have Q: ∃x∈c,-x ∉ T:=Classical.byContradiction fun e=>by
  rw [<- Bool.not_eq_true,cO] at hb;exact hb fun x I=>Classical.byContradiction fun e2=>e ⟨x,I,e2⟩
 obtain ⟨x,I,O⟩:=Q;have e:x=a:=Classical.byContradiction fun J=>O (hf x I J);subst e;have:=kW (t:=T) (l:=x) (Y x I) O c 0 (fun y X=> ⟨hn y X,by
  by_cases e:y=x
  . exact .inl e
  . exact .inr (hf y X e)⟩) (.inr ⟨rfl,I⟩)
 have hu:jG T c 0=0:=hu;rw [this] at hu;exact Y x I hu
theorem xb (h:bh c=bh d) (x:Int):x∈c↔x∈d:=by rw [<- (cE c).mem,<- (cE d).mem,h]
theorem EW (O: ∀x∈c,x≠0) (V:IY T) (h: ∀x,x∈c↔x∈d) (e:cR c T=false/\df c T=0):cR d T=false/\df d T=0:=by
 obtain ⟨Q,I⟩:=e;refine ⟨?_,Classical.byContradiction fun hn=> ?_⟩
 . rw [<- Bool.not_eq_true,cO] at Q ⊢;exact fun hb=>Q fun x U=>hb x ((h x).1 U)
 . obtain ⟨a1,a2,a3,a4⟩:=kK (fun y J=>O y ((h y).2 J)) hn;have:=kW (t:=T) (O _ ((h _).2 a1)) a3 c 0 (fun y J=>by
    rcases a4 y ((h y).1 J) with e|e
    . exact ⟨by rw [e];exact a2,.inl e⟩
    . exact ⟨fun I=>V _ e (by rw [Int.neg_neg];exact I),.inr e⟩) (.inr ⟨rfl,(h _).2 a1⟩)
   have I:jG T c 0=0:=I;rw [this] at I;exact hn I
theorem Bb (g:aM s) (h: ∀T,IY T->(∀c,s.BR c->cR c T=false/\df c T=0)->(∀x∈l,-x∈T)->False):zk s l:=by
 intro ds Y;have Q: ∀c∈ds,∃i,s.aQ i/\∀x,x∈c↔x∈s.R (.a i):=fun c J=>by
  obtain ⟨i,hi,e⟩:=(Y _).1 (List.mem_map_of_mem J);exact ⟨i,hi,xb e.symm⟩
 have O:NZ ds:=fun x U y Z=>by
  obtain ⟨i,hi,e⟩:=Q x U;exact (g.Kd ⟨i,hi,rfl⟩ y ((e y).1 Z)).1
 by_cases ht:nB l=true
 . exact .inl ht
 obtain ⟨T,V,X⟩:=xz (cs:=ds) (d:=qZ l) O _ _ (Nat.le_refl _) .refl;rcases X with X|hE
 . exact .inr ⟨T,V,X⟩
 . have I:=xI O (tg (by simpa using ht)) V;refine (h T I (fun c J=> ?_) (fun x U=>xY V _ (nV.2 (by rw [Int.neg_neg];exact U)))).elim;obtain ⟨i,hi,rfl⟩:=J;obtain ⟨c,J,e⟩:=List.mem_map.1 ((Y _).2 ⟨i,hi,rfl⟩);exact EW (O c J) I (xb e) (hE c J)
theorem FI (h:pv s tr rl) (g:aM s) (hv:s.vars=N) (hB:sU s i) (ok:eB tr) (hb: ∀x∈s.R (.a i),jk tr x):zk s (shr tr (Le.sF tr (s.R (.a i)))):=by
 refine Bb g fun T hT hE hl=> ?_;have m:=JV g hv hT;have V:xF tr (vT T (s.R .tr)):=by
  refine ⟨fun l _=>m.neg l,m.val,fun k O=>m.set _ ?_,fun k O hr=> ?_⟩
  . have:=g.tv _ (h.mem k O)
    rwa [hv] at this
  . rcases h.rs k O with e| ⟨j,h1,h2⟩
    . exact absurd e hr
    . have hd: ¬gH tr k< (aS tr k).bj:=fun e=>hr (ok.sE k O e);obtain ⟨_,_,Z⟩:=ok.j8 k O hd;rw [h2] at Z ⊢;have I:s.BR (s.R (.a j)):=⟨j,h1,rfl⟩
      obtain ⟨U,Q⟩:=hE _ I;exact Cv g (fun x J=> (g.Kd I x J).1) U Q _ fun x J X=> (h.at_ (Z x J X).1).1
 have I:s.BR (s.R (.a i)):=⟨i,hB.1,rfl⟩
 obtain ⟨U,Q⟩:=hE _ I;have Y:vS (vT T (s.R .tr)) (s.R (.a i)):=Cv g (fun x J=> (g.Kd I x J).1) U Q 0 fun x J _=>hB.2 x J;obtain ⟨y,hy,e⟩:=Aj ok V (fun x J=> (mL ok hb).br x J) (yK ok V hb Y);have h1:=hl y hy;unfold vT at e;rw [if_neg (fun e=>hT y e h1),if_pos h1] at e;exact absurd e (by decide)
theorem IE (g:aM s) (O:sU s i):zk s (mH s (s.R .tr).length):=by
 refine Bb g fun T Z Q hl=> ?_;have V: ∀x∈s.sE,x∈T:=fun x I=>by
  have:=hl (-x) ((lX g).2 (by
   obtain ⟨e,he,U⟩:=List.mem_map.1 I;obtain ⟨j,J,Y⟩:=List.mem_iff_getElem.1 he;refine ⟨j,J,?_⟩;have X:(s.R .be).getD j 0=e:=by simp [List.getD,J,Y]
   rw [X,Int.neg_neg];exact U.symm))
  rwa [Int.neg_neg] at this
 have hs:=g.qY V Z Q;have:=(Q _ ⟨i,O.1,rfl⟩).1;rw [<- Bool.not_eq_true,cO] at this;exact this fun x I=>hs _ (O.2 x I)
theorem Ir (g:aM s) (J:sU s i) (Q:s.R .be= []):zk s []:=by
 refine Bb g fun T U O _=> ?_;have hs:=g.qY (fun x I=>by unfold aG.sE at I;rw [Q] at I;simp at I) U O;have:=(O _ ⟨i,J.1,rfl⟩).1;rw [<- Bool.not_eq_true,cO] at this;exact this fun x I=>hs _ (J.2 x I)
end
section
variable {w0 w w' w1 w2:World} {B N i:Nat} {L L':Nat->Nat} {x:Xs} {l:List Int} {cs:List (List Int)} {hv:List (Nat × List Int)} {un:List (List Int)}
theorem Iq {T:TypeId} {q:Option Addr} {d:Nat} (h:eC T w q d l):l.length<=d:=by
 rcases h.un with ⟨_,J,I⟩| ⟨g,cur,_,_,I,_⟩
 . rw [I];exact Nat.zero_le _
 . exact I
theorem HY (h:SR w0 w B L N x) (g:aM x.s) (hN:x.s.vars<=1000):
 Calls prog cx.id #[bR B] w fun e w'=> ∃ (p:Option Addr) (c:Nat),e= .returned (.tuple #[.slice p (mH x.s (x.s.R .tr).length).length c,.int .i64 (((x.s.R .be).length:Int) - 1),.int .i64 (x.s.R .be).length])/\
  eC aC w' p c (mH x.s (x.s.R .tr).length)/\(∀b,aI p=some b->w.heap.size<=b)/\aq w w':=by
 refine cx.ah ?_;obtain ⟨H,pm,_⟩:=h.pm id;have ap:=g.xh;have ag:=g.Jf;refine ⟨_,rfl,_,ad h.at rfl,(tT pm (by omega)).mono ?_⟩;rintro e w3 ⟨qb,db,rfl,ob,g3,fb⟩;have s3:=g3.size;refine ⟨_,_,_,rfl,fun p n c I u z=> ∃t:Nat,I=t/\t<=(x.s.R .tr).length/\z=(x.s.R .tr).length - t/\n=(mH x.s t).length/\eC aC u p c (mH x.s t)/\(∀b,aI p=some b->w3.heap.size<=b)/\aq w3 u,
  ⟨_,0,rfl,Nat.zero_le _,rfl,by simp [mH],by simp [mH];exact Ow.nil _ _ _,fun b hb=>by simp [aI] at hb,aE.refl _⟩,?_⟩
 rintro p n c I u z _ ⟨t,rfl,ht,rfl,rfl,o,fr,G⟩;refine ao (fun r=> ?_) (fun r=> ?_)
 . have r:t< (x.s.R .tr).length:=by simp at r;omega
   refine (ob.grow G).ix 0 (by omega) rfl (by omega) fun a ha=> ⟨_,ha,?_⟩
   rw [Int.toNat_natCast];have Q:(x.s.R .tr).getD t 0∈x.s.R .tr:=bE r;have S:=h.grow (g3.trans G);have Z:=g.tv _ Q;have ax:=Z.bd g.d7;refine ⟨_,rfl,_,ad S.at rfl,(S.eE g _).mono ?_⟩;rintro e an ⟨rfl,O⟩;refine ⟨_,rfl,?_⟩;rw [xe g Q];have V:=vM (s:=x.s) r;have hlen:=uc g t (by omega);have az:=List.countP_le_length (p:=fun e:Int=>decide (e< (t:Int))) (l:=x.s.R .be);refine ao (fun U=>fun X ac J=> ?_) (fun U=> ?_)
   . have U:x.s.j8 ((x.s.R .tr).getD t 0)<0:=by simpa using U
     rw [if_pos U] at V;have a6:=J.num;have a7:=O.size;have sG:=G.size;have ew:IntKind.i64.wrap (0 - (x.s.R .tr).getD t 0)= -((x.s.R .tr).getD t 0):=by rw [aB (by omega) (by omega)];omega
     rw [ew] at J;have o1:eC aC ac (some ⟨X,0,none⟩) 1 [-((x.s.R .tr).getD t 0)]:=Ow.dx J.at (Nat.le_refl _) (by decide) rfl rfl;refine o1.LI dN ((o.grow O).grow J.mod) rfl rfl fH (by simp;omega) fun ay p' c' o' m' Y aT=> ?_;refine ⟨_,?_,t+1,wN (by omega) (by omega),by omega,rfl,by rw [V];rfl,by rw [V];exact o',fun b hb=> ?_,((G.trans O).trans J.mod).then m' fun b hb e=> ?_⟩
     . omega
     . rcases Y with rfl|rfl
       . have:=bg hb;omega
       . have:=bg hb;have:=J.size;omega
     . have:=bg e;omega
   . have U: ¬x.s.j8 ((x.s.R .tr).getD t 0)<0:=by simpa using U
     rw [if_neg U] at V;exact ⟨_,by omega,t+1,wN (by omega) (by omega),by omega,rfl,by rw [V],by rw [V];exact o.grow O,fr,G.trans O⟩
 . have r:t=(x.s.R .tr).length:=by simp at r;omega
   subst r;have hlen:=Ak g;rw [hlen,aB (by omega) (by omega)];exact ⟨p,c,rfl,o,fun b hb=>by have:=fr b hb;omega,g3.trans G⟩
theorem Gk (h:SR w0 w B L N x) (k:ni N cs x.s hv un) (hN:N<=1000) (U:sU x.s i) (hl:0< (x.s.R .be).length) {p:Option Addr} {n c:Nat} (vb:Vw (Value.int .i64) w p (x.s.R (.a i))) (hn:n=(x.s.R (.a i)).length):
 Calls prog dA.id #[bR B,.slice p n c] w fun e w'=> ∃ (q:Option Addr) (d:Nat) (l:List Int) (bl:Nat) (lv:Int),e= .returned (.tuple #[.slice q l.length d,.int .i64 bl,.int .i64 lv])/\eC aC w' q d l/\(∀b,aI q=some b->w.heap.size<=b)/\aq w w'/\
  LS x.s l bl/\zK N cs l/\zk x.s l/\0<=lv/\lv<=l.length:=by
 refine dA.ah ?_;have g:=k.g;have ay:=k.v;have an:=g.al i;have a6:=g.xh;refine (It h g k.v hN vb hn an fun y hy=>by rw [<- k.v];exact g.cv i U.1 y ((g.ca i U.1 y).2 hy)).mono ?_;rintro e w1 ⟨tp,tc,rp,rc,tr,rl,rfl,C,tv,vr,g1,b8⟩;have s1:=g1.size;refine ⟨_,_,_,_,_,_,rfl,?_⟩;refine (Le.Eg tv rfl (vb.grow g1) hn (by unfold maxLen;omega)).mono ?_;rintro e w4 ⟨q2,d2,o,ho,rfl,O,Z⟩;have s4:=Z.size;refine ⟨_,_,_,_,rfl,?_⟩;have ht:=IS g k.En U hl;cases hm:Le.pM tr (x.s.R (.a i)) with
 |false=>
  refine cj rfl ((HY (h.grow (g1.trans Z)) g (by omega)).mono ?_);rintro e w7 ⟨p7,c7,rfl,o7,f7,g7⟩;have hlen:=Ak g;refine ⟨_,_,_,_,_,rfl,p7,c7,_,(x.s.R .be).length - 1,(x.s.R .be).length,?_,o7,fun b hb=>by have:=f7 b hb;omega,(g1.trans Z).trans g7,Kt g hl,Ij k U,IE g U,by omega,by omega⟩;rw [show (((x.s.R .be).length - 1:Nat):Int)=((x.s.R .be).length:Int) - 1 by omega]
 |true=>
  rw [hm] at ho;simp only [if_true] at ho;subst ho;obtain ⟨m1,ok,m2,m3⟩:=GJ hm;have aT:=GO ok m3;have P:=mL ok m3;refine bm rfl ((Le.sq (tv.grow Z) rfl m1 O.vw rfl (by omega) P.br).mono ?_);rintro e bY ⟨q3,d3,rfl,O3,X,f11⟩;have b9:=X.size;have ar:=Hz tr (Le.sF tr (x.s.R (.a i)));have J:=P.shr.br;have L1:=Hu C g ok m3 hl ht;have F1:=FR C k ok m3 (k.imp i U.1);have R1:=FI C g k.v U ok m3;obtain ⟨l,el⟩: ∃l,l=shr tr (Le.sF tr (x.s.R (.a i))):=⟨_,rfl⟩
  rw [<- el] at O3 ar J L1 F1 R1 ⊢;obtain ⟨L2,L3,L4,L5,L6⟩:=L1;refine ⟨_,_,_,rfl,(Le.xR (tv.grow (Z.trans X)) rfl m1 O3.vw rfl (by omega) (Iq O3) J).mono ?_⟩;rintro e I ⟨rfl,Q⟩;have ag:l.isEmpty=false:=by cases l with
   |nil=>exact absurd rfl L2
   |cons _ _=>rfl
  rw [ag];refine ⟨_,rfl,bm (by simpa using L3) ⟨aq I.drew,aE.refl _,?_⟩⟩;have Y:=(Z.trans X).trans Q;refine (vr.grow (Y.trans (aE.refl I).drew)).ix 0 L3 rfl L4 fun a ha=> ⟨_,fun u gu=>gj gu ha id,?_⟩
  refine (Le.uA (tv.grow (Y.trans (aE.refl I).drew)) rfl m1 ((O3.grow Q).grow (aE.refl I).drew).vw rfl (by omega) J).mono ?_;rintro e b7 ⟨v,rfl,⟨v0,v1⟩,V⟩;refine ⟨_,rfl,V,q3,d3,l,_,v,?_,((O3.grow Q).grow (aE.refl I).drew).grow V,fun b hb=>by have:=f11 b hb;omega,((g1.trans Y).trans (aE.refl I).drew).trans V,L6,F1,R1,v0,v1⟩;rw [Int.toNat_of_nonneg L5]
end
section
variable {w0 w w' w1 w2:World} {B N i:Nat} {L L':Nat->Nat} {x:Xs} {l:List Int} {cs:List (List Int)} {hv:List (Nat × List Int)} {un:List (List Int)}
theorem tQ:nP prog qh ck 5 56=true:=by kernel_rfl
theorem FT:lN prog jX aJ 24=true:=by kernel_rfl
theorem I_ {u:Hc} {b:Nat} (h:bF w b #[.int .i64 u.i,u.sl.v,.int .i64 u.lv,.int .i64 u.sz,.bool u.lk]):Vr 5 D9 w (some ⟨b,0,none⟩) [u]:=by
 intro j I;have:j=0:=by simpa using I
 subst this;exact ⟨_,rfl,ad h rfl,ad h rfl,ad h rfl,ad h rfl,ad h rfl,trivial⟩
theorem KQ {n:Nat} (hn:n<=4096) (h: ∀y∈l,dR n y) (hl:l.length<=4096):um n l=true:=by
 unfold um iu;simp only [Bool.and_eq_true,List.all_eq_true,decide_eq_true_eq];exact ⟨⟨fun y I=>oD (by omega) (h y I),hl⟩,fun y I=> (ia (by omega)).2 (h y I)⟩
theorem SR.Mw (h:SR w0 w B L N x) (g:aM x.s) (J:x.s.nc<262144) (I:um x.s.vars l=true) {p:Option Addr} {n c:Nat} (V:Vw (Value.int .i64) w p l) (hn:n=l.length) (U:n<=maxLen):
 Calls prog fC.id #[bR x.pb,.slice p n c] w fun e w'=>e= .returned (.tuple #[.int .i64 x.s.nc,.int .i64 0])/\∃L' s',SR w0 w' B L' N {x with s:=s'}/\Kp w0 w w' L L'/\aM s'/\jT x.s l s':=by
 obtain ⟨H,pm,hl⟩:=h.pm id;refine (pI pm g V hn U).mono ?_;rintro e w' ⟨Z,Y,rfl,s',X,p,O,Q⟩;rcases Q with ⟨_,_,e,_⟩| ⟨_,_,_,e,_⟩| ⟨rfl,rfl,_,_,a⟩
 . rw [I] at e;exact absurd e (by decide)
 . omega
 . have:=h.sg hl pm.lt p;exact ⟨rfl,_,s',this.1,this.2,O,a⟩
def Xs.lrn (x:Xs) (s':aG) (sl:Sl) (l:List Int) (lv:Int) (hs us:Sl):Xs:=
 if 1<l.length then {x with s:=s',hs:=hs,hv:=x.hv++ [⟨x.s.nc,sl,l,lv,l.length,false⟩]} else {x with s:=s',us:=us,un:=x.un++ [(sl,l)]}
theorem Hd (h:SR w0 w B L N x) (g:aM x.s) (av:x.s.nc<262144) (az:um x.s.vars l=true) {p:Option Addr} {n c:Nat} (ro:RO w L ⟨p,n,c⟩ l) (hx:l.length<=4096) (lv:Int) (a':x.hv.length<=1000000) (bb:x.un.length<=1000000):
 Calls prog eW.id #[bR B,.slice p n c,.int .i64 lv] w fun e w'=>e= .returned (.tuple #[])/\∃L' s' hs us,SR w0 w' B L' N (x.lrn s' ⟨p,n,c⟩ l lv hs us)/\Kp w0 w w' L L'/\aM s'/\jT x.s l s':=by
 have hn:n=l.length:=ro.n;refine eW.ah ⟨_,rfl,_,ad h.at rfl,(h.Mw g av az ro.v hn (by unfold maxLen;omega)).mono ?_⟩;rintro e w3 ⟨rfl,L3,s',S3,k3,g',ha⟩;have aa:RO w3 L3 ⟨p,n,c⟩ l:=k3.ro ro;refine ⟨_,_,rfl,bm rfl (ao (fun r=> ?_) (fun r=> ?_))⟩
 . have r:1<l.length:=by simp at r;omega
   refine ⟨_,rfl,_,_,_,ad S3.at rfl,fun ap Q I=> ?_⟩;have J:=S3.grow I.mod;obtain ⟨r1,r2,r3⟩:=J.hv id;have k4:Kp w0 w3 Q L3 L3:=jA.grow I.mod;have Y:=k4.ro aa;have hb:bF Q ap #[.int .i64 (x.s.nc:Int),(⟨p,n,c⟩:Sl).v,.int .i64 lv,.int .i64 (l.length:Int),.bool false]:=by have:=I.has;rw [hn] at this;rw [hn];exact this
   refine Row.oV wD tQ r1 (I_ (u:=⟨x.s.nc,⟨p,n,c⟩,l,lv,l.length,false⟩) hb) r2 rfl (by simp;omega) fun w8 Z c' o8 m8 O a6=> ⟨_,rfl,?_⟩
   have V:bF w8 B _:=J.at.keep m8 fun e=>by have:=(r3 B e).1;rw [J.ml.1] at this;exact absurd this (by decide)
   refine bZ V rfl rfl fun a7 U X=> ?_;have:=J.EY (q:=⟨Z,(x.hv++ [(⟨x.s.nc,⟨p,n,c⟩,l,lv,l.length,false⟩:Hc)]).length,c'⟩) (hv':=x.hv++ [(⟨x.s.nc,⟨p,n,c⟩,l,lv,l.length,false⟩:Hc)]) m8 o8 rfl (yS O (Nat.le_refl _)) (fun u hu=>by
    rcases List.mem_append.1 hu with hu|hu
    . exact J.hr id u hu
    . rw [List.mem_singleton] at hu;subst hu;exact Y) U X (J.L8 (by decide) r3 O (Nat.le_refl _))
   refine ⟨rfl,_,s',⟨Z,(x.hv++ [(⟨x.s.nc,⟨p,n,c⟩,l,lv,l.length,false⟩:Hc)]).length,c'⟩,x.us,?_,(k3.trans k4).trans this.2,g',ha⟩;unfold Xs.lrn;rw [if_pos r];exact this.1
 . have r: ¬1<l.length:=by simp at r;omega
   refine ⟨_,rfl,_,_,_,ad S3.at rfl,fun ap Q I=> ?_⟩;have J:=S3.grow I.mod;obtain ⟨r1,r2,r3⟩:=J.un id;have k4:Kp w0 w3 Q L3 L3:=jA.grow I.mod;have Y:=k4.ro aa;refine r1.kZ FT (⟨p,n,c⟩:Sl) I.has rfl (by rw [List.length_map];exact r2) (fun _=>rfl) (by simp;omega) fun w8 Z c' o8 m8 O a6=> ⟨_,rfl,?_⟩
   have V:bF w8 B _:=J.at.keep m8 fun e=>by have:=(r3 B e).1;rw [J.ml.1] at this;exact absurd this (by decide)
   refine bZ V rfl rfl fun a7 U X=> ?_;have:=J.FM (q:=⟨Z,(x.un.map (·.1)).length+1,c'⟩) (un':=x.un++ [((⟨p,n,c⟩:Sl),l)]) m8 (by rw [List.map_append];exact o8) (by simp) (yS O (Nat.le_refl _)) (fun u hu=>by
    rcases List.mem_append.1 hu with hu|hu
    . exact J.ur id u hu
    . rw [List.mem_singleton] at hu;subst hu;exact Y) U X (J.L8 (by decide) r3 O (Nat.le_refl _))
   refine ⟨rfl,_,s',x.hs,⟨Z,(x.un.map (·.1)).length+1,c'⟩,?_,(k3.trans k4).trans this.2,g',ha⟩;unfold Xs.lrn;rw [if_neg r];exact this.1
end
section
variable {w0 w w' w1 w2:World} {B N i:Nat} {L L':Nat->Nat} {x:Xs} {l:List Int} {cs:List (List Int)} {hv:List (Nat × List Int)} {un:List (List Int)}
theorem KA (a b c:Value):(#[]++ #[a]++ #[b,c]:Array Value)= #[a,b,c]:=by simp
theorem AW (h:SR w0 w B L N x) (g:aM x.s) {V U:Nat} (h1:bF w V #[bR B]) {u:Hc} (Y:bF w U #[.int .i64 u.i,u.sl.v,.int .i64 u.lv,.int .i64 u.sz,.bool u.lk]) (l:Int):
 Calls prog cD.id #[.int .i64 l,.pointer (some ⟨V,0,none⟩),.pointer (some ⟨U,0,none⟩)] w fun e w'=>e= .returned (.bool (decide (x.s.value l>0) && (x.s.eE l==u.i)))/\aq w w':=by
 refine cD.ah ?_;have Q:aq w w.drew:=(aE.refl w).drew;have D:=h.drew;have d1:=h1.grow Q;have d3:=Y.grow Q;refine ⟨aq w.drew,aE.refl _,_,fun u I=>aR (d1.grow I) rfl,_,rfl,_,fun u I=>ad (D.at.grow I) rfl,(D.value g l).mono ?_⟩;rintro e Z ⟨rfl,J⟩;refine ⟨_,rfl,J,ao (fun r=> ?_) (fun r=> ?_)⟩
 . refine ⟨_,fun u I=>aR (d1.grow I) rfl,_,rfl,_,fun u I=>ad (D.at.grow I) rfl,((D.grow J).eE g l).mono ?_⟩;rintro e X ⟨rfl,O⟩;refine ⟨_,rfl,J.trans O,_,fun u I=>ad (d3.grow I) rfl,?_,(Q.trans J).trans O⟩;rw [r];rfl
 . refine ⟨?_,Q.trans J⟩;rw [r];rfl
theorem zN:fM prog 200=true:=by kernel_rfl
theorem Dd (h:SR w0 w B L N x) (g:aM x.s) {u:Hc} (ro:RO w L u.sl u.c) (Z:u.c.length<=4096):
 Calls prog cY.id #[bR B,.agg #[.int .i64 u.i,.slice u.sl.p u.sl.n u.sl.c,.int .i64 u.lv,.int .i64 u.sz,.bool u.lk]] w fun e w'=> ∃r:Bool,e= .returned (.bool r)/\aq w w':=by
 refine cY.ah ?_;intro n1 w2 O U V I;have G:=O.mod.trans I.mod;refine ⟨_,_,_,ad I.has rfl,?_⟩;have hn:=ro.n;refine (iA (ro.v.grow G) hn (by unfold maxLen;omega) zN (fun l=>decide (x.s.value l>0) && (x.s.eE l==u.i)) fun y _ X J=> ?_).mono ?_
 . rw [KA];exact AW (h.grow (G.trans J)) g ((O.has.grow I.mod).grow J) (I.has.grow J) y
 . rintro e Y ⟨rfl,Q⟩;exact ⟨_,rfl,_,rfl,G.trans Q⟩
theorem SR.MQ (h:SR w0 w B L N x) (m:aE (fun k=>L k=0/\w0.heap.size<=k) w w') (hl: ∀k,k<w.heap.size->L' k=L k):SR w0 w' B L' N x/\jA (fun i=>i=0) w0 w w' L L':=by
 have b:=h.Ja (E':=fun j=>j=0) ⟨m,hl⟩;exact ⟨⟨b.g,fun _=>b.me (by simp),b.ml,fun _=>b.pm (by simp),fun _=>b.hp (by simp),fun _=>b.ph (by simp),fun _=>b.hv (by simp),fun _=>b.hr (by simp),fun _=>b.un (by simp),fun _=>b.ur (by simp),fun _=>b.pr (by simp),fun _=>b.rr (by simp),fun _=>b.mo (by simp)⟩,⟨m,hl⟩⟩
theorem RO.uv {s:Sl} {c:List Int} (h:RO w L s c) (hl: ∀k,L k≠0->L' k=L k):RO w L' s c:=
 ⟨h.n,h.v,fun k I=> ⟨by rw [hl k (by rw [(h.l k I).1];decide)];exact (h.l k I).1,(h.l k I).2⟩⟩
theorem SR.uv (h:SR w0 w B L N x) (hl: ∀k,L k≠0->L' k=L k):SR w0 w B L' N x:=by
 have key: ∀ {i k:Nat},i≠0->L k=i/\w0.heap.size<=k->L' k=i/\w0.heap.size<=k:=fun hi I=> ⟨by rw [hl _ (by rw [I.1];exact hi)];exact I.1,I.2⟩
 refine ⟨h.g,h.me,⟨by rw [hl B (by rw [h.ml.1];decide)];exact h.ml.1,h.ml.2⟩,fun e=> ?_,fun e=> ?_,fun e=> ?_,fun e=> ?_,fun e u hu=> (h.hr e u hu).uv hl,fun e=> ?_,fun e u hu=> (h.ur e u hu).uv hl,fun e=> ?_,fun e u hu=> (h.rr e u hu).uv hl,fun e=> ?_⟩
 . obtain ⟨H,a,b⟩:=h.pm e;exact ⟨H,a,fun y k I=>key (by decide) (b y k I)⟩
 . obtain ⟨z,a,b,c,d⟩:=h.hp e;exact ⟨z,a,b,c,fun k I=>key (by decide) (d k I)⟩
 . obtain ⟨a,b,c⟩:=h.ph e;exact ⟨a,b,fun k I=>key (by decide) (c k I)⟩
 . obtain ⟨a,b,c⟩:=h.hv e;exact ⟨a,b,fun k I=>key (by decide) (c k I)⟩
 . obtain ⟨a,b,c⟩:=h.un e;exact ⟨a,b,fun k I=>key (by decide) (c k I)⟩
 . obtain ⟨a,b,c⟩:=h.pr e;exact ⟨a,b,fun k I=>key (by decide) (c k I)⟩
 . obtain ⟨a,b,c⟩:=h.mo e;exact ⟨a,b,fun k I=>key (by decide) (c k I)⟩
theorem SR.La (h:SR w0 w B L N x) {hv':List Hc} (m:aE (fun k=>aI x.hs.p=some k) w w') (r:Row 5 D9 ck w' x.hs.p x.hs.c hv') (hq:hv'.length=x.hv.length) (I: ∀u∈hv',RO w L u.sl u.c):SR w0 w' B L N {x with hv:=hv'}/\jA (fun i=>i=5) w0 w w' L L:=by
 obtain ⟨O,p2,J⟩:=h.hv id;have c:jA (fun i=>i=5) w0 w w' L L:=⟨m.mono fun k _ e=>J k e,fun _ _=>rfl⟩
 have b:=h.Ja c;exact ⟨⟨b.g,fun _=>b.me (by simp),b.ml,fun _=>b.pm (by simp),fun _=>b.hp (by simp),fun _=>b.ph (by simp),fun _=> ⟨r,by rw [p2,hq],J⟩,fun _ u hu=> (I u hu).keep c (by simp),fun _=>b.un (by simp),fun _=>b.ur (by simp),fun _=>b.pr (by simp),fun _=>b.rr (by simp),fun _=>b.mo (by simp)⟩,c⟩
theorem SR.swap (h:SR w0 w B L N x) {q:Sl} {hv':List Hc} (r:Row 5 D9 ck w q.p q.c hv') (hq:q.n=hv'.length) (hl: ∀k,aI q.p=some k->L k=5/\w0.heap.size<=k) (I: ∀u∈hv',RO w L u.sl u.c)
 (st:bF w2 B {x with hs:=q,hv:=hv'}.cells) (m2:aE (·=B) w w2):SR w0 w2 B L N {x with hs:=q,hv:=hv'}/\Kp w0 w w2 L L:=by
 have c:jA (fun i=>i=1) w0 w w2 L L:=⟨m2.mono fun k _ (e:k=B)=>by subst e;exact ⟨h.ml.1,h.ml.2.1⟩,fun _ _=>rfl⟩
 have b:=h.Ja c;exact ⟨⟨b.g,fun _=>st,b.ml,fun _=>b.pm (by simp),fun _=>b.hp (by simp),fun _=>b.ph (by simp),fun _=> ⟨r.keep m2 fun k J (e:k=B)=>by subst e;have:=(hl _ J).1;rw [h.ml.1] at this;exact absurd this (by decide),hq,hl⟩,fun _ u hu=> (I u hu).keep c (by simp),fun _=>b.un (by simp),fun _=>b.ur (by simp),fun _=>b.pr (by simp),fun _=>b.rr (by simp),fun _=>b.mo (by simp)⟩,c.sj fun i e=>by rw [e];decide⟩
theorem jA.row {E:Nat->Prop} {sz:Nat} {α:Type} {f:α->List Value} {T:TypeId} {p:Option Addr} {c:Nat} {l:List α} (k:jA E w0 w w' L L') (h:Row sz f T w p c l) (hl: ∀b,aI p=some b->¬E (L b)):Row sz f T w' p c l:=
 h.keep k.mod fun b hb e=>hl b hb e.1
theorem jA.lb {E:Nat->Prop} {p:Option Addr} {i n:Nat} (k:jA E w0 w w' L L') (h: ∀b,aI p=some b->L b=i/\n<=b) (hl: ∀b,aI p=some b->b<w.heap.size): ∀b,aI p=some b->L' b=i/\n<=b:=
 fun b hb=> ⟨by rw [k.yx b (hl b hb)];exact (h b hb).1,(h b hb).2⟩
theorem SR.Lg (h:SR w0 w B L N x) (g:aM x.s) (i:Nat):Calls prog ee.id #[bR x.pb,.int .i64 i] w fun e w'=> ∃r:Int,e= .returned (.int .i64 r)/\∃L',jA (fun i=>i=2) w0 w w' L L'/\
 ((r≠0/\SR w0 w' B L' N x)\/(r=0/\x.s.aQ i/\aM (x.s.drop i)/\SR w0 w' B L' N {x with s:=x.s.drop i})):=by
 obtain ⟨H,pm,hl⟩:=h.pm id;have J: ∀ {w':World} {O:Pt->Sl} {s':aG},Pw w w' x.pb H O s'->jA (fun i=>i=2) w0 w w' L (jf L w.heap.size 2):=fun p=> ⟨p.mod.mono fun k _ ⟨y,e⟩=>hl y k e,fun _ Q=>cU Q⟩
 refine (IP pm g i).mono ?_;rintro e w' ⟨r,rfl,O,⟨rfl,_,p⟩| ⟨rfl,_,_,p⟩| ⟨rfl,hi,hr,p⟩⟩
 . exact ⟨_,rfl,_,J p,.inl ⟨by decide,(h.sg hl pm.lt p).1⟩⟩
 . exact ⟨_,rfl,_,J p,.inl ⟨by decide,(h.sg hl pm.lt p).1⟩⟩
 . obtain ⟨_,I⟩:=aG.yg.1 hi;rw [Int.toNat_natCast] at I hr p;exact ⟨_,rfl,_,J p,.inr ⟨rfl,I,Du g I fun y U e=>hr ⟨y,U,e⟩,(h.sg hl pm.lt p).1⟩⟩
theorem D_ (h:SR w0 w B L N x) (hp:x.pr.length<=1000000000) (del:Bool) {sl:Sl} (ro:RO w L sl l) {b:Nat} (hb:bF w b #[.bool del,sl.v]) {K:World->Prop}
 (Z: ∀w' L' q,SR w0 w' B L' N {x with ps:=q,pr:=x.pr++ [(del,sl,l)]}->jA (fun i=>i=7\/i=1) w0 w w' L L'->K w'):
 ∃Y V X U,(Builtin.append_ #[25,25] 25 #[.slice x.ps.p x.ps.n x.ps.c,.slice (some (Addr.mk b 0 none)) 1 1]).run prog w= .ok (.slice V X U) Y/\
  ∃Q,(some (Addr.mk B 0 none))=some Q/\∃I,af ((Q.add 14).add 2) 0 [.slice V X U] Y I/\K I:=by
 obtain ⟨r1,r2,r3⟩:=h.pr id;refine Row.oV F9 zY r1 (Jo (u:=(del,sl,l)) hb) r2 rfl (by simp;omega) fun Y p' c' o8 m8 O an=> ⟨_,rfl,?_⟩
 have ag:bF Y B x.cells:=h.at.keep m8 fun e=>by have:=(r3 B e).1;rw [h.ml.1] at this;exact absurd this (by decide)
 refine gC ag rfl rfl fun I ac J=> ?_;have:=h.EH (q:=⟨p',(x.pr++ [(del,sl,l)]).length,c'⟩) (pr':=x.pr++ [(del,sl,l)]) m8 o8 rfl (yS O (Nat.le_refl _)) (fun u hu=>by
  rcases List.mem_append.1 hu with hu|hu
  . exact h.rr id u hu
  . rw [List.mem_singleton] at hu;subst hu;exact ro) ac J (h.L8 (by decide) r3 O (Nat.le_refl _))
 refine Z _ _ _ this.1 ⟨(m8.mono fun k _ e=> ⟨.inl (r3 k e).1,(r3 k e).2⟩).then J fun k Z (e:k=B)=>by subst e;exact ⟨.inr h.ml.1,h.ml.2.1⟩,fun _ Z=>cU Z⟩
end
section
variable {w0 w w' w1 w2 u:World} {B N i:Nat} {L L' L1:Nat->Nat} {x:Xs} {l:List Int} {cs:List (List Int)} {hv:List (Nat × List Int)} {un:List (List Int)}
def Bf:Hc:=⟨0,Sl.nil,[],0,0,false⟩
def DS (h:Hc):Nat × List Int:=(h.i,h.c)
def Jc (h:Hc):Prop:=0<=h.lv/\h.lv<=h.sz/\h.sz<=4096/\h.c.length<=4096
theorem Lj (a:Addr) (i j:Nat):(a.add i).add j=a.add (i+j):=by
 by_cases I:i=0
 . subst I;simp [Addr.add]
 . by_cases J:j=0
   . subst J;simp [Addr.add]
   . simp [Addr.add,I,J,Nat.add_assoc]
theorem vZ {a:Addr} {k:Nat}: ∀ {vs:List Value} {i:Nat},aD w a (k+i) vs->aD w (a.add k) i vs
 | [],_,_=>trivial
 |v::vs,i,⟨h1,h2⟩=> ⟨by rw [Lj];exact h1,vZ (i:=i+1) h2⟩
theorem K2 {hs:List Hc} {p:Option Addr} {c n:Nat} (h:Row 5 D9 ck w p c hs) {i:Int} (t:Nat) (hi:i=t) (hn:n=hs.length) (ht:t<hs.length) (r:Bool) {K:World->Prop}
 (J: ∀w',Row 5 D9 ck w' p c (hs.set t {hs.getD t Bf with lk:=r})->aE (fun b=>aI p=some b) w w'->K w'):
 aV p n i 5 fun a=> ∃w',af ((a.add 2).add 2) 0 [.bool r] w w'/\K w':=by
 have:=h.M4 wD (i:=i) (n:=n) (o:=4) (v:= .bool r) Bf {hs.getD t Bf with lk:=r} (by rw [hi,Int.toNat_natCast];rfl) (by decide) rfl (by omega) hn (by omega) (K:=K) fun w' I m'=>J w' (by rw [hi,Int.toNat_natCast] at I;exact I) m';simp only [Lj];exact this
theorem He:nP prog ra pe 3 24=true:=by kernel_rfl
theorem Lo {v:RedP.Lr} {b:Nat} (h:bF w b #[.int .i64 v.1,.int .i64 v.2.1,.bool v.2.2]):Vr 3 Re.Ep w (some ⟨b,0,none⟩) [v]:=by
 intro j I;have:j=0:=by simpa using I
 subst this;exact ⟨_,rfl,ad h rfl,ad h rfl,ad h rfl,trivial⟩
theorem sX {α:Type} {m:List α} {t:Nat} {d:α} (h:t<m.length):m.getD t d∈m:=by simp [List.getD,h]
theorem xd {m:List Hc} {t:Nat} (h:t<m.length):m.drop t=m.getD t Bf::m.drop (t+1):=by
 rw [List.drop_eq_getElem_cons h];simp [List.getD,h]
def vN (h:Hc):Nat × Sl × List Int × Int × Int:=(h.i,h.sl,h.c,h.lv,h.sz)
def mg (a b:List Hc):Prop:=a.map vN=b.map vN
theorem mg.len {a b:List Hc} (h:mg a b):a.length=b.length:=by have:=congrArg List.length h;simpa using this
theorem mg.at_ {a b:List Hc} (h:mg a b) {t:Nat} (ht:t<a.length):vN (a.getD t Bf)=vN (b.getD t Bf):=by
 have hb:t<b.length:=by rw [<- h.len];exact ht
 have I:(a.map vN)[t]? =(b.map vN)[t]? :=by rw [show a.map vN=b.map vN from h]
 rw [List.getElem?_map,List.getElem?_map,List.getElem?_eq_getElem ht,List.getElem?_eq_getElem hb] at I;simpa [List.getD,ht,hb] using I
theorem mg.mem {a b:List Hc} (h:mg a b) {P:Hc->Prop} (O: ∀u v:Hc,vN u=vN v->P u->P v) (ha: ∀u∈a,P u): ∀v∈b,P v:=by
 intro v hv;obtain ⟨j,J,rfl⟩:=List.mem_iff_getElem.1 hv;have I:j<a.length:=by rw [h.len];exact J
 have:=h.at_ I;refine O _ _ ?_ (ha _ (sX (d:=Bf) I));rw [this];simp [List.getD,J]
theorem mg.set {a b:List Hc} (h:mg a b) {t:Nat} (ht:t<b.length) {v:Hc} (hv:vN v=vN (b.getD t Bf)):mg a (b.set t v):=by
 unfold mg at*
 rw [h];refine List.ext_getElem (by simp) fun j h1 I=> ?_;simp only [List.length_map,List.length_set] at h1 I;rw [List.getElem_map,List.getElem_map,List.getElem_set];by_cases e:t=j
 . subst e;rw [if_pos rfl,hv];simp [List.getD,h1]
 . rw [if_neg e]
theorem mg.DS {a b:List Hc} (h:mg a b):a.map DS=b.map DS:=by
 have:=congrArg (List.map fun z:Nat × Sl × List Int × Int × Int=> (z.1,z.2.2.1)) h;rw [List.map_map,List.map_map] at this;exact this
structure M_ (w0 w u:World) (B:Nat) (L:Nat->Nat) (N:Nat) (x:Xs) (t:Nat) (hv1:List Hc) (ll:List RedP.Lr) (p:Option Addr) (c:Nat):Prop where
 len:ll.length=t
 ok: ∀y∈ll,RedP.At y=true
 row:Row 3 Re.Ep pe u p c ll
 fr: ∀b,aI p=some b->w.heap.size<=b
 sr:SR w0 u B (jf L w.heap.size 0) N {x with hv:=hv1}
 kp:Kp w0 w u L (jf L w.heap.size 0)
 sm:mg x.hv hv1
theorem JJ (h:SR w0 w B L N x) {b:Nat} (hb:w.heap.size<=b):jf L w.heap.size 0 b=0/\w0.heap.size<=b:=⟨hJ hb,Nat.le_trans h.g.size hb⟩
theorem JC (h:SR w0 w B L N x) (g:aM x.s) (ez:x.hv.length<=1000000) (ei: ∀u∈x.hv,Jc u) {K:Option Addr->Nat->Nat->World->Prop}
 (hk: ∀p c u I ll,M_ w0 w u B L N x x.hv.length I ll p c->K p ll.length c u):
 ∃I3:Option Addr->Nat->Nat->Int->World->Nat->Prop,(∃k4,I3 none 0 0 0 w k4)/\
  ∀ (X:Option Addr) (V:Nat) (U:Nat) (v7:Int) (w8:World) (k4:Nat) (_:Fr),I3 X V U v7 w8 k4->
  aH (decide (v7< (x.hs.n:Int)))
   (aV x.hs.p x.hs.n v7 5 fun a9=>
     ∃du bv a_ aw cg d4 dc,aD w8 a9 0 [.int .i64 du,.slice bv a_ aw,.int .i64 cg,.int .i64 d4,.bool dc]/\
     ∀n15 b5,bc (.cells #[.int .i64 0,.slice none 0 0,.int .i64 0,.int .i64 0,.bool false] 184) w8 n15 b5->
     ∃O,af (Addr.mk n15 0 none) 0 [.int .i64 du,.slice bv a_ aw,.int .i64 cg,.int .i64 d4,.bool dc] b5 O/\
     ∃ap:World->Prop,ap O.drew/\
     ∃dT,(some (Addr.mk B 0 none))=some dT/\∃a7 ax dd,e_ ap (dT.add 11) (.slice a7 ax dd)/\
     ∃dq a6 az ay c1 dp b',kG ap (Addr.mk n15 0 none) [.int .i64 dq,.slice a6 az ay,.int .i64 c1,.int .i64 dp,.bool b']/\
     Calls prog 174 #[.pointer (some (Addr.mk B 0 none)),.agg #[.int .i64 dq,.slice a6 az ay,.int .i64 c1,.int .i64 dp,.bool b']] O.drew fun e ag=> ∃J,e= .returned (.bool J)/\
     ap ag/\aV a7 ax v7 5 fun en=>
     ∃Z,af ((en.add 2).add 2) 0 [.bool J] ag Z/\
     ∃cc,(some (Addr.mk B 0 none))=some cc/\∃aT a' cb,Z.cell? (cc.add 11)=some (.slice aT a' cb)/\
     aV aT a' v7 5 fun c0=>
     ∃c7 dk c2,aD Z (c0.add 2) 0 [.int .i64 c7,.int .i64 dk,.bool c2]/\
     ∀bY ac,bc (.cells #[.int .i64 c7,.int .i64 dk,.bool c2] 182) Z bY ac->
     ∃ar a8 bb av,(Builtin.append_ #[186,186] 186 #[.slice X V U,.slice (some (Addr.mk bY 0 none)) 1 1]).run prog ac= .ok (.slice a8 bb av) ar/\
     ∃k5,k5<k4/\I3 a8 bb av (IntKind.i64.wrap (v7+ (1:Int))) ar k5)
   (K X V U w8):=by
 have cp:=(h.hv id).2.1;refine ⟨fun p n c v u z=> ∃ (t:Nat) (I:List Hc) (ll:List RedP.Lr),v=t/\t<=x.hv.length/\z=x.hv.length - t/\n=ll.length/\M_ w0 w u B L N x t I ll p c,
  ⟨_,0,x.hv,[],rfl,Nat.zero_le _,rfl,rfl,⟨rfl,by simp,Row.nil _ _ _ _,fun b hb=>by simp [aI] at hb,h.new (aE.refl w) 0,jA.new (aE.refl w) 0,rfl⟩⟩,?_⟩
 rintro p n c v u z _ ⟨t,I,ll,rfl,ht,rfl,rfl,A⟩;have hlen:=A.sm.len;refine ao (fun r=> ?_) (fun r=> ?_)
 . have r:t<x.hv.length:=by rw [cp] at r;simpa using r
   obtain ⟨r1,r2,r3⟩:=A.sr.hv id;have r1:Row 5 D9 ck u x.hs.p x.hs.c I:=r1;obtain ⟨y,hy⟩: ∃y,y=I.getD t Bf:=⟨_,rfl⟩
   have bx:y∈I:=by rw [hy];exact sX (by omega)
   refine (r1.vr wD).ix Bf (by omega) (by omega) (by omega) fun a ha=> ?_;rw [Int.toNat_natCast,<- hy] at ha;refine ⟨_,_,_,_,_,_,_,ha,fun n15 b5 b9=> ?_⟩;refine bq b9.has rfl rfl fun O b7 el=> ?_;have b7:bF O n15 #[.int .i64 y.i,.slice y.sl.p y.sl.n y.sl.c,.int .i64 y.lv,.int .i64 y.sz,.bool y.lk]:=b7;have eH:=b9.num;have d8:aq u O.drew:=(aE.bW b9.mod el (by omega)).trans (aE.refl O).drew;have b6:=A.sr.grow d8;have aa:=b7.grow (aE.refl O).drew;refine ⟨aq O.drew,aE.refl _,_,rfl,_,_,_,fun v gv=>ad (b6.at.grow gv) rfl,_,_,_,_,_,_,_,fun v gv=> ⟨ad (aa.grow gv) rfl,ad (aa.grow gv) rfl,ad (aa.grow gv) rfl,ad (aa.grow gv) rfl,ad (aa.grow gv) rfl,trivial⟩,?_⟩;have d9:Jc y:=A.sm.mem (fun u v e hu=>by unfold Jc at*;simp only [vN,Prod.mk.injEq] at e;obtain ⟨_,_,e3,e4,e5⟩:=e;rw [<- e3,<- e4,<- e5];exact hu) ei y bx;refine (Dd b6 g (b6.hr id y bx) d9.2.2.2).mono ?_;rintro e ag ⟨J,rfl,d5⟩;refine ⟨_,rfl,d5,?_⟩;have an:=d8.trans d5;have ek:=r1.grow an;have b8:=A.sr.grow an;refine K2 ek t rfl (by omega) (by omega) J fun Z b4 cT=> ?_;rw [<- hy] at b4;have Q:=b8.La cT b4 (by show (I.set _ _).length=I.length;simp) fun v hv=>by
    rcases List.mem_or_eq_of_mem_set hv with e|e
    . exact b8.hr id v e
    . subst e;exact b8.hr id y bx
   have Q1:SR w0 Z B (jf L w.heap.size 0) N {x with hv:=I.set t {y with lk:=J}}:=Q.1;refine ⟨_,rfl,_,_,_,ad Q1.at rfl,(b4.vr wD).ix Bf (by omega) (by simp;omega) (by show (t:Int)< (x.hs.n:Int);omega) fun c0 cm=> ?_⟩;rw [Int.toNat_natCast,show (I.set t {y with lk:=J}).getD t Bf= {y with lk:=J} by simp [List.getD,show t<I.length by omega]] at cm;refine ⟨y.lv,y.sz,J,vZ (k:=2) (i:=0) cm.2.2,fun bY ac Y=> ?_⟩;have ey:=Y.num;have es:=Y.size;have c3:aE (fun k=>aI x.hs.p=some k) u ac:=(an.mono fun _ _ e=>e.elim:aE (fun k=>aI x.hs.p=some k) u ag).then (cT.then Y.mod fun _ _ e=>e.elim) fun _ _ e=>e;have rl:=A.row.keep c3 fun b hb e=>by
    have h1:=A.fr b hb;have h2:=(h.hv id).1.lt b e;omega
   refine Row.oV Re.MZ He rl (Lo (v:=(y.lv,y.sz,J)) Y.has) rfl rfl (by have:=A.len;simp;omega) fun ar p' c' o8 m8 ed eT=> ?_;have ej:=Q1.grow Y.mod;have eL:=A.kp.mod.size;have eR:=c3.size;have ef:aE (fun k=>jf L w.heap.size 0 k=0/\w0.heap.size<=k) ac ar:=m8.mono fun k _ e=>JJ h (A.fr k e);have ce:=ej.MQ (L':=jf L w.heap.size 0) ef fun _ _=>rfl;have kk:=(((A.kp.trans (jA.grow an)).trans (Q.2.sj fun i e=>by rw [e];decide)).trans (jA.grow Y.mod)).trans (ce.2.sj fun i e=>by rw [e];decide);refine ⟨_,?_,t+1,I.set t {y with lk:=J},ll++ [(y.lv,y.sz,J)],wN (by omega) (by omega),by omega,rfl,rfl,⟨by rw [List.length_append,A.len];rfl,fun v hv=> ?_,o8,fun b hb=> ?_,ce.1,kk,A.sm.set (by omega) (by rw [<- hy];rfl)⟩⟩
   . omega
   . rcases List.mem_append.1 hv with hv|hv
     . exact A.ok v hv
     . rw [List.mem_singleton] at hv;subst hv;unfold RedP.At;obtain ⟨o1,o2,o3,o4⟩:=d9;simp;omega
   . rcases ed with rfl|rfl
     . exact A.fr b hb
     . have:=bg hb;omega
 . have r:t=x.hv.length:=by rw [cp] at r;simp at r;omega
   subst r;exact hk _ _ _ _ _ A
end
end Go.Proofs.YtenmibfmhccmiaaGreat.W
