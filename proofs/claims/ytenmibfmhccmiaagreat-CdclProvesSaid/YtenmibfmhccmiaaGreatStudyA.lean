/- Layer 14: what a broken clause teaches, plain. -/
import Derived.Test.YtenmibfmhccmiaaGreatBackA
import Derived.Test.YtenmibfmhccmiaaGreatPropC
namespace Go.Proofs.YtenmibfmhccmiaaGreat.W
open Go Go.Fw Go.RowKit Go.SoP Go.LiP Go.LeP
open Go.Proofs.Tryz (prog)
section
variable {s t s':aH} {l c d bk:List Int} {x y:Int} {i j N:Nat} {cs:List (List Int)} {hv:List (Nat × List Int)} {un:List (List Int)} {tr:List As} {rl:List Int}
theorem H0 (h:Le.qM tr l=true):pH tr=true/\dN tr/\tr.length<=4096/\∀x∈l,jJ tr x:=by
 unfold Le.qM at h;simp only [Bool.and_eq_true] at h;obtain ⟨ok,hl⟩:=oB h.1.1;exact ⟨h.1.1,ok,hl,kN.1 h.2⟩
theorem nO (ok:dN tr) (hb: ∀x∈l,jJ tr x):yz tr (Le.mK tr (aW l)) (Le.tZ tr l):=by
 obtain ⟨d,J,I,h,he⟩:=(Le.Mj ok hb).end ok (Nat.le_refl _);unfold Le.tZ;rw [I];refine HL ok h ?_;rcases he with ⟨a,_⟩|b
 . exact .inl ⟨a,.inr a⟩
 . exact .inr b
theorem Hr (ok:dN tr) (hb: ∀x∈l,jJ tr x):(Le.tZ tr l).length<=tr.length:=by
 obtain ⟨d,O,J,h,_⟩:=(Le.Mj ok hb).end ok (Nat.le_refl _);unfold Le.tZ;rw [J];exact Le.Hz (Le.qu (l7 h.br)) fun x I=>h.br x ((iS ok h.br).1 I)
theorem xY:Le.mK tr l=Le.mK tr (aW l):=by
 refine Le.FN (Le.uU _ _) (fun x I=>Le.sN (((cC l).mem x).2 I)) ?_;rcases (Le.kK tr (aW l) 0).2.2 with e| ⟨x,I,e⟩
 . exact .inl e
 . exact .inr ⟨x,((cC l).mem x).1 I,e⟩
theorem qx.at_ (h:qx s tr rl) (b:jJ tr x): -x∈s.R .tr/\0<=lv tr x/\lv tr x<rl.length/\s.bi x=rl.getD (lv tr x).toNat 0:=by
 have h1:=h.mem _ b.lt;have I:=h.bi _ b.lt;rw [b.eq] at h1 I;rw [qd] at I;exact ⟨h1,I.1,I.2.1,I.2.2.symm⟩
theorem qx.Ot (h:qx s tr rl) (k:oQ N cs s hv un) {v:Int->Int} (m:Km N v) (I: ∀d∈cs,xM v d):zq tr v:=by
 refine ⟨fun l _=>m.neg l,m.val,fun i hi=>m.set _ ?_,fun i hi hr=> ?_⟩
 . have:=k.g.tv _ (h.mem i hi)
   rwa [k.v] at this
 . rcases h.rs i hi with e| ⟨j,h1,J⟩
   . exact absurd e hr
   . rw [J];exact k.imp j h1 v m I
theorem Bu {v:Int->Int} (ok:dN tr) (V:zq tr v) (hb: ∀x∈bk,jJ tr x) (h:xM v bk):xM v (Le.tZ tr bk):=by
 have I:=Le.Mj ok hb;have U:xM v (aW bk):=by
  obtain ⟨y,J,e⟩:=h;exact ⟨y,((cC bk).mem y).2 J,e⟩
 obtain ⟨y,J,e⟩:=wh ok V I (Nat.le_refl _) U;obtain ⟨d,X,O,Q,_⟩:=I.end ok (Nat.le_refl _);unfold Le.tZ;rw [O] at J ⊢;exact ⟨y,(iS ok Q.br).2 J,e⟩
theorem Lv (ok:dN tr) (hb: ∀x∈bk,jJ tr x) (J:0<Le.mK tr bk):Le.tZ tr bk≠[]:=by
 have I:=Le.Mj ok hb;obtain ⟨d,V,O,U,he⟩:=I.end ok (Nat.le_refl _);unfold Le.tZ;rw [O];rw [xY] at J;intro e;rcases he with ⟨a,b⟩| ⟨a,b⟩
 . rcases b with b|b
   . omega
   . rw [b] at J;simp [Le.mK] at J
 . obtain ⟨y,Q,_⟩:=od.1 (show 0<fO tr d (Le.mK tr (aW bk)) by omega);have:=(iS ok U.br).2 Q;rw [e] at this;simp at this
theorem Fy (ok:dN tr) (hb: ∀x∈bk,jJ tr x):(Le.tZ tr bk).Nodup:=by
 have I:=Le.Mj ok hb;obtain ⟨d,Q,O,J,he⟩:=I.end ok (Nat.le_refl _);unfold Le.tZ;rw [O];exact Le.qu (l7 J.br)
theorem EV {ld:List Int} (h:ld.Nodup):(shr tr ld).Nodup:=by
 cases ld with
 |nil=>exact h
 |cons y t=>exact h.sublist (List.Sublist.cons_cons _ (List.filter_sublist))
theorem LR {ld:List Int} (h:ld≠[]):shr tr ld≠[]:=by
 cases ld with
 |nil=>exact absurd rfl h
 |cons y t=>simp [shr]
theorem IM (g:aL s) (b:AQ s) (h:t7 s i) (hl:0< (s.R .be).length): ∃x∈s.R (.a i),s.bi x=(s.R .be).length:=by
 have O:(s.R .be).length - 1< (s.R .be).length:=by omega
 rcases b _ O i h.1 with ⟨y,I,J⟩| ⟨y,I,z,V,Q,_,b1,_,b2⟩
 . exact absurd (List.mem_of_mem_take J) (gL g (h.2 y I))
 . have h1: ¬s.bi y<=((s.R .be).length - 1:Nat):=fun e=>b1 ((p8 g (h.2 y I) O).2 e);have U:=(nG g (h.2 y I)).2;rw [qd] at U;exact ⟨y,I,by omega⟩
theorem y9 {rl:List Int} (h: ∀a b,a<b->b<rl.length->rl.getD a 0<rl.getD b 0) {a b:Nat} (I:a<=b) (hb:b<rl.length):rl.getD a 0<=rl.getD b 0:=by
 rcases Nat.lt_or_ge a b with e|e
 . exact Int.le_of_lt (h a b e hb)
 . rw [show a=b by omega];exact Int.le_refl _
theorem IO (h:qx s tr rl) (g:aL s) (ok:dN tr) (hb: ∀x∈bk,jJ tr x) (hl:0< (s.R .be).length) (ht: ∃x∈bk,s.bi x=(s.R .be).length):
 shr tr (Le.tZ tr bk)≠[]/\0<=Le.mK tr ((shr tr (Le.tZ tr bk)).drop 1)/\Le.mK tr ((shr tr (Le.tZ tr bk)).drop 1)<rl.length/\0<=rl.getD (Le.mK tr ((shr tr (Le.tZ tr bk)).drop 1)).toNat 0/\
  LS s (shr tr (Le.tZ tr bk)) (rl.getD (Le.mK tr ((shr tr (Le.tZ tr bk)).drop 1)).toNat 0).toNat:=by
 obtain ⟨Q,U,e0⟩:=ht;obtain ⟨_,a1,a2,a3⟩:=h.at_ (hb Q U);have hz:rl.getD 0 0=0:=h.z fun e=>by rw [e] at a2;simp at a2;omega
 have az:0<rl.length:=by omega
 have ml:=Le.sN (tr:=tr) U;have a_:0<lv tr Q:=by
  rcases Int.lt_or_le 0 (lv tr Q) with e|e
  . exact e
  . have:lv tr Q=0:=by omega
    rw [this] at a3;have:rl.getD (0:Int).toNat 0=0:=hz;omega
 obtain ⟨L,hL⟩: ∃L,L=Le.mK tr bk:=⟨_,rfl⟩
 have ad: ∃x∈bk,lv tr x=L:=by
  rcases (Le.kK tr bk 0).2.2 with e| ⟨x,hx,e⟩
  . have:Le.mK tr bk=0:=e;omega
  . exact ⟨x,hx,by rw [hL];exact e⟩
 obtain ⟨x1,aa,e1⟩:=ad;obtain ⟨c0,c1,c2,c3⟩:=h.at_ (hb x1 aa);have O:=(nG g c0).2;rw [qd] at O;have hm:=y9 h.up (a:=(lv tr Q).toNat) (b:=(lv tr x1).toNat) (by omega) (by omega);have eL:rl.getD L.toNat 0=(s.R .be).length:=by rw [<- e1];omega
 have P:=yz.shr (nO ok hb);rw [<- xY,<- hL] at P;have J:=LR (tr:=tr) (Lv ok hb (by omega));obtain ⟨l,X⟩: ∃l,l=shr tr (Le.tZ tr bk):=⟨_,rfl⟩
 rw [<- X] at P J ⊢;have Y:l.Nodup:=by rw [X];exact EV (Fy ok hb)
 cases l with
 |nil=>exact absurd rfl J
 |cons z r=>
  clear J X;show _/\0<=Le.mK tr r/\Le.mK tr r<_/\0<=rl.getD (Le.mK tr r).toNat 0/\LS s (z::r) (rl.getD (Le.mK tr r).toNat 0).toNat;have h0:=(P.bH 0 (by simp)).2 rfl;have h0:lv tr z=L:=h0;have Z: ∀y∈r,lv tr y<L:=fun y I=>by
   obtain ⟨j,hj,e⟩:=List.mem_iff_getElem.1 I;have h1:=P.bH (j+1) (by simpa using hj);have e2:(z::r).getD (j+1) 0=y:=by simp [List.getD,hj,e]
   rw [e2] at h1;have h2:=P.le y (List.mem_cons_of_mem _ I);have h3:lv tr y≠L:=fun e=>by have:=h1.1 e;omega
   omega
  have V:=Le.uU tr r;have aw:Le.mK tr r<L:=by
   rcases (Le.kK tr r 0).2.2 with e| ⟨y,I,e⟩
   . have:Le.mK tr r=0:=e;omega
   . have:=Z y I;have:Le.mK tr r=lv tr y:=e.symm;omega
  have ax:L<rl.length:=by omega
  have nn:0<=rl.getD (Le.mK tr r).toNat 0:=by
   have:=y9 h.up (a:=0) (b:=(Le.mK tr r).toNat) (by omega) (by omega);omega
  have up:=h.up (Le.mK tr r).toNat L.toNat (by omega) (by omega);refine ⟨by simp,V,by omega,nn,⟨fun x hx=> (h.at_ (P.br x hx)).1,⟨z,by simp,?_,fun y I J=> ?_⟩,by omega,?_,Y⟩⟩
  . rw [(h.at_ (P.br z (by simp))).2.2.2,h0,eL]
  . rcases List.mem_cons.1 I with e|I
    . exact absurd e J
    . have ay:=h.at_ (P.br y (List.mem_cons_of_mem _ I));have hm:=Le.sN (tr:=tr) I;have:=y9 h.up (a:=(lv tr y).toNat) (b:=(Le.mK tr r).toNat) (by omega) (by omega);omega
  . rcases (Le.kK tr r 0).2.2 with e| ⟨y,I,e⟩
    . have:Le.mK tr r=0:=e;rw [this];exact .inl (by have:rl.getD (0:Int).toNat 0=0:=hz;omega)
    . have e:lv tr y=Le.mK tr r:=e;refine .inr ⟨y,List.mem_cons_of_mem _ I,?_⟩;rw [(h.at_ (P.br y (List.mem_cons_of_mem _ I))).2.2.2,e];omega
theorem FY (h:qx s tr rl) (k:oQ N cs s hv un) (ok:dN tr) (hb: ∀x∈bk,jJ tr x) (f:AB N cs bk):AB N cs (shr tr (Le.tZ tr bk)):=by
 intro v m I;have V:=h.Ot k m I;refine A_ ok V (fun x J=> (nO ok hb).br x J) (Bu ok V hb (f v m I))
def nV (s:aH) (t:Nat):List Int:=(((s.R .tr).take t).filter fun x=>decide (s.kG x<0)).reverse.map fun x=> -x
theorem yM {t:Nat} (h:t< (s.R .tr).length):nV s (t+1)=if s.kG ((s.R .tr).getD t 0)<0 then -((s.R .tr).getD t 0)::nV s t else nV s t:=by
 have e:(s.R .tr).take (t+1)=(s.R .tr).take t++ [(s.R .tr).getD t 0]:=by
  rw [List.take_add_one,List.getElem?_eq_getElem h];simp [List.getD,h]
 unfold nV;rw [e,List.filter_append,List.reverse_append,List.map_append];by_cases hr:s.kG ((s.R .tr).getD t 0)<0
 . rw [if_pos hr,List.filter_cons_of_pos (by simpa using hr)];rfl
 . rw [if_neg hr,List.filter_cons_of_neg (by simpa using hr)];rfl
theorem uf (g:aL s) {p:Nat} (hp:p< (s.R .tr).length):s.kG ((s.R .tr).getD p 0)<0↔(p:Int)∈s.R .be:=by
 constructor
 . intro h;refine Classical.byContradiction fun hn=> ?_;obtain ⟨i,e,_⟩:=g.Kw p hp hn;omega
 . intro h;have:=g.Ly p hp h;omega
theorem Hy (g:aL s):(s.R .be).Nodup:=by
 unfold List.Nodup;rw [List.pairwise_iff_getElem];intro i j hi J I e;have:=g.bs i j I J;simp only [List.getD,List.getElem?_eq_getElem hi,List.getElem?_eq_getElem J,Option.getD_some] at this;omega
theorem Bf {be:List Int} (h:be.Nodup) (t:Nat):be.countP (fun e=>decide (e< ((t+1:Nat):Int)))=be.countP (fun e=>decide (e< (t:Int)))+if (t:Int)∈be then 1 else 0:=by
 induction be with
 |nil=>rfl
 |cons a r ih=>
  obtain ⟨h1,Q⟩:=List.nodup_cons.1 h;rw [List.countP_cons,List.countP_cons,ih Q];by_cases e:a=(t:Int)
  . subst e;rw [if_neg h1,if_pos (by simp;omega)];simp
  . have J:((t:Int)∈a::r)↔(t:Int)∈r:=⟨fun h=>by rcases List.mem_cons.1 h with h|h;exact absurd h.symm e;exact h,List.mem_cons_of_mem _⟩
    have O:decide (a< ((t+1:Nat):Int))=decide (a< (t:Int)):=decide_eq_decide.2 (by omega);rw [O];by_cases I:(t:Int)∈r
    . rw [if_pos I,if_pos (J.2 I)];omega
    . rw [if_neg I,if_neg fun h=>I (J.1 h)];omega
theorem vf (g:aL s): ∀t,t<=(s.R .tr).length->(nV s t).length=(s.R .be).countP fun e=>decide (e< (t:Int))
 |0,_=>by
  have:(s.R .be).countP (fun e=>decide (e< ((0:Nat):Int)))=0:=by
   rw [List.countP_eq_zero];intro e he;obtain ⟨j,I,rfl⟩:=List.mem_iff_getElem.1 he;have:=(g.bl j I).1;simp only [List.getD,List.getElem?_eq_getElem I,Option.getD_some] at this;simp;omega
  rw [this];simp [nV]
 |t+1,h=>by
  rw [yM (by omega),Bf (Hy g),<- vf g t (by omega)];by_cases hr:s.kG ((s.R .tr).getD t 0)<0
  . rw [if_pos hr,if_pos ((uf g (by omega)).1 hr)];rfl
  . rw [if_neg hr,if_neg fun e=>hr ((uf g (by omega)).2 e)];rfl
theorem AX (g:aL s):(nV s (s.R .tr).length).length=(s.R .be).length:=by
 rw [vf g _ (Nat.le_refl _)];rw [List.countP_eq_length];intro e he;obtain ⟨j,I,rfl⟩:=List.mem_iff_getElem.1 he;have:=(g.bl j I).2;simp only [List.getD,List.getElem?_eq_getElem I,Option.getD_some] at this;simpa using this
theorem JL (g:aL s) {k:Nat} (I:k< (s.R .be).length):s.bi ((s.R .tr).getD ((s.R .be).getD k 0).toNat 0)=(k+1:Nat):=by
 have hb:=g.bl k I;rw [g.lv _ (by omega)];have h1:=sF g (p:=((s.R .be).getD k 0).toNat) I;have U:=List.countP_le_length (p:=fun e=>decide (e<=(((s.R .be).getD k 0).toNat:Int))) (l:=s.R .be);have O:=h1.2 (by omega);rcases Nat.lt_or_ge (k+1) (s.R .be).length with e|e
 . have J:=sF g (p:=((s.R .be).getD k 0).toNat) e;have h5:=g.bs k (k+1) (by omega) e;have Q: ¬k+1<_:=fun h=>by have:=J.1 h;omega
   omega
 . omega
theorem nr (g:aL s):x∈nV s (s.R .tr).length↔∃k,k< (s.R .be).length/\ -x=(s.R .tr).getD ((s.R .be).getD k 0).toNat 0:=by
 unfold nV;rw [List.take_length,List.mem_map];constructor
 . rintro ⟨y,J,rfl⟩;rw [List.mem_reverse,List.mem_filter] at J;obtain ⟨p,hp,e⟩:=xU J.1;have h1:s.kG y<0:=by simpa using J.2
   rw [<- e] at h1;obtain ⟨k,I,O⟩:=List.mem_iff_getElem.1 ((uf g hp).1 h1);refine ⟨k,I,?_⟩;have Q:(s.R .be).getD k 0=(p:Int):=by simp [List.getD,I,O]
   rw [Q,Int.toNat_natCast,e,Int.neg_neg]
 . rintro ⟨k,I,e⟩;have hb:=g.bl k I;refine ⟨-x,List.mem_reverse.2 (List.mem_filter.2 ⟨?_,?_⟩),Int.neg_neg x⟩
   . rw [e];exact bg (by omega)
   . rw [e];have:=(uf g (p:=((s.R .be).getD k 0).toNat) (by omega)).2 (by
      rw [Int.toNat_of_nonneg hb.1];exact bg I)
     simpa using this
theorem Lx (g:aL s) (hl:0< (s.R .be).length):LS s (nV s (s.R .tr).length) ((s.R .be).length - 1):=by
 have bi: ∀ {y:Int} {k:Nat},k< (s.R .be).length-> -y=(s.R .tr).getD ((s.R .be).getD k 0).toNat 0->s.bi y=(k+1:Nat):=fun {y k} I e=>by
  rw [<- qd,e];exact JL g I
 refine ⟨fun x U=> ?_,?_,by omega,?_,?_⟩
 . obtain ⟨k,I,e⟩:=(nr g).1 U;have hb:=g.bl k I;rw [e];exact bg (by omega)
 . have I:(s.R .be).length - 1< (s.R .be).length:=by omega
   refine ⟨-((s.R .tr).getD ((s.R .be).getD ((s.R .be).length - 1) 0).toNat 0),(nr g).2 ⟨_,I,Int.neg_neg _⟩,?_,fun y Q O=> ?_⟩
   . rw [bi I (Int.neg_neg _)];omega
   . obtain ⟨k,J,e⟩:=(nr g).1 Q;rw [bi J e];have:k≠(s.R .be).length - 1:=fun V=>O (by rw [<- V,<- e,Int.neg_neg]);omega
 . rcases Nat.eq_zero_or_pos ((s.R .be).length - 1) with e|e
   . exact .inl e
   . have I:(s.R .be).length - 2< (s.R .be).length:=by omega
     refine .inr ⟨-((s.R .tr).getD ((s.R .be).getD ((s.R .be).length - 2) 0).toNat 0),(nr g).2 ⟨_,I,Int.neg_neg _⟩,?_⟩;rw [bi I (Int.neg_neg _)];omega
 . unfold nV;rw [List.take_length];have h1:(s.R .tr).Nodup:=by
    have:=g.nd;unfold List.Nodup at this ⊢;rw [List.pairwise_map] at this;exact this.imp fun {a b} h e=>h (by rw [e])
   have X:((s.R .tr).filter fun x=>decide (s.kG x<0)).reverse.Pairwise fun a b=>a≠b:=List.pairwise_reverse.2 (List.Pairwise.imp (fun h=>Ne.symm h) (List.Pairwise.filter _ h1));unfold List.Nodup;rw [List.pairwise_map];exact X.imp fun {a b} h e=>h (by omega)
theorem JV (k:oQ N cs s hv un) (V:t7 s i):AB N cs (nV s (s.R .tr).length):=by
 intro v m Q;refine Classical.byContradiction fun hn=> ?_;have hd: ∀x∈s.uc,v x=1:=fun x U=>by
  refine Classical.byContradiction fun h1=>hn ?_;have J:=k.g.JA x U;have hi:=k.g.tv x J;rw [k.v] at hi;have h2:=m.set x hi;have h3:=m.val x;refine ⟨-x,(nr k.g).2 ?_,by rw [m.neg];omega⟩;obtain ⟨e,he,Z⟩:=List.mem_map.1 U;obtain ⟨j,X,e3⟩:=List.mem_iff_getElem.1 he;refine ⟨j,X,?_⟩;have e4:(s.R .be).getD j 0=e:=by simp [List.getD,X,e3]
  rw [e4,Z,Int.neg_neg]
 have key: ∀x∈s.R .tr,v x=1:=k.g.sE hd fun c O l hl Y _=>by
  obtain ⟨i,hi,rfl⟩:=O;obtain ⟨y,I,hv⟩:=k.imp i hi v m Q;by_cases e:y=l
  . rw [<- e];exact hv
  . have:=Y y I e;rw [m.neg,hv] at this;omega
 obtain ⟨y,I,hv⟩:=k.imp i V.1 v m Q;have:=key _ (V.2 y I);rw [m.neg,hv] at this;omega
end
section
variable {s t s':aH} {l c d bk T:List Int} {x y:Int} {i j N:Nat} {cs ds:List (List Int)} {hv:List (Nat × List Int)} {un:List (List Int)} {tr:List As} {rl:List Int}
def Bp (s:aH) (l:List Int):Prop:= ∀ds:List (List Int),(∀x,x∈ds.map aW↔∃i,s.aN i/\aW (s.R (.a i))=x)->uB ds l
noncomputable def vT (T tr:List Int) (x:Int):Int:=if x∈T then 1 else if -x∈T then -1 else if x∈tr then -1 else if -x∈tr then 1 else if 0<x then 1 else if x<0 then -1 else 0
theorem LB (g:aL s) (hv:s.vars=N) (I:KD T):Km N (vT T (s.R .tr)):=by
 have J:(0:Int) ∉ s.R .tr:=fun h=> (g.tv _ h).1 rfl;have h1:(0:Int) ∉ T:=fun h=>I 0 h (by simpa using h);refine ⟨fun l=> ?_,fun l=> ?_,fun l hl=> ?_⟩
 . unfold vT;rw [Int.neg_neg];by_cases a:l∈T
   . rw [if_neg (I l a),if_pos a,if_pos a]
   . by_cases b: -l∈T
     . rw [if_pos b,if_neg a,if_pos b];rfl
     . rw [if_neg b,if_neg a,if_neg a,if_neg b];by_cases c:l∈s.R .tr
       . rw [if_neg (gL g (x:= -l) (by rw [Int.neg_neg];exact c)),if_pos c,if_pos c];rfl
       . by_cases d: -l∈s.R .tr
         . rw [if_pos d,if_neg c,if_pos d]
         . rw [if_neg d,if_neg c,if_neg c,if_neg d];by_cases e:0<l
           . rw [if_neg (by omega),if_pos (by omega),if_pos e]
           . by_cases f:l<0
             . rw [if_pos (by omega),if_neg e,if_pos f];rfl
             . rw [if_neg (by omega),if_neg (by omega),if_neg e,if_neg f];rfl
 . unfold vT;repeat' split
   all_goals omega
 . unfold vT;have:=hl.1;repeat' split
   all_goals omega
theorem Ee (g:aL s) (Y: ∀x∈c,x≠0) (hb:bS c T=false) (hu:b9 c T=0) (a:Int) (ha: ∀x∈c,x≠a-> -x∈s.R .tr):xM (vT T (s.R .tr)) c:=by
 by_cases h1: ∃x∈c,x∈T
 . obtain ⟨x,I,U⟩:=h1;exact ⟨x,I,by unfold vT;rw [if_pos U]⟩
 have hn: ∀x∈c,x ∉ T:=fun x I e=>h1 ⟨x,I,e⟩;by_cases Z: ∃x∈c,x≠a/\ -x ∉ T
 . obtain ⟨x,I,J,U⟩:=Z;have X:=ha x I J;exact ⟨x,I,by unfold vT;rw [if_neg (hn x I),if_neg U,if_neg (gL g X),if_pos X]⟩
 exfalso;have hf: ∀x∈c,x≠a-> -x∈T:=fun x I J=>Classical.byContradiction fun e=>Z ⟨x,I,J,e⟩;have Q: ∃x∈c,-x ∉ T:=Classical.byContradiction fun e=>by
  rw [<- Bool.not_eq_true,cw] at hb;exact hb fun x I=>Classical.byContradiction fun e2=>e ⟨x,I,e2⟩
 obtain ⟨x,I,O⟩:=Q;have e:x=a:=Classical.byContradiction fun J=>O (hf x I J);subst e;have:=ly (t:=T) (l:=x) (Y x I) O c 0 (fun y V=> ⟨hn y V,by
  by_cases e:y=x
  . exact .inl e
  . exact .inr (hf y V e)⟩) (.inr ⟨rfl,I⟩)
 have hu:iQ T c 0=0:=hu;rw [this] at hu;exact Y x I hu
theorem yo (h:aW c=aW d) (x:Int):x∈c↔x∈d:=by rw [<- (cC c).mem,<- (cC d).mem,h]
theorem G1 (Q: ∀x∈c,x≠0) (U:KD T) (h: ∀x,x∈c↔x∈d) (e:bS c T=false/\b9 c T=0):bS d T=false/\b9 d T=0:=by
 obtain ⟨O,I⟩:=e;refine ⟨?_,Classical.byContradiction fun hn=> ?_⟩
 . rw [<- Bool.not_eq_true,cw] at O ⊢;exact fun hb=>O fun x V=>hb x ((h x).1 V)
 . obtain ⟨a1,a2,a3,a4⟩:=lA (fun y J=>Q y ((h y).2 J)) hn;have:=ly (t:=T) (Q _ ((h _).2 a1)) a3 c 0 (fun y J=>by
    rcases a4 y ((h y).1 J) with e|e
    . exact ⟨by rw [e];exact a2,.inl e⟩
    . exact ⟨fun I=>U _ e (by rw [Int.neg_neg];exact I),.inr e⟩) (.inr ⟨rfl,(h _).2 a1⟩)
   have I:iQ T c 0=0:=I;rw [this] at I;exact hn I
theorem BY (g:aL s) (h: ∀T,KD T->(∀c,s.CJ c->bS c T=false/\b9 c T=0)->(∀x∈l,-x∈T)->False):Bp s l:=by
 intro ds Y;have U: ∀c∈ds,∃i,s.aN i/\∀x,x∈c↔x∈s.R (.a i):=fun c J=>by
  obtain ⟨i,hi,e⟩:=(Y _).1 (List.mem_map_of_mem J);exact ⟨i,hi,yo e.symm⟩
 have V:NZ ds:=fun x Q y Z=>by
  obtain ⟨i,hi,e⟩:=U x Q;exact (g.LM ⟨i,hi,rfl⟩ y ((e y).1 Z)).1
 by_cases ht:mL l=true
 . exact .inl ht
 obtain ⟨T,X,O⟩:=zF (cs:=ds) (d:=nY l) V _ _ (Nat.le_refl _) .refl;rcases O with O|hE
 . exact .inr ⟨T,X,O⟩
 . have I:=zh V (wC (by simpa using ht)) X;refine (h T I (fun c J=> ?_) (fun x Q=>zi X _ (px.2 (by rw [Int.neg_neg];exact Q)))).elim;obtain ⟨i,hi,rfl⟩:=J;obtain ⟨c,J,e⟩:=List.mem_map.1 ((Y _).2 ⟨i,hi,rfl⟩);exact G1 (V c J) I (yo e) (hE c J)
theorem FH (h:qx s tr rl) (g:aL s) (hv:s.vars=N) (hB:t7 s i) (ok:dN tr) (hb: ∀x∈s.R (.a i),jJ tr x):Bp s (shr tr (Le.tZ tr (s.R (.a i)))):=by
 refine BY g fun T Z hE hl=> ?_;have m:=LB g hv Z;have V:zq tr (vT T (s.R .tr)):=by
  refine ⟨fun l _=>m.neg l,m.val,fun k O=>m.set _ ?_,fun k O hr=> ?_⟩
  . have:=g.tv _ (h.mem k O)
    rwa [hv] at this
  . rcases h.rs k O with e| ⟨j,h1,h2⟩
    . exact absurd e hr
    . have hd: ¬ic tr k< (aS tr k).bi:=fun e=>hr (ok.uc k O e);obtain ⟨_,_,r3⟩:=ok.kG k O hd;rw [h2] at r3 ⊢;have I:s.CJ (s.R (.a j)):=⟨j,h1,rfl⟩
      obtain ⟨U,Q⟩:=hE _ I;exact Ee g (fun x J=> (g.LM I x J).1) U Q _ fun x J Y=> (h.at_ (r3 x J Y).1).1
 have I:s.CJ (s.R (.a i)):=⟨i,hB.1,rfl⟩
 obtain ⟨U,Q⟩:=hE _ I;have X:xM (vT T (s.R .tr)) (s.R (.a i)):=Ee g (fun x J=> (g.LM I x J).1) U Q 0 fun x J _=>hB.2 x J;obtain ⟨y,hy,e⟩:=A_ ok V (fun x J=> (nO ok hb).br x J) (Bu ok V hb X);have h1:=hl y hy;unfold vT at e;rw [if_neg (fun e=>Z y e h1),if_pos h1] at e;exact absurd e (by decide)
theorem JX (g:aL s) (O:t7 s i):Bp s (nV s (s.R .tr).length):=by
 refine BY g fun T U J hl=> ?_;have X: ∀x∈s.uc,x∈T:=fun x I=>by
  have:=hl (-x) ((nr g).2 (by
   obtain ⟨e,he,V⟩:=List.mem_map.1 I;obtain ⟨j,Q,Y⟩:=List.mem_iff_getElem.1 he;refine ⟨j,Q,?_⟩;have Z:(s.R .be).getD j 0=e:=by simp [List.getD,Q,Y]
   rw [Z,Int.neg_neg];exact V.symm))
  rwa [Int.neg_neg] at this
 have hs:=g.sH X U J;have:=(J _ ⟨i,O.1,rfl⟩).1;rw [<- Bool.not_eq_true,cw] at this;exact this fun x I=>hs _ (O.2 x I)
theorem JW (g:aL s) (O:t7 s i) (U:s.R .be= []):Bp s []:=by
 refine BY g fun T Q J _=> ?_;have hs:=g.sH (fun x I=>by unfold aH.uc at I;rw [U] at I;simp at I) Q J;have:=(J _ ⟨i,O.1,rfl⟩).1;rw [<- Bool.not_eq_true,cw] at this;exact this fun x I=>hs _ (O.2 x I)
end
section
variable {w0 w w' w1 w2:World} {B N i:Nat} {L L':Nat->Nat} {x:Xs} {l:List Int} {cs:List (List Int)} {hv:List (Nat × List Int)} {un:List (List Int)}
theorem Iy {T:TypeId} {q:Option Addr} {d:Nat} (h:da T w q d l):l.length<=d:=by
 rcases h.un with ⟨_,J,I⟩| ⟨g,cur,_,_,I,_⟩
 . rw [I];exact Nat.zero_le _
 . exact I
theorem Ju (h:SR w0 w B L N x) (g:aL x.s) (hN:x.s.vars<=1000):
 Calls prog cQ.id #[bL B] w fun e w'=> ∃ (p:Option Addr) (c:Nat),e= .returned (.tuple #[.slice p (nV x.s (x.s.R .tr).length).length c,.int .i64 (((x.s.R .be).length:Int) - 1),.int .i64 (x.s.R .be).length])/\
  da aC w' p c (nV x.s (x.s.R .tr).length)/\(∀b,aJ p=some b->w.heap.size<=b)/\ao w w':=by
 refine cQ.ak ?_;obtain ⟨H,pm,_⟩:=h.pm id;have ar:=g.yL;have ad:=g.Kq;refine ⟨_,rfl,_,ae h.at rfl,(uz pm (by omega)).mono ?_⟩;rintro e w3 ⟨qb,db,rfl,ob,Y,fb⟩;have s3:=Y.size;refine ⟨_,_,_,rfl,fun p n c I u z=> ∃t:Nat,I=t/\t<=(x.s.R .tr).length/\z=(x.s.R .tr).length - t/\n=(nV x.s t).length/\da aC u p c (nV x.s t)/\(∀b,aJ p=some b->w3.heap.size<=b)/\ao w3 u,
  ⟨_,0,rfl,Nat.zero_le _,rfl,by simp [nV],by simp [nV];exact Ow.nil _ _ _,fun b hb=>by simp [aJ] at hb,aF.refl _⟩,?_⟩
 rintro p n c I u z _ ⟨t,rfl,ht,rfl,rfl,o,fr,G⟩;refine aj (fun r=> ?_) (fun r=> ?_)
 . have r:t< (x.s.R .tr).length:=by simp at r;omega
   refine (ob.grow G).ix 0 (by omega) rfl (by omega) fun a ha=> ⟨_,ha,?_⟩
   rw [Int.toNat_natCast];have Q:(x.s.R .tr).getD t 0∈x.s.R .tr:=bg r;have S:=h.grow (Y.trans G);have X:=g.tv _ Q;have aw:=X.bd g.dS;refine ⟨_,rfl,_,ae S.at rfl,(S.dY g _).mono ?_⟩;rintro e ag ⟨rfl,O⟩;refine ⟨_,rfl,?_⟩;rw [xB g Q];have V:=yM (s:=x.s) r;have hlen:=vf g t (by omega);have az:=List.countP_le_length (p:=fun e:Int=>decide (e< (t:Int))) (l:=x.s.R .be);refine aj (fun U=>fun Z aa J=> ?_) (fun U=> ?_)
   . have U:x.s.kG ((x.s.R .tr).getD t 0)<0:=by simpa using U
     rw [if_pos U] at V;have a6:=J.num;have ax:=O.size;have sG:=G.size;have ew:IntKind.i64.wrap (0 - (x.s.R .tr).getD t 0)= -((x.s.R .tr).getD t 0):=by rw [aD (by omega) (by omega)];omega
     rw [ew] at J;have o1:da aC aa (some ⟨Z,0,none⟩) 1 [-((x.s.R .tr).getD t 0)]:=Ow.dx J.at (Nat.le_refl _) (by decide) rfl rfl;refine o1.ME c4 ((o.grow O).grow J.mod) rfl rfl eV (by simp;omega) fun an p' c' o' m' ac ap=> ?_;refine ⟨_,?_,t+1,wN (by omega) (by omega),by omega,rfl,by rw [V];rfl,by rw [V];exact o',fun b hb=> ?_,((G.trans O).trans J.mod).then m' fun b hb e=> ?_⟩
     . omega
     . rcases ac with rfl|rfl
       . have:=aO hb;omega
       . have:=aO hb;have:=J.size;omega
     . have:=aO e;omega
   . have U: ¬x.s.kG ((x.s.R .tr).getD t 0)<0:=by simpa using U
     rw [if_neg U] at V;exact ⟨_,by omega,t+1,wN (by omega) (by omega),by omega,rfl,by rw [V],by rw [V];exact o.grow O,fr,G.trans O⟩
 . have r:t=(x.s.R .tr).length:=by simp at r;omega
   subst r;have hlen:=AX g;rw [hlen,aD (by omega) (by omega)];exact ⟨p,c,rfl,o,fun b hb=>by have:=fr b hb;omega,Y.trans G⟩
theorem Ip (h:SR w0 w B L N x) (k:oQ N cs x.s hv un) (hN:N<=1000) (U:t7 x.s i) (hl:0< (x.s.R .be).length) {p:Option Addr} {n c:Nat} (vb:Vw (Value.int .i64) w p (x.s.R (.a i))) (hn:n=(x.s.R (.a i)).length):
 Calls prog eO.id #[bL B,.slice p n c] w fun e w'=> ∃ (q:Option Addr) (d:Nat) (l:List Int) (bl:Nat) (lv:Int),e= .returned (.tuple #[.slice q l.length d,.int .i64 bl,.int .i64 lv])/\da aC w' q d l/\(∀b,aJ q=some b->w.heap.size<=b)/\ao w w'/\
  LS x.s l bl/\AB N cs l/\Bp x.s l/\0<=lv/\lv<=l.length:=by
 refine eO.ak ?_;have g:=k.g;have ax:=k.v;have ad:=g.al i;have a7:=g.yL;refine (Jj h g k.v hN vb hn ad fun y hy=>by rw [<- k.v];exact g.cv i U.1 y ((g.ca i U.1 y).2 hy)).mono ?_;rintro e w1 ⟨tp,tc,rp,rc,tr,rl,rfl,C,tv,vr,g1,a_⟩;have s1:=g1.size;refine ⟨_,_,_,_,_,_,rfl,?_⟩;refine (Le.Eh tv rfl (vb.grow g1) hn (by unfold maxLen;omega)).mono ?_;rintro e w4 ⟨q2,d2,o,ho,rfl,O,Z⟩;have s4:=Z.size;refine ⟨_,_,_,_,rfl,?_⟩;have ht:=IM g k.FD U hl;cases hm:Le.qM tr (x.s.R (.a i)) with
 |false=>
  refine cu rfl ((Ju (h.grow (g1.trans Z)) g (by omega)).mono ?_);rintro e w7 ⟨p7,c7,rfl,o7,f7,g7⟩;have hlen:=AX g;refine ⟨_,_,_,_,_,rfl,p7,c7,_,(x.s.R .be).length - 1,(x.s.R .be).length,?_,o7,fun b hb=>by have:=f7 b hb;omega,(g1.trans Z).trans g7,Lx g hl,JV k U,JX g U,by omega,by omega⟩;rw [show (((x.s.R .be).length - 1:Nat):Int)=((x.s.R .be).length:Int) - 1 by omega]
 |true=>
  rw [hm] at ho;simp only [if_true] at ho;subst ho;obtain ⟨m1,ok,m2,m3⟩:=H0 hm;have bY:=Hr ok m3;have P:=nO ok m3;refine bm rfl ((Le.tQ (tv.grow Z) rfl m1 O.vw rfl (by omega) P.br).mono ?_);rintro e a' ⟨q3,d3,rfl,O3,X,f11⟩;have b3:=X.size;have ag:=Iz tr (Le.tZ tr (x.s.R (.a i)));have V:=P.shr.br;have L1:=IO C g ok m3 hl ht;have F1:=FY C k ok m3 (k.imp i U.1);have R1:=FH C g k.v U ok m3;obtain ⟨l,el⟩: ∃l,l=shr tr (Le.tZ tr (x.s.R (.a i))):=⟨_,rfl⟩
  rw [<- el] at O3 ag V L1 F1 R1 ⊢;obtain ⟨L2,L3,L4,L5,L6⟩:=L1;refine ⟨_,_,_,rfl,(Le.zV (tv.grow (Z.trans X)) rfl m1 O3.vw rfl (by omega) (Iy O3) V).mono ?_⟩;rintro e I ⟨rfl,Y⟩;have an:l.isEmpty=false:=by cases l with
   |nil=>exact absurd rfl L2
   |cons _ _=>rfl
  rw [an];refine ⟨_,rfl,bm (by simpa using L3) ⟨ao I.drew,aF.refl _,?_⟩⟩;have Q:=(Z.trans X).trans Y;refine (vr.grow (Q.trans (aF.refl I).drew)).ix 0 L3 rfl L4 fun a ha=> ⟨_,fun u gu=>dZ gu ha id,?_⟩
  refine (Le.wv (tv.grow (Q.trans (aF.refl I).drew)) rfl m1 ((O3.grow Y).grow (aF.refl I).drew).vw rfl (by omega) V).mono ?_;rintro e bv ⟨v,rfl,⟨v0,v1⟩,J⟩;refine ⟨_,rfl,J,q3,d3,l,_,v,?_,((O3.grow Y).grow (aF.refl I).drew).grow J,fun b hb=>by have:=f11 b hb;omega,((g1.trans Q).trans (aF.refl I).drew).trans J,L6,F1,R1,v0,v1⟩;rw [Int.toNat_of_nonneg L5]
end
section
variable {w0 w w' w1 w2:World} {B N i:Nat} {L L':Nat->Nat} {x:Xs} {l:List Int} {cs:List (List Int)} {hv:List (Nat × List Int)} {un:List (List Int)}
theorem uK:q6 prog rI bX 5 56=true:=by kernel_rfl
theorem FG:mB prog cq aI 24=true:=by kernel_rfl
theorem Kf {u:Hc} {b:Nat} (h:bA w b #[.int .i64 u.i,u.sl.v,.int .i64 u.lv,.int .i64 u.sz,.bool u.lk]):Vr 5 EA w (some ⟨b,0,none⟩) [u]:=by
 intro j I;have:j=0:=by simpa using I
 subst this;exact ⟨_,rfl,ae h rfl,ae h rfl,ae h rfl,ae h rfl,ae h rfl,trivial⟩
theorem LJ {n:Nat} (hn:n<=4096) (h: ∀y∈l,dB n y) (hl:l.length<=4096):uQ n l=true:=by
 unfold uQ iy;simp only [Bool.and_eq_true,List.all_eq_true,decide_eq_true_eq];exact ⟨⟨fun y I=>p6 (by omega) (h y I),hl⟩,fun y I=> (ir (by omega)).2 (h y I)⟩
theorem SR.N7 (h:SR w0 w B L N x) (g:aL x.s) (V:x.s.nc<262144) (I:uQ x.s.vars l=true) {p:Option Addr} {n c:Nat} (Q:Vw (Value.int .i64) w p l) (hn:n=l.length) (U:n<=maxLen):
 Calls prog gK.id #[bL x.pb,.slice p n c] w fun e w'=>e= .returned (.tuple #[.int .i64 x.s.nc,.int .i64 0])/\∃L' s',SR w0 w' B L' N {x with s:=s'}/\Kp w0 w w' L L'/\aL s'/\kI x.s l s':=by
 obtain ⟨H,pm,hl⟩:=h.pm id;refine (qH pm g Q hn U).mono ?_;rintro e w' ⟨Z,Y,rfl,s',X,p,J,O⟩;rcases O with ⟨_,_,e,_⟩| ⟨_,_,_,e,_⟩| ⟨rfl,rfl,_,_,a⟩
 . rw [I] at e;exact absurd e (by decide)
 . omega
 . have:=h.sU hl pm.lt p;exact ⟨rfl,_,s',this.1,this.2,J,a⟩
def Xs.lrn (x:Xs) (s':aH) (sl:Sl) (l:List Int) (lv:Int) (hs us:Sl):Xs:=
 if 1<l.length then {x with s:=s',hs:=hs,hv:=x.hv++ [⟨x.s.nc,sl,l,lv,l.length,false⟩]} else {x with s:=s',us:=us,un:=x.un++ [(sl,l)]}
theorem IC (h:SR w0 w B L N x) (g:aL x.s) (a7:x.s.nc<262144) (az:uQ x.s.vars l=true) {p:Option Addr} {n c:Nat} (ro:RO w L ⟨p,n,c⟩ l) (hx:l.length<=4096) (lv:Int) (a':x.hv.length<=1000000) (a_:x.un.length<=1000000):
 Calls prog gi.id #[bL B,.slice p n c,.int .i64 lv] w fun e w'=>e= .returned (.tuple #[])/\∃L' s' hs us,SR w0 w' B L' N (x.lrn s' ⟨p,n,c⟩ l lv hs us)/\Kp w0 w w' L L'/\aL s'/\kI x.s l s':=by
 have hn:n=l.length:=ro.n;refine gi.ak ⟨_,rfl,_,ae h.at rfl,(h.N7 g a7 az ro.v hn (by unfold maxLen;omega)).mono ?_⟩;rintro e w3 ⟨rfl,Z,s',S3,k3,g',ha⟩;have ad:RO w3 Z ⟨p,n,c⟩ l:=k3.ro ro;refine ⟨_,_,rfl,bm rfl (aj (fun r=> ?_) (fun r=> ?_))⟩
 . have r:1<l.length:=by simp at r;omega
   refine ⟨_,rfl,_,_,_,ae S3.at rfl,fun ac Q I=> ?_⟩;have J:=S3.grow I.mod;obtain ⟨r1,r2,r3⟩:=J.hv id;have k4:Kp w0 w3 Q Z Z:=jY.grow I.mod;have X:=k4.ro ad;have hb:bA Q ac #[.int .i64 (x.s.nc:Int),(⟨p,n,c⟩:Sl).v,.int .i64 lv,.int .i64 (l.length:Int),.bool false]:=by have:=I.has;rw [hn] at this;rw [hn];exact this
   refine Row.mN xF uK r1 (Kf (u:=⟨x.s.nc,⟨p,n,c⟩,l,lv,l.length,false⟩) hb) r2 rfl (by simp;omega) fun w8 p' c' o8 m8 O aw=> ⟨_,rfl,?_⟩
   have Y:bA w8 B _:=J.at.keep m8 fun e=>by have:=(r3 B e).1;rw [J.ml.1] at this;exact absurd this (by decide)
   refine bO Y rfl rfl fun ax U V=> ?_;have:=J.HV (q:=⟨p',(x.hv++ [(⟨x.s.nc,⟨p,n,c⟩,l,lv,l.length,false⟩:Hc)]).length,c'⟩) (hv':=x.hv++ [(⟨x.s.nc,⟨p,n,c⟩,l,lv,l.length,false⟩:Hc)]) m8 o8 rfl (A0 O (Nat.le_refl _)) (fun u hu=>by
    rcases List.mem_append.1 hu with hu|hu
    . exact J.hr id u hu
    . rw [List.mem_singleton] at hu;subst hu;exact X) U V (J.Np (by decide) r3 O (Nat.le_refl _))
   refine ⟨rfl,_,s',⟨p',(x.hv++ [(⟨x.s.nc,⟨p,n,c⟩,l,lv,l.length,false⟩:Hc)]).length,c'⟩,x.us,?_,(k3.trans k4).trans this.2,g',ha⟩;unfold Xs.lrn;rw [if_pos r];exact this.1
 . have r: ¬1<l.length:=by simp at r;omega
   refine ⟨_,rfl,_,_,_,ae S3.at rfl,fun ac Q I=> ?_⟩;have J:=S3.grow I.mod;obtain ⟨r1,r2,r3⟩:=J.un id;have k4:Kp w0 w3 Q Z Z:=jY.grow I.mod;have X:=k4.ro ad;refine r1.mF FG (⟨p,n,c⟩:Sl) I.has rfl (by rw [List.length_map];exact r2) (fun _=>rfl) (by simp;omega) fun w8 p' c' o8 m8 O aw=> ⟨_,rfl,?_⟩
   have Y:bA w8 B _:=J.at.keep m8 fun e=>by have:=(r3 B e).1;rw [J.ml.1] at this;exact absurd this (by decide)
   refine bO Y rfl rfl fun ax U V=> ?_;have:=J.Gd (q:=⟨p',(x.un.map (·.1)).length+1,c'⟩) (un':=x.un++ [((⟨p,n,c⟩:Sl),l)]) m8 (by rw [List.map_append];exact o8) (by simp) (A0 O (Nat.le_refl _)) (fun u hu=>by
    rcases List.mem_append.1 hu with hu|hu
    . exact J.ur id u hu
    . rw [List.mem_singleton] at hu;subst hu;exact X) U V (J.Np (by decide) r3 O (Nat.le_refl _))
   refine ⟨rfl,_,s',x.hs,⟨p',(x.un.map (·.1)).length+1,c'⟩,?_,(k3.trans k4).trans this.2,g',ha⟩;unfold Xs.lrn;rw [if_neg r];exact this.1
end
section
variable {w0 w w' w1 w2:World} {B N i:Nat} {L L':Nat->Nat} {x:Xs} {l:List Int} {cs:List (List Int)} {hv:List (Nat × List Int)} {un:List (List Int)}
theorem Lh (a b c:Value):(#[]++ #[a]++ #[b,c]:Array Value)= #[a,b,c]:=by simp
theorem CS (h:SR w0 w B L N x) (g:aL x.s) {V U:Nat} (h1:bA w V #[bL B]) {u:Hc} (X:bA w U #[.int .i64 u.i,u.sl.v,.int .i64 u.lv,.int .i64 u.sz,.bool u.lk]) (l:Int):
 Calls prog c6.id #[.int .i64 l,.pointer (some ⟨V,0,none⟩),.pointer (some ⟨U,0,none⟩)] w fun e w'=>e= .returned (.bool (decide (x.s.value l>0) && (x.s.dY l==u.i)))/\ao w w':=by
 refine c6.ak ?_;have Q:ao w w.drew:=(aF.refl w).drew;have D:=h.drew;have d1:=h1.grow Q;have d3:=X.grow Q;refine ⟨ao w.drew,aF.refl _,_,fun u I=>aQ (d1.grow I) rfl,_,rfl,_,fun u I=>ae (D.at.grow I) rfl,(D.value g l).mono ?_⟩;rintro e Z ⟨rfl,O⟩;refine ⟨_,rfl,O,aj (fun r=> ?_) (fun r=> ?_)⟩
 . refine ⟨_,fun u I=>aQ (d1.grow I) rfl,_,rfl,_,fun u I=>ae (D.at.grow I) rfl,((D.grow O).dY g l).mono ?_⟩;rintro e Y ⟨rfl,J⟩;refine ⟨_,rfl,O.trans J,_,fun u I=>ae (d3.grow I) rfl,?_,(Q.trans O).trans J⟩;rw [r];rfl
 . refine ⟨?_,Q.trans O⟩;rw [r];rfl
theorem Bl:fX prog 200=true:=by kernel_rfl
theorem Fj (h:SR w0 w B L N x) (g:aL x.s) {u:Hc} (ro:RO w L u.sl u.c) (Z:u.c.length<=4096):
 Calls prog dM.id #[bL B,.agg #[.int .i64 u.i,.slice u.sl.p u.sl.n u.sl.c,.int .i64 u.lv,.int .i64 u.sz,.bool u.lk]] w fun e w'=> ∃r:Bool,e= .returned (.bool r)/\ao w w':=by
 refine dM.ak ?_;intro n1 w2 O Y U I;have G:=O.mod.trans I.mod;refine ⟨_,_,_,ae I.has rfl,?_⟩;have hn:=ro.n;refine (iT (ro.v.grow G) hn (by unfold maxLen;omega) Bl (fun l=>decide (x.s.value l>0) && (x.s.dY l==u.i)) fun y _ X J=> ?_).mono ?_
 . rw [Lh];exact CS (h.grow (G.trans J)) g ((O.has.grow I.mod).grow J) (I.has.grow J) y
 . rintro e V ⟨rfl,Q⟩;exact ⟨_,rfl,_,rfl,G.trans Q⟩
theorem SR.NW (h:SR w0 w B L N x) (m:aF (fun k=>L k=0/\w0.heap.size<=k) w w') (hl: ∀k,k<w.heap.size->L' k=L k):SR w0 w' B L' N x/\jY (fun i=>i=0) w0 w w' L L':=by
 have b:=h.Ky (E':=fun j=>j=0) ⟨m,hl⟩;exact ⟨⟨b.g,fun _=>b.me (by simp),b.ml,fun _=>b.pm (by simp),fun _=>b.hp (by simp),fun _=>b.ph (by simp),fun _=>b.hv (by simp),fun _=>b.hr (by simp),fun _=>b.un (by simp),fun _=>b.ur (by simp),fun _=>b.pr (by simp),fun _=>b.rr (by simp),fun _=>b.mo (by simp)⟩,⟨m,hl⟩⟩
theorem RO.vH {s:Sl} {c:List Int} (h:RO w L s c) (hl: ∀k,L k≠0->L' k=L k):RO w L' s c:=
 ⟨h.n,h.v,fun k I=> ⟨by rw [hl k (by rw [(h.l k I).1];decide)];exact (h.l k I).1,(h.l k I).2⟩⟩
theorem SR.vH (h:SR w0 w B L N x) (hl: ∀k,L k≠0->L' k=L k):SR w0 w B L' N x:=by
 have key: ∀ {i k:Nat},i≠0->L k=i/\w0.heap.size<=k->L' k=i/\w0.heap.size<=k:=fun hi I=> ⟨by rw [hl _ (by rw [I.1];exact hi)];exact I.1,I.2⟩
 refine ⟨h.g,h.me,⟨by rw [hl B (by rw [h.ml.1];decide)];exact h.ml.1,h.ml.2⟩,fun e=> ?_,fun e=> ?_,fun e=> ?_,fun e=> ?_,fun e u hu=> (h.hr e u hu).vH hl,fun e=> ?_,fun e u hu=> (h.ur e u hu).vH hl,fun e=> ?_,fun e u hu=> (h.rr e u hu).vH hl,fun e=> ?_⟩
 . obtain ⟨H,a,b⟩:=h.pm e;exact ⟨H,a,fun y k I=>key (by decide) (b y k I)⟩
 . obtain ⟨z,a,b,c,d⟩:=h.hp e;exact ⟨z,a,b,c,fun k I=>key (by decide) (d k I)⟩
 . obtain ⟨a,b,c⟩:=h.ph e;exact ⟨a,b,fun k I=>key (by decide) (c k I)⟩
 . obtain ⟨a,b,c⟩:=h.hv e;exact ⟨a,b,fun k I=>key (by decide) (c k I)⟩
 . obtain ⟨a,b,c⟩:=h.un e;exact ⟨a,b,fun k I=>key (by decide) (c k I)⟩
 . obtain ⟨a,b,c⟩:=h.pr e;exact ⟨a,b,fun k I=>key (by decide) (c k I)⟩
 . obtain ⟨a,b,c⟩:=h.mo e;exact ⟨a,b,fun k I=>key (by decide) (c k I)⟩
theorem SR.MY (h:SR w0 w B L N x) {hv':List Hc} (m:aF (fun k=>aJ x.hs.p=some k) w w') (r:Row 5 EA bX w' x.hs.p x.hs.c hv') (hq:hv'.length=x.hv.length) (I: ∀u∈hv',RO w L u.sl u.c):SR w0 w' B L N {x with hv:=hv'}/\jY (fun i=>i=5) w0 w w' L L:=by
 obtain ⟨O,p2,J⟩:=h.hv id;have c:jY (fun i=>i=5) w0 w w' L L:=⟨m.mono fun k _ e=>J k e,fun _ _=>rfl⟩
 have b:=h.Ky c;exact ⟨⟨b.g,fun _=>b.me (by simp),b.ml,fun _=>b.pm (by simp),fun _=>b.hp (by simp),fun _=>b.ph (by simp),fun _=> ⟨r,by rw [p2,hq],J⟩,fun _ u hu=> (I u hu).keep c (by simp),fun _=>b.un (by simp),fun _=>b.ur (by simp),fun _=>b.pr (by simp),fun _=>b.rr (by simp),fun _=>b.mo (by simp)⟩,c⟩
theorem SR.swap (h:SR w0 w B L N x) {q:Sl} {hv':List Hc} (r:Row 5 EA bX w q.p q.c hv') (hq:q.n=hv'.length) (hl: ∀k,aJ q.p=some k->L k=5/\w0.heap.size<=k) (I: ∀u∈hv',RO w L u.sl u.c)
 (st:bA w2 B {x with hs:=q,hv:=hv'}.cells) (m2:aF (·=B) w w2):SR w0 w2 B L N {x with hs:=q,hv:=hv'}/\Kp w0 w w2 L L:=by
 have c:jY (fun i=>i=1) w0 w w2 L L:=⟨m2.mono fun k _ (e:k=B)=>by subst e;exact ⟨h.ml.1,h.ml.2.1⟩,fun _ _=>rfl⟩
 have b:=h.Ky c;exact ⟨⟨b.g,fun _=>st,b.ml,fun _=>b.pm (by simp),fun _=>b.hp (by simp),fun _=>b.ph (by simp),fun _=> ⟨r.keep m2 fun k J (e:k=B)=>by subst e;have:=(hl _ J).1;rw [h.ml.1] at this;exact absurd this (by decide),hq,hl⟩,fun _ u hu=> (I u hu).keep c (by simp),fun _=>b.un (by simp),fun _=>b.ur (by simp),fun _=>b.pr (by simp),fun _=>b.rr (by simp),fun _=>b.mo (by simp)⟩,c.tK fun i e=>by rw [e];decide⟩
theorem jY.row {E:Nat->Prop} {sz:Nat} {α:Type} {f:α->List Value} {T:TypeId} {p:Option Addr} {c:Nat} {l:List α} (k:jY E w0 w w' L L') (h:Row sz f T w p c l) (hl: ∀b,aJ p=some b->¬E (L b)):Row sz f T w' p c l:=
 h.keep k.mod fun b hb e=>hl b hb e.1
theorem jY.lb {E:Nat->Prop} {p:Option Addr} {i n:Nat} (k:jY E w0 w w' L L') (h: ∀b,aJ p=some b->L b=i/\n<=b) (hl: ∀b,aJ p=some b->b<w.heap.size): ∀b,aJ p=some b->L' b=i/\n<=b:=
 fun b hb=> ⟨by rw [k.Ac b (hl b hb)];exact (h b hb).1,(h b hb).2⟩
theorem SR.M_ (h:SR w0 w B L N x) (g:aL x.s) (i:Nat):Calls prog fK.id #[bL x.pb,.int .i64 i] w fun e w'=> ∃r:Int,e= .returned (.int .i64 r)/\∃L',jY (fun i=>i=2) w0 w w' L L'/\
 ((r≠0/\SR w0 w' B L' N x)\/(r=0/\x.s.aN i/\aL (x.s.drop i)/\SR w0 w' B L' N {x with s:=x.s.drop i})):=by
 obtain ⟨H,pm,hl⟩:=h.pm id;have J: ∀ {w':World} {O:Pt->Sl} {s':aH},Pw w w' x.pb H O s'->jY (fun i=>i=2) w0 w w' L (jE L w.heap.size 2):=fun p=> ⟨p.mod.mono fun k _ ⟨y,e⟩=>hl y k e,fun _ Q=>cN Q⟩
 refine (Dv pm g i).mono ?_;rintro e w' ⟨r,rfl,O,⟨rfl,_,p⟩| ⟨rfl,_,_,p⟩| ⟨rfl,hi,hr,p⟩⟩
 . exact ⟨_,rfl,_,J p,.inl ⟨by decide,(h.sU hl pm.lt p).1⟩⟩
 . exact ⟨_,rfl,_,J p,.inl ⟨by decide,(h.sU hl pm.lt p).1⟩⟩
 . obtain ⟨_,I⟩:=aH.zD.1 hi;rw [Int.toNat_natCast] at I hr p;exact ⟨_,rfl,_,J p,.inr ⟨rfl,I,xQ g I fun y U e=>hr ⟨y,U,e⟩,(h.sU hl pm.lt p).1⟩⟩
theorem EN (h:SR w0 w B L N x) (hp:x.pr.length<=1000000000) (del:Bool) {sl:Sl} (ro:RO w L sl l) {b:Nat} (hb:bA w b #[.bool del,sl.v]) {K:World->Prop}
 (Y: ∀w' L' q,SR w0 w' B L' N {x with ps:=q,pr:=x.pr++ [(del,sl,l)]}->jY (fun i=>i=7\/i=1) w0 w w' L L'->K w'):
 ∃Z V O X,(Builtin.append_ #[25,25] 25 #[.slice x.ps.p x.ps.n x.ps.c,.slice (some (Addr.mk b 0 none)) 1 1]).run prog w= .ok (.slice V O X) Z/\
  ∃Q,(some (Addr.mk B 0 none))=some Q/\∃I,ah ((Q.add 14).add 2) 0 [.slice V O X] Z I/\K I:=by
 obtain ⟨r1,r2,r3⟩:=h.pr id;refine Row.mN GC Bh r1 (Kt (u:=(del,sl,l)) hb) r2 rfl (by simp;omega) fun Z p' c' o8 m8 U ap=> ⟨_,rfl,?_⟩
 have ac:bA Z B x.cells:=h.at.keep m8 fun e=>by have:=(r3 B e).1;rw [h.ml.1] at this;exact absurd this (by decide)
 refine ig ac rfl rfl fun I ad J=> ?_;have:=h.Ig (q:=⟨p',(x.pr++ [(del,sl,l)]).length,c'⟩) (pr':=x.pr++ [(del,sl,l)]) m8 o8 rfl (A0 U (Nat.le_refl _)) (fun u hu=>by
  rcases List.mem_append.1 hu with hu|hu
  . exact h.rr id u hu
  . rw [List.mem_singleton] at hu;subst hu;exact ro) ad J (h.Np (by decide) r3 U (Nat.le_refl _))
 refine Y _ _ _ this.1 ⟨(m8.mono fun k _ e=> ⟨.inl (r3 k e).1,(r3 k e).2⟩).then J fun k Y (e:k=B)=>by subst e;exact ⟨.inr h.ml.1,h.ml.2.1⟩,fun _ Y=>cN Y⟩
end
section
variable {w0 w w' w1 w2 u:World} {B N i:Nat} {L L' L1:Nat->Nat} {x:Xs} {l:List Int} {cs:List (List Int)} {hv:List (Nat × List Int)} {un:List (List Int)}
def B0:Hc:=⟨0,Sl.nil,[],0,0,false⟩
def ED (h:Hc):Nat × List Int:=(h.i,h.c)
def Kv (h:Hc):Prop:=0<=h.lv/\h.lv<=h.sz/\h.sz<=4096/\h.c.length<=4096
theorem My (a:Addr) (i j:Nat):(a.add i).add j=a.add (i+j):=by
 by_cases J:i=0
 . subst J;simp [Addr.add]
 . by_cases I:j=0
   . subst I;simp [Addr.add]
   . simp [Addr.add,J,I,Nat.add_assoc]
theorem xv {a:Addr} {k:Nat}: ∀ {vs:List Value} {i:Nat},aB w a (k+i) vs->aB w (a.add k) i vs
 | [],_,_=>trivial
 |v::vs,i,⟨h1,h2⟩=> ⟨by rw [My];exact h1,xv (i:=i+1) h2⟩
theorem MQ {hs:List Hc} {p:Option Addr} {c n:Nat} (h:Row 5 EA bX w p c hs) {i:Int} (t:Nat) (hi:i=t) (hn:n=hs.length) (ht:t<hs.length) (r:Bool) {K:World->Prop}
 (J: ∀w',Row 5 EA bX w' p c (hs.set t {hs.getD t B0 with lk:=r})->aF (fun b=>aJ p=some b) w w'->K w'):
 aP p n i 5 fun a=> ∃w',ah ((a.add 2).add 2) 0 [.bool r] w w'/\K w':=by
 have:=h.Ov xF (i:=i) (n:=n) (o:=4) (v:= .bool r) B0 {hs.getD t B0 with lk:=r} (by rw [hi,Int.toNat_natCast];rfl) (by decide) rfl (by omega) hn (by omega) (K:=K) fun w' I m'=>J w' (by rw [hi,Int.toNat_natCast] at I;exact I) m';simp only [My];exact this
theorem JC:q6 prog sQ qA 3 24=true:=by kernel_rfl
theorem Nz {v:RedP.Lr} {b:Nat} (h:bA w b #[.int .i64 v.1,.int .i64 v.2.1,.bool v.2.2]):Vr 3 Re.FF w (some ⟨b,0,none⟩) [v]:=by
 intro j I;have:j=0:=by simpa using I
 subst this;exact ⟨_,rfl,ae h rfl,ae h rfl,ae h rfl,trivial⟩
theorem uh {α:Type} {m:List α} {t:Nat} {d:α} (h:t<m.length):m.getD t d∈m:=by simp [List.getD,h]
theorem xE {m:List Hc} {t:Nat} (h:t<m.length):m.drop t=m.getD t B0::m.drop (t+1):=by
 rw [List.drop_eq_getElem_cons h];simp [List.getD,h]
def xy (h:Hc):Nat × Sl × List Int × Int × Int:=(h.i,h.sl,h.c,h.lv,h.sz)
def nJ (a b:List Hc):Prop:=a.map xy=b.map xy
theorem nJ.len {a b:List Hc} (h:nJ a b):a.length=b.length:=by have:=congrArg List.length h;simpa using this
theorem nJ.at_ {a b:List Hc} (h:nJ a b) {t:Nat} (ht:t<a.length):xy (a.getD t B0)=xy (b.getD t B0):=by
 have hb:t<b.length:=by rw [<- h.len];exact ht
 have I:(a.map xy)[t]? =(b.map xy)[t]? :=by rw [show a.map xy=b.map xy from h]
 rw [List.getElem?_map,List.getElem?_map,List.getElem?_eq_getElem ht,List.getElem?_eq_getElem hb] at I;simpa [List.getD,ht,hb] using I
theorem nJ.mem {a b:List Hc} (h:nJ a b) {P:Hc->Prop} (O: ∀u v:Hc,xy u=xy v->P u->P v) (ha: ∀u∈a,P u): ∀v∈b,P v:=by
 intro v hv;obtain ⟨j,J,rfl⟩:=List.mem_iff_getElem.1 hv;have I:j<a.length:=by rw [h.len];exact J
 have:=h.at_ I;refine O _ _ ?_ (ha _ (uh (d:=B0) I));rw [this];simp [List.getD,J]
theorem nJ.set {a b:List Hc} (h:nJ a b) {t:Nat} (ht:t<b.length) {v:Hc} (hv:xy v=xy (b.getD t B0)):nJ a (b.set t v):=by
 unfold nJ at*
 rw [h];refine List.ext_getElem (by simp) fun j h1 I=> ?_;simp only [List.length_map,List.length_set] at h1 I;rw [List.getElem_map,List.getElem_map,List.getElem_set];by_cases e:t=j
 . subst e;rw [if_pos rfl,hv];simp [List.getD,h1]
 . rw [if_neg e]
theorem nJ.ED {a b:List Hc} (h:nJ a b):a.map ED=b.map ED:=by
 have:=congrArg (List.map fun z:Nat × Sl × List Int × Int × Int=> (z.1,z.2.2.1)) h;rw [List.map_map,List.map_map] at this;exact this
structure Ou (w0 w u:World) (B:Nat) (L:Nat->Nat) (N:Nat) (x:Xs) (t:Nat) (hv1:List Hc) (ll:List RedP.Lr) (p:Option Addr) (c:Nat):Prop where
 len:ll.length=t
 ok: ∀y∈ll,RedP.BP y=true
 row:Row 3 Re.FF qA u p c ll
 fr: ∀b,aJ p=some b->w.heap.size<=b
 sr:SR w0 u B (jE L w.heap.size 0) N {x with hv:=hv1}
 kp:Kp w0 w u L (jE L w.heap.size 0)
 sm:nJ x.hv hv1
theorem Lo (h:SR w0 w B L N x) {b:Nat} (hb:w.heap.size<=b):jE L w.heap.size 0 b=0/\w0.heap.size<=b:=⟨iA hb,Nat.le_trans h.g.size hb⟩
theorem Ld (h:SR w0 w B L N x) (g:aL x.s) (eH:x.hv.length<=1000000) (eg: ∀u∈x.hv,Kv u) {K:Option Addr->Nat->Nat->World->Prop}
 (hk: ∀p c u I ll,Ou w0 w u B L N x x.hv.length I ll p c->K p ll.length c u):
 ∃I3:Option Addr->Nat->Nat->Int->World->Nat->Prop,(∃k4,I3 none 0 0 0 w k4)/\
  ∀ (X:Option Addr) (V:Nat) (U:Nat) (v7:Int) (w8:World) (k4:Nat) (_:Fr),I3 X V U v7 w8 k4->
  aG (decide (v7< (x.hs.n:Int)))
   (aP x.hs.p x.hs.n v7 5 fun a9=>
     ∃ce a8 az aT dp c7 cT,aB w8 a9 0 [.int .i64 ce,.slice a8 az aT,.int .i64 dp,.int .i64 c7,.bool cT]/\
     ∀n15 bx,aY (.cells #[.int .i64 0,.slice none 0 0,.int .i64 0,.int .i64 0,.bool false] 184) w8 n15 bx->
     ∃O,ah (Addr.mk n15 0 none) 0 [.int .i64 ce,.slice a8 az aT,.int .i64 dp,.int .i64 c7,.bool cT] bx O/\
     ∃ag:World->Prop,ag O.drew/\
     ∃dk,(some (Addr.mk B 0 none))=some dk/\∃ax ar b_,iH ag (dk.add 11) (.slice ax ar b_)/\
     ∃du bb a7 a6 cg dd dw,jB ag (Addr.mk n15 0 none) [.int .i64 du,.slice bb a7 a6,.int .i64 cg,.int .i64 dd,.bool dw]/\
     Calls prog 174 #[.pointer (some (Addr.mk B 0 none)),.agg #[.int .i64 du,.slice bb a7 a6,.int .i64 cg,.int .i64 dd,.bool dw]] O.drew fun e ad=> ∃J,e= .returned (.bool J)/\
     ag ad/\aP ax ar v7 5 fun ef=>
     ∃Z,ah ((ef.add 2).add 2) 0 [.bool J] ad Z/\
     ∃cm,(some (Addr.mk B 0 none))=some cm/\∃aw a' c3,Z.cell? (cm.add 11)=some (.slice aw a' c3)/\
     aP aw a' v7 5 fun cp=>
     ∃cb c1 dc,aB Z (cp.add 2) 0 [.int .i64 cb,.int .i64 c1,.bool dc]/\
     ∀bv aa,aY (.cells #[.int .i64 cb,.int .i64 c1,.bool dc] 182) Z bv aa->
     ∃ap a_ av ay,(Builtin.append_ #[186,186] 186 #[.slice X V U,.slice (some (Addr.mk bv 0 none)) 1 1]).run prog aa= .ok (.slice a_ av ay) ap/\
     ∃k5,k5<k4/\I3 a_ av ay (IntKind.i64.wrap (v7+ (1:Int))) ap k5)
   (K X V U w8):=by
 have dT:=(h.hv id).2.1;refine ⟨fun p n c v u z=> ∃ (t:Nat) (I:List Hc) (ll:List RedP.Lr),v=t/\t<=x.hv.length/\z=x.hv.length - t/\n=ll.length/\Ou w0 w u B L N x t I ll p c,
  ⟨_,0,x.hv,[],rfl,Nat.zero_le _,rfl,rfl,⟨rfl,by simp,Row.nil _ _ _ _,fun b hb=>by simp [aJ] at hb,h.new (aF.refl w) 0,jY.new (aF.refl w) 0,rfl⟩⟩,?_⟩
 rintro p n c v u z _ ⟨t,I,ll,rfl,ht,rfl,rfl,A⟩;have hlen:=A.sm.len;refine aj (fun r=> ?_) (fun r=> ?_)
 . have r:t<x.hv.length:=by rw [dT] at r;simpa using r
   obtain ⟨r1,r2,r3⟩:=A.sr.hv id;have r1:Row 5 EA bX u x.hs.p x.hs.c I:=r1;obtain ⟨y,hy⟩: ∃y,y=I.getD t B0:=⟨_,rfl⟩
   have b4:y∈I:=by rw [hy];exact uh (by omega)
   refine (r1.vr xF).ix B0 (by omega) (by omega) (by omega) fun a ha=> ?_;rw [Int.toNat_natCast,<- hy] at ha;refine ⟨_,_,_,_,_,_,_,ha,fun n15 bx b6=> ?_⟩;refine bj b6.has rfl rfl fun O b5 eb=> ?_;have b5:bA O n15 #[.int .i64 y.i,.slice y.sl.p y.sl.n y.sl.c,.int .i64 y.lv,.int .i64 y.sz,.bool y.lk]:=b5;have ey:=b6.num;have b':ao u O.drew:=(aF.bV b6.mod eb (by omega)).trans (aF.refl O).drew;have bu:=A.sr.grow b';have ac:=b5.grow (aF.refl O).drew;refine ⟨ao O.drew,aF.refl _,_,rfl,_,_,_,fun v gv=>ae (bu.at.grow gv) rfl,_,_,_,_,_,_,_,fun v gv=> ⟨ae (ac.grow gv) rfl,ae (ac.grow gv) rfl,ae (ac.grow gv) rfl,ae (ac.grow gv) rfl,ae (ac.grow gv) rfl,trivial⟩,?_⟩;have b8:Kv y:=A.sm.mem (fun u v e hu=>by unfold Kv at*;simp only [xy,Prod.mk.injEq] at e;obtain ⟨_,_,e3,e4,e5⟩:=e;rw [<- e3,<- e4,<- e5];exact hu) eg y b4;refine (Fj bu g (bu.hr id y b4) b8.2.2.2).mono ?_;rintro e ad ⟨J,rfl,d4⟩;refine ⟨_,rfl,d4,?_⟩;have an:=b'.trans d4;have ea:=r1.grow an;have bY:=A.sr.grow an;refine MQ ea t rfl (by omega) (by omega) J fun Z bc cc=> ?_;rw [<- hy] at bc;have Q:=bY.MY cc bc (by show (I.set _ _).length=I.length;simp) fun v hv=>by
    rcases List.mem_or_eq_of_mem_set hv with e|e
    . exact bY.hr id v e
    . subst e;exact bY.hr id y b4
   have Q1:SR w0 Z B (jE L w.heap.size 0) N {x with hv:=I.set t {y with lk:=J}}:=Q.1;refine ⟨_,rfl,_,_,_,ae Q1.at rfl,(bc.vr xF).ix B0 (by omega) (by simp;omega) (by show (t:Int)< (x.hs.n:Int);omega) fun cp di=> ?_⟩;rw [Int.toNat_natCast,show (I.set t {y with lk:=J}).getD t B0= {y with lk:=J} by simp [List.getD,show t<I.length by omega]] at di;refine ⟨y.lv,y.sz,J,xv (k:=2) (i:=0) di.2.2,fun bv aa Y=> ?_⟩;have ez:=Y.num;have el:=Y.size;have c2:aF (fun k=>aJ x.hs.p=some k) u aa:=(an.mono fun _ _ e=>e.elim:aF (fun k=>aJ x.hs.p=some k) u ad).then (cc.then Y.mod fun _ _ e=>e.elim) fun _ _ e=>e;have rl:=A.row.keep c2 fun b hb e=>by
    have h1:=A.fr b hb;have h2:=(h.hv id).1.lt b e;omega
   refine Row.mN Re.OA JC rl (Nz (v:=(y.lv,y.sz,J)) Y.has) rfl rfl (by have:=A.len;simp;omega) fun ap p' c' o8 m8 ej es=> ?_;have ec:=Q1.grow Y.mod;have et:=A.kp.mod.size;have eL:=c2.size;have ed:aF (fun k=>jE L w.heap.size 0 k=0/\w0.heap.size<=k) aa ap:=m8.mono fun k _ e=>Lo h (A.fr k e);have c0:=ec.NW (L':=jE L w.heap.size 0) ed fun _ _=>rfl;have kk:=(((A.kp.trans (jY.grow an)).trans (Q.2.tK fun i e=>by rw [e];decide)).trans (jY.grow Y.mod)).trans (c0.2.tK fun i e=>by rw [e];decide);refine ⟨_,?_,t+1,I.set t {y with lk:=J},ll++ [(y.lv,y.sz,J)],wN (by omega) (by omega),by omega,rfl,rfl,⟨by rw [List.length_append,A.len];rfl,fun v hv=> ?_,o8,fun b hb=> ?_,c0.1,kk,A.sm.set (by omega) (by rw [<- hy];rfl)⟩⟩
   . omega
   . rcases List.mem_append.1 hv with hv|hv
     . exact A.ok v hv
     . rw [List.mem_singleton] at hv;subst hv;unfold RedP.BP;obtain ⟨o1,o2,o3,o4⟩:=b8;simp;omega
   . rcases ej with rfl|rfl
     . exact A.fr b hb
     . have:=aO hb;omega
 . have r:t=x.hv.length:=by rw [dT] at r;simp at r;omega
   subst r;exact hk _ _ _ _ _ A
end
end Go.Proofs.YtenmibfmhccmiaaGreat.W
