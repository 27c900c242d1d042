/- Layer 14: what is always so of a search, plain. -/
import Derived.Test.YtddffgjagppimaaGreatHeapA
import Derived.Test.YtddffgjagppimaaGreatFwRead
import Derived.Test.YtddffgjagppimaaGreatLubyA
import Derived.Test.YtddffgjagppimaaGreatLearnA
import Derived.Test.YtddffgjagppimaaGreatRedA
import Derived.Test.YtddffgjagppimaaGreatPropA
import Derived.Test.YtddffgjagppimaaGreatFwMem
import Derived.Maps.OwnSet
import Derived.Test.YtddffgjagppimaaGreatSortA
import Derived.Test.YtddffgjagppimaaGreatLitA
namespace Go.Proofs.YtddffgjagppimaaGreat.W
open Go Go.Fw Go.RowKit Go.SoP Go.LiP Go.LeP
open Go.Proofs.Tryz (prog)
open Go.IntKind (i64)
section
variable {s t s':PSt} {l c d:List Int} {x y:Int} {i j N:Nat} {cs:List (List Int)}
structure Mdl (N:Nat) (v:Int→Int):Prop where
 neg: ∀l,v (-l)= -v l
 val: ∀l,v l=0∨v l=1∨v l= -1
 set: ∀l,InV N l→v l≠0
def Folw (N:Nat) (cs:List (List Int)) (c:List Int):Prop:= ∀v,Mdl N v→(∀d∈cs,Tr1 v d)→Tr1 v c
def ClsAt (s:PSt) (c P:List Int):Prop:=(∃x∈c,x∈P)∨∃x∈c,∃y∈c,x≠y∧x ∉ P∧ -x ∉ P∧y ∉ P∧ -y ∉ P
def PSt.pre (s:PSt) (j:Nat):List Int:=(s.R .tr).take ((s.R .be).getD j 0).toNat
def Bnd (s:PSt):Prop:= ∀j,j< (s.R .be).length→∀i,s.There i→ClsAt s (s.R (.a i)) (s.pre j)
theorem Bnd.ext (g:Good s) (h:Bnd s) (e:Ext s s'):Bnd s':=by
 intro j hj i hi
 rw [e.be] at hj
 have hi:=e.there.1 hi
 have hb:=g.bl j hj
 have ep:s'.pre j=s.pre j:=by
  unfold PSt.pre
  obtain ⟨k,hk⟩:=e.tr
  rw [e.be,hk,List.take_append_of_le_length (by omega)]
 rw [e.a i,ep]
 exact h j hj i hi
theorem val0_notin (g:Good s) (hx:InV s.vars x) (h:s.val x=0):x ∉ s.R .tr∧ -x ∉ s.R .tr:=by
 refine ⟨fun hm=> ?_,fun hm=> ?_⟩
 · have:=(g.v1 x hx).2 hm;omega
 · have:=(g.v1 (-x) hx.neg).2 hm;rw [val_neg hx] at this;omega
theorem closed_at (g:Good s) (h:Closed s) (hi:s.There i):ClsAt s (s.R (.a i)) (s.R .tr):=by
 rcases h i hi with h| ⟨x,hx,y,hy,hne,h1,h2⟩
 · exact .inl h
 · have vx:=g.cv i hi x ((g.ca i hi x).2 hx)
   have vy:=g.cv i hi y ((g.ca i hi y).2 hy)
   obtain ⟨a,b⟩:=val0_notin g vx h1
   obtain ⟨a',b'⟩:=val0_notin g vy h2
   exact .inr ⟨x,hx,y,hy,hne,a,b,a',b'⟩
theorem decide_a:(s.decide x).R (.a i)=s.R (.a i):=by
 unfold PSt.decide
 rw [put_R (by simp) (by simp) (by simp) (by simp)]
 unfold PSt.begin
 rw [set_ne (by simp),set_ne (by simp)]
theorem decide_be:(s.decide x).R .be=s.R .be++ [((s.R .tr).length:Int)]:=by
 unfold PSt.decide
 rw [put_R (by simp) (by simp) (by simp) (by simp)]
 unfold PSt.begin
 rw [set_ne (by simp),set_eq]
theorem decide_tr:(s.decide x).R .tr=s.R .tr++ [x]:=by
 unfold PSt.decide
 rw [put_tr]
 unfold PSt.begin
 rw [set_ne (by simp),set_ne (by simp)]
theorem decide_there:(s.decide x).There i↔s.There i:=by
 unfold PSt.decide PSt.begin PSt.put PSt.There PSt.set
 exact Iff.rfl
theorem Bnd.decide (g:Good s) (h:Bnd s) (hc:Closed s):Bnd (s.decide x):=by
 intro j hj i hi
 have hi:s.There i:=decide_there.1 hi
 rw [decide_be,List.length_append,List.length_cons,List.length_nil] at hj
 unfold PSt.pre
 rw [decide_be,decide_tr,decide_a]
 by_cases e:j< (s.R .be).length
 · have hb:=g.bl j e
   have e1:(s.R .be++ [((s.R .tr).length:Int)]).getD j 0=(s.R .be).getD j 0:=by simp [List.getD,List.getElem?_append_left e]
   rw [e1,List.take_append_of_le_length (by omega)]
   exact h j e i hi
 · have e0:j=(s.R .be).length:=by omega
   subst e0
   have e1:(s.R .be++ [((s.R .tr).length:Int)]).getD (s.R .be).length 0=((s.R .tr).length:Int):=by simp [List.getD]
   rw [e1,Int.toNat_natCast,List.take_append_of_le_length (Nat.le_refl _),List.take_length]
   exact closed_at g hc hi
theorem back_bt (i:Nat):(s.back i).R .be=(s.R .be).take i∧(s.back i).R .tr=(s.R .tr).take ((s.R .be).getD i 0).toNat∧∀j,(s.back i).R (.a j)=s.R (.a j):=by
 unfold PSt.back
 simp only [PSt.set]
 refine ⟨?_,?_,fun j=> ?_⟩<;>simp [updF]
theorem back_be:(s.back i).R .be=(s.R .be).take i:=(back_bt i).1
theorem back_tr:(s.back i).R .tr=(s.R .tr).take ((s.R .be).getD i 0).toNat:=(back_bt i).2.1
theorem back_a:(s.back i).R (.a j)=s.R (.a j):=(back_bt i).2.2 j
theorem back_pre (g:Good s) (hi:i< (s.R .be).length) (hj:j<i):(s.back i).pre j=s.pre j:=by
 unfold PSt.pre
 rw [back_be,back_tr,take_getD hj,List.take_take]
 have:=g.bs j i hj hi
 have:=g.bl j (by omega)
 rw [Nat.min_eq_left (by omega)]
theorem Bnd.back (g:Good s) (h:Bnd s) (hi:i< (s.R .be).length):Bnd (s.back i):=by
 intro j hj k hk
 have hk:s.There k:=hk
 rw [back_be,List.length_take] at hj
 rw [back_a,back_pre g hi (by omega)]
 exact h j (by omega) k hk
theorem countP_le (g:Good s) {p:Nat} (hj:j< (s.R .be).length):j< (s.R .be).countP (fun e=>decide (e≤(p:Int)))↔(s.R .be).getD j 0≤(p:Int):=by
 have mono: ∀a b,a<b→b< (s.R .be).length→(s.R .be).getD a 0< (s.R .be).getD b 0:=fun a b h1 h2=>g.bs a b h1 h2
 have key: ∀ (be:List Int),(∀a b,a<b→b<be.length→be.getD a 0<be.getD b 0)→∀j,j<be.length→(j<be.countP (fun e=>decide (e≤(p:Int)))↔be.getD j 0≤(p:Int)):=by
  intro be
  induction be with
  |nil=>intro _ j hj;simp at hj
  |cons a t ih=>
   intro hm j hj
   have ih:=ih (fun x y h1 h2=>by have:=hm (x+1) (y+1) (by omega) (by simpa using h2);simpa using this)
   rw [List.countP_cons]
   by_cases ha:a≤(p:Int)
   · rw [if_pos (by simpa using ha)]
     cases j with
     |zero=>simp [ha]
     |succ j=>
      have hj:j<t.length:=by simpa using hj
      have:=ih j hj
      have e1:(a::t).getD (j+1) 0=t.getD j 0:=by simp
      rw [e1,← this];omega
   · rw [if_neg (by simpa using ha)]
     have z:t.countP (fun e=>decide (e≤(p:Int)))=0:=by
      rw [List.countP_eq_zero]
      intro e he
      obtain ⟨k,hk,rfl⟩:=List.mem_iff_getElem.1 he
      have:=hm 0 (k+1) (by omega) (by simpa using hk)
      simp only [List.getD_cons_zero,List.getD_cons_succ] at this
      rw [List.getD_eq_getElem?_getD,List.getElem?_eq_getElem hk,Option.getD_some] at this
      simp;omega
     rw [z]
     cases j with
     |zero=>simp;omega
     |succ j=>
      have hj:j<t.length:=by simpa using hj
      have:=hm 0 (j+1) (by omega) (by simpa using hj)
      have e1:(a::t).getD (j+1) 0=t.getD j 0:=by simp
      have e0:(a::t).getD 0 0=a:=by simp
      rw [e1,e0] at this
      rw [e1];omega
 exact key _ mono j hj
theorem tr_at (hx:x∈s.R .tr): ∃p,p< (s.R .tr).length∧(s.R .tr).getD p 0=x:=by
 obtain ⟨p,hp,e⟩:=List.mem_iff_getElem.1 hx
 exact ⟨p,hp,by simp [List.getD,hp,e]⟩
theorem tr_inj (g:Good s) {p q:Nat} (hp:p< (s.R .tr).length) (hq:q< (s.R .tr).length) (h:amt ((s.R .tr).getD p 0)=amt ((s.R .tr).getD q 0)):p=q:=by
 have e1:(s.R .tr).getD p 0=(s.R .tr)[p]:=by simp [List.getD,hp]
 have e2:(s.R .tr).getD q 0=(s.R .tr)[q]:=by simp [List.getD,hq]
 rw [e1,e2] at h
 have:=(List.getElem_inj (h₀:=show p< ((s.R .tr).map amt).length by simpa using hp) (h₁:=by simpa using hq) g.nd).1 (by simpa using h)
 exact this
theorem take_mem {l:List Int} {k:Nat}:x∈l.take k↔∃p,p<k∧p<l.length∧l.getD p 0=x:=by
 constructor
 · intro h
   obtain ⟨p,hp,e⟩:=List.mem_iff_getElem.1 h
   rw [List.length_take] at hp
   refine ⟨p,by omega,by omega,?_⟩
   rw [List.getElem_take] at e
   simp [List.getD,show p<l.length by omega,e]
 · rintro ⟨p,h1,h2,rfl⟩
   rw [List.mem_iff_getElem]
   refine ⟨p,by rw [List.length_take];omega,?_⟩
   rw [List.getElem_take];simp [List.getD,h2]
theorem lev_neg:s.lev (-x)=s.lev x:=by unfold PSt.lev;rw [amt_neg]
theorem pre_mem (g:Good s) (hx: -x∈s.R .tr) (hj:j< (s.R .be).length): -x∈s.pre j↔s.lev x≤j:=by
 obtain ⟨p,hp,e⟩:=tr_at hx
 have hl:=g.lv p hp
 rw [e,lev_neg] at hl
 have hc:=countP_le g (p:=p) hj
 have hb:=g.bl j hj
 unfold PSt.pre
 rw [take_mem,hl]
 constructor
 · rintro ⟨q,h1,h2,h3⟩
   have:=tr_inj g h2 hp (by rw [h3,e])
   subst this
   omega
 · intro h
   refine ⟨p,?_,hp,e⟩
   omega
theorem pos_notin (g:Good s) (hx: -x∈s.R .tr):x ∉ s.R .tr:=by
 intro h
 obtain ⟨p,hp,e⟩:=tr_at hx
 obtain ⟨q,hq,e'⟩:=tr_at h
 have:=tr_inj g hp hq (by rw [e,e',amt_neg])
 subst this
 have:=(g.tv x h).1
 omega
structure LS (s:PSt) (l:List Int) (bl:Nat):Prop where
 ft: ∀x∈l,-x∈s.R .tr
 top: ∃x∈l,s.lev x=(s.R .be).length∧∀y∈l,y≠x→s.lev y≤bl
 lt:bl< (s.R .be).length
 two:bl=0∨∃y∈l,s.lev y=bl
 nd:l.Nodup
theorem LS.inv (g:Good s) (h:LS s l i) (hx:x∈l):InV s.vars x:=by
 have:=(g.tv _ (h.ft x hx)).neg
 rwa [Int.neg_neg] at this
theorem LS.new (g:Good s) (b:Bnd s) (h:LS s l i) (hj:s.There j): ¬∀x,x∈s.R (.a j)↔x∈l:=by
 intro e
 have hlt:=h.lt
 obtain ⟨x,hx,h1,h2⟩:=h.top
 have hL:(s.R .be).length - 1< (s.R .be).length:=by omega
 rcases b _ hL j hj with ⟨y,hy,hy2⟩| ⟨y,hy,z,hz,hne,_,b1,_,b2⟩
 · exact pos_notin g (h.ft y ((e y).1 hy)) (List.mem_of_mem_take hy2)
 · have key: ∀u∈l,-u ∉ s.pre ((s.R .be).length - 1)→u=x:=fun u hu hn=>by
    refine Classical.byContradiction fun hne=>hn ((pre_mem g (h.ft u hu) hL).2 ?_)
    have:=h2 u hu hne
    omega
   exact hne ((key y ((e y).1 hy) b1).trans (key z ((e z).1 hz) b2).symm)
theorem LS.add (g:Good s) (b:Bnd s) (h:LS s l i) (ha:Added (s.back i) l s'):Bnd s':=by
 intro j hj k hk
 have gb:=back_good g h.lt
 have hlt:=h.lt
 rw [ha.be,back_be,List.length_take] at hj
 have ep:s'.pre j=s.pre j:=by
  have:s'.pre j=(s.back i).pre j:=by unfold PSt.pre;rw [ha.tr,ha.be]
  rw [this,back_pre g h.lt (by omega)]
 have hk1:k< (s.back i).nc+1:=by have:=hk.1;rw [ha.n] at this;exact this
 rw [ep,ha.a]
 by_cases e:k=(s.back i).nc
 · rw [if_pos e]
   obtain ⟨x,hx,h1,h2⟩:=h.top
   rcases h.two with e0| ⟨y,hy,e0⟩
   · omega
   · have hjL:j< (s.R .be).length:=by omega
     have nx:=pos_notin g (h.ft x hx)
     have ny:=pos_notin g (h.ft y hy)
     refine .inr ⟨x,hx,y,hy,fun e=>by rw [e,e0] at h1;omega,fun hm=>nx (List.mem_of_mem_take hm),fun hm=> ?_,fun hm=>ny (List.mem_of_mem_take hm),fun hm=> ?_⟩
     · have:=(pre_mem g (h.ft x hx) hjL).1 hm;omega
     · have:=(pre_mem g (h.ft y hy) hjL).1 hm;omega
 · rw [if_neg e]
   have hg:(s.back i).gone k=false:=by have:=hk.2;rw [ha.g,if_neg e] at this;exact this
   have hth:s.There k:=⟨by show k< (s.back i).nc;omega,hg⟩
   rw [back_a]
   exact b j (by omega) k hth
def dig (c:List Int) (v:Int):Nat:=if v∈c then 1 else if -v∈c then 2 else 0
def code (c:List Int):Nat→Nat
 |0=>0
 |n+1=>dig c ((n:Int)+1)+3*code c n
theorem dig_lt (c:List Int) (v:Int):dig c v<3:=by
 unfold dig
 split
 · omega
 · split<;>omega
theorem code_dig {c d:List Int}: ∀ {n:Nat},code c n=code d n→∀v:Nat,v<n→dig c ((v:Int)+1)=dig d ((v:Int)+1)
 |0,_,v,hv=>by omega
 |n+1,h,v,hv=>by
  unfold code at h
  have h1:=dig_lt c ((n:Int)+1)
  have h2:=dig_lt d ((n:Int)+1)
  have e1:dig c ((n:Int)+1)=dig d ((n:Int)+1):=by omega
  by_cases e:v=n
  · subst e;exact e1
  · exact code_dig (n:=n) (by omega) v (by omega)
structure Okc (N:Nat) (c:List Int):Prop where
 inv: ∀x∈c,InV N x
 nt: ∀x∈c,-x ∉ c
 nd:c.Nodup
theorem Okc.mem (h:Okc N c) (hx:InV N x):x∈c↔(0<x∧dig c (amt x)=1)∨(x<0∧dig c (amt x)=2):=by
 obtain ⟨h0,h1,h2⟩:=hx
 unfold amt
 by_cases e:x<0
 · rw [if_pos e]
   unfold dig
   rw [Int.neg_neg]
   constructor
   · intro hm
     have:=h.nt x hm
     rw [if_neg this,if_pos hm]
     exact .inr ⟨e,rfl⟩
   · rintro (⟨a,_⟩| ⟨_,b⟩)
     · omega
     · split at b
       · omega
       · split at b
         · assumption
         · omega
 · rw [if_neg e]
   unfold dig
   constructor
   · intro hm
     rw [if_pos hm]
     exact .inl ⟨by omega,rfl⟩
   · rintro (⟨_,b⟩| ⟨a,_⟩)
     · split at b
       · assumption
       · split at b<;>omega
     · omega
theorem Okc.same (h:Okc N c) (k:Okc N d) (e:code c N=code d N): ∀x,x∈c↔x∈d:=by
 have key: ∀x,InV N x→(x∈c↔x∈d):=fun x hx=>by
  rw [h.mem hx,k.mem hx]
  have ha:=hx.amt
  have:=code_dig e ((amt x).toNat - 1) (by omega)
  rw [show (((amt x).toNat - 1:Nat):Int)+1=amt x by omega] at this
  rw [this]
 intro x
 exact ⟨fun hx=> (key x (h.inv x hx)).1 hx,fun hx=> (key x (k.inv x hx)).2 hx⟩
end
section
variable {s t s':PSt} {l c d:List Int} {x y:Int} {i j N:Nat} {cs:List (List Int)} {hv:List (Nat × List Int)} {un:List (List Int)}
theorem val0_iff (g:Good s) (hx:InV s.vars x):s.val x=0↔x ∉ s.R .tr∧ -x ∉ s.R .tr:=by
 refine ⟨val0_notin g hx,fun ⟨h1,h2⟩=> ?_⟩
 have hb:=s.val_bd g.wf x
 rcases hb with h|h|h
 · exact h
 · exact absurd ((g.v1 x hx).1 h) h1
 · exact absurd ((g.v1 (-x) hx.neg).1 (by rw [val_neg hx];omega)) h2
structure CSI (N:Nat) (cs:List (List Int)) (s:PSt) (hv:List (Nat × List Int)) (un:List (List Int)):Prop where
 g:Good s
 v:s.vars=N
 fc: ∀j,j<cs.length→s.There j∧s.R (.a j)=cs.getD j []
 imp: ∀i,s.There i→Folw N cs (s.R (.a i))
 hvp: ∀h∈hv,cs.length≤h.1∧s.There h.1∧s.R (.a h.1)=h.2
 hn:(hv.map (·.1)).Nodup
 unp: ∀c∈un,∃i,cs.length≤i∧s.There i∧s.R (.a i)=c∧i ∉ hv.map (·.1)
 bnd:Bnd s
 dn:((hv.map (·.2)++un).map fun c=>code c N).Nodup
 ok: ∀c∈hv.map (·.2)++un,Okc N c
theorem CSI.run (h:CSI N cs s hv un) (e:Ext s s') (g':Good s'):CSI N cs s' hv un:=by
 have th: ∀i,s'.There i↔s.There i:=fun i=>e.there
 exact ⟨g',by rw [e.v,h.v],fun j hj=> ⟨(th j).2 (h.fc j hj).1,by rw [e.a];exact (h.fc j hj).2⟩,fun i hi=>by rw [e.a];exact h.imp i ((th i).1 hi),
  fun k hk=> ⟨(h.hvp k hk).1,(th _).2 (h.hvp k hk).2.1,by rw [e.a];exact (h.hvp k hk).2.2⟩,h.hn,
  fun c hc=>by obtain ⟨i,h1,h2,h3,h4⟩:=h.unp c hc;exact ⟨i,h1,(th i).2 h2,by rw [e.a];exact h3,h4⟩,h.bnd.ext h.g e,h.dn,h.ok⟩
theorem CSI.decide (h:CSI N cs s hv un) (hc:Closed s) (hl:InV s.vars x) (h0:s.val x=0):CSI N cs (s.decide x) hv un:=by
 exact ⟨decide_good h.g hl h0,h.v,fun j hj=> ⟨decide_there.2 (h.fc j hj).1,by rw [decide_a];exact (h.fc j hj).2⟩,fun i hi=>by rw [decide_a];exact h.imp i (decide_there.1 hi),
  fun k hk=> ⟨(h.hvp k hk).1,decide_there.2 (h.hvp k hk).2.1,by rw [decide_a];exact (h.hvp k hk).2.2⟩,h.hn,
  fun c hc=>by obtain ⟨i,h1,h2,h3,h4⟩:=h.unp c hc;exact ⟨i,h1,decide_there.2 h2,by rw [decide_a];exact h3,h4⟩,h.bnd.decide h.g hc,h.dn,h.ok⟩
theorem CSI.back (h:CSI N cs s hv un) (hi:i< (s.R .be).length):CSI N cs (s.back i) hv un:=by
 exact ⟨back_good h.g hi,h.v,fun j hj=> ⟨(h.fc j hj).1,by rw [back_a];exact (h.fc j hj).2⟩,fun k hk=>by rw [back_a];exact h.imp k hk,
  fun k hk=> ⟨(h.hvp k hk).1,(h.hvp k hk).2.1,by rw [back_a];exact (h.hvp k hk).2.2⟩,h.hn,
  fun c hc=>by obtain ⟨k,h1,h2,h3,h4⟩:=h.unp c hc;exact ⟨k,h1,h2,by rw [back_a];exact h3,h4⟩,h.bnd.back h.g hi,h.dn,h.ok⟩
theorem LS.okc (h:CSI N cs s hv un) (k:LS s l i):Okc N l:=
 ⟨fun x hx=>by have:=k.inv h.g hx;rwa [h.v] at this,fun x hx hm=>pos_notin h.g (k.ft x hx) (by have:=k.ft _ hm;rwa [Int.neg_neg] at this),k.nd⟩
theorem LS.code_new (h:CSI N cs s hv un) (k:LS s l i):code l N ∉ (hv.map (·.2)++un).map fun c=>code c N:=by
 intro hm
 obtain ⟨c,hc,e⟩:=List.mem_map.1 hm
 have same:=(h.ok c hc).same (k.okc h) e
 rcases List.mem_append.1 hc with hc|hc
 · obtain ⟨p,hp,rfl⟩:=List.mem_map.1 hc
   obtain ⟨_,h2,h3⟩:=h.hvp p hp
   exact k.new h.g h.bnd h2 (by rw [h3];exact same)
 · obtain ⟨q,_,h2,h3,_⟩:=h.unp c hc
   exact k.new h.g h.bnd h2 (by rw [h3];exact same)
structure CSI0 (N:Nat) (cs:List (List Int)) (s:PSt) (hv:List (Nat × List Int)) (un:List (List Int)) (l:List Int) (nc:Nat):Prop where
 g:Good s
 v:s.vars=N
 fc: ∀j,j<cs.length→s.There j∧s.R (.a j)=cs.getD j []
 imp: ∀i,s.There i→Folw N cs (s.R (.a i))
 hvp: ∀h∈hv,cs.length≤h.1∧s.There h.1∧s.R (.a h.1)=h.2
 hn:(hv.map (·.1)).Nodup
 unp: ∀c∈un,∃i,cs.length≤i∧s.There i∧s.R (.a i)=c∧i ∉ hv.map (·.1)∧i<nc
 bnd:Bnd s
 dn:((hv.map (·.2)++un).map fun c=>code c N).Nodup
 ok: ∀c∈hv.map (·.2)++un,Okc N c
 lc:code l N ∉ (hv.map (·.2)++un).map fun c=>code c N
 lo:Okc N l
 la:cs.length≤nc∧s.There nc∧s.R (.a nc)=l
 hl: ∀h∈hv,h.1<nc
theorem CSI.learn (h:CSI N cs s hv un) (k:LS s l i) (f:Folw N cs l) (ha:Added (s.back i) l s') (g':Good s'):CSI0 N cs s' hv un l s.nc:=by
 have enc:(s.back i).nc=s.nc:=rfl
 have hle:cs.length≤s.nc:=by
  rcases Nat.lt_or_ge s.nc cs.length with e|e
  · exact absurd (h.fc _ e).1.1 (Nat.lt_irrefl _)
  · exact e
 have th: ∀ {j},s.There j→s'.There j∧s'.R (.a j)=s.R (.a j):=fun {j} hj=>by
  have hne:j≠s.nc:=by have:=hj.1;omega
  refine ⟨⟨?_,?_⟩,?_⟩
  · rw [ha.n,enc];have:=hj.1;omega
  · rw [ha.g,enc,if_neg hne];exact hj.2
  · rw [ha.a,enc,if_neg hne,back_a]
 have tn:s'.There s.nc∧s'.R (.a s.nc)=l:=by
  refine ⟨⟨?_,?_⟩,?_⟩
  · rw [ha.n,enc];omega
  · rw [ha.g,enc,if_pos rfl]
  · rw [ha.a,enc,if_pos rfl]
 refine ⟨g',by rw [ha.v];exact h.v,fun j hj=> ⟨(th (h.fc j hj).1).1,by rw [(th (h.fc j hj).1).2];exact (h.fc j hj).2⟩,fun j hj=> ?_,fun p hp=> ?_,h.hn,fun c hc=> ?_,k.add h.g h.bnd ha,h.dn,h.ok,k.code_new h,k.okc h,⟨hle,tn⟩,fun p hp=> (h.hvp p hp).2.1.1⟩
 · by_cases e:j=s.nc
   · subst e;rw [tn.2];exact f
   · have hj':s.There j:=by
      refine ⟨?_,?_⟩
      · have:=hj.1;rw [ha.n,enc] at this;omega
      · have:=hj.2;rw [ha.g,enc,if_neg e] at this;exact this
     rw [(th hj').2];exact h.imp j hj'
 · obtain ⟨h1,h2,h3⟩:=h.hvp p hp
   exact ⟨h1,(th h2).1,by rw [(th h2).2];exact h3⟩
 · obtain ⟨q,h1,h2,h3,h4⟩:=h.unp c hc
   exact ⟨q,h1,(th h2).1,by rw [(th h2).2];exact h3,h4,h2.1⟩
theorem cd_snoc {α:Type} {l:List α} {a:α} (h:l.Nodup) (ha:a ∉ l):(l++ [a]).Nodup:=by
 rw [List.nodup_append]
 exact ⟨h,by simp,fun x hx y hy=>by rw [List.mem_singleton] at hy;subst hy;rintro rfl;exact ha hx⟩
theorem cd_mid {α:Type} {l m:List α} {a:α} (h:(l++m).Nodup) (ha:a ∉ l++m):(l++ [a]++m).Nodup:=by
 have hp:(l++ [a]++m).Perm (l++m++ [a]):=by
  rw [List.append_assoc,List.append_assoc]
  exact List.Perm.append_left _ (List.perm_append_comm)
 exact hp.nodup_iff.2 (cd_snoc h ha)
theorem CSI0.have_ (h:CSI0 N cs s hv un l i):CSI N cs s (hv++ [(i,l)]) un:=by
 obtain ⟨h1,h2,h3⟩:=h.la
 refine ⟨h.g,h.v,h.fc,h.imp,fun p hp=> ?_,?_,fun c hc=> ?_,h.bnd,?_,fun c hc=> ?_⟩
 · rcases List.mem_append.1 hp with hp|hp
   · exact h.hvp p hp
   · rw [List.mem_singleton] at hp;subst hp;exact ⟨h1,h2,h3⟩
 · rw [List.map_append]
   exact cd_snoc h.hn fun hm=>by
    obtain ⟨p,hp,e⟩:=List.mem_map.1 hm
    have:=h.hl p hp
    simp at e;omega
 · obtain ⟨q,q1,q2,q3,q4,q5⟩:=h.unp c hc
   refine ⟨q,q1,q2,q3,fun hm=> ?_⟩
   rw [List.map_append] at hm
   rcases List.mem_append.1 hm with hm|hm
   · exact q4 hm
   · simp at hm;omega
 · rw [List.map_append,List.map_append,List.map_append]
   have:=h.dn
   have hl:=h.lc
   rw [List.map_append] at this hl
   exact cd_mid this hl
 · rw [List.map_append] at hc
   rcases List.mem_append.1 hc with hc|hc
   · rcases List.mem_append.1 hc with hc|hc
     · exact h.ok c (List.mem_append_left _ hc)
     · simp at hc;subst hc;exact h.lo
   · exact h.ok c (List.mem_append_right _ hc)
theorem CSI0.unit_ (h:CSI0 N cs s hv un l i):CSI N cs s hv (un++ [l]):=by
 obtain ⟨h1,h2,h3⟩:=h.la
 refine ⟨h.g,h.v,h.fc,h.imp,h.hvp,h.hn,fun c hc=> ?_,h.bnd,?_,fun c hc=> ?_⟩
 · rcases List.mem_append.1 hc with hc|hc
   · obtain ⟨q,q1,q2,q3,q4,q5⟩:=h.unp c hc
     exact ⟨q,q1,q2,q3,q4⟩
   · rw [List.mem_singleton] at hc;subst hc
     exact ⟨i,h1,h2,h3,fun hm=>by
      obtain ⟨p,hp,e⟩:=List.mem_map.1 hm
      have:=h.hl p hp
      omega⟩
 · rw [← List.append_assoc,List.map_append]
   exact cd_snoc h.dn h.lc
 · rw [← List.append_assoc] at hc
   rcases List.mem_append.1 hc with hc|hc
   · exact h.ok c hc
   · rw [List.mem_singleton] at hc;subst hc;exact h.lo
theorem drop_a (h:j≠i):(s.drop i).R (.a j)=s.R (.a j):=by
 unfold PSt.drop PSt.del
 show (((((unF i s ((s.R (.l i)).take 2)).set .lo _).set (.a i) []).set (.l i) []).R (.a j))=_
 rw [set_ne (by simp),set_ne (by simpa using h),set_ne (by simp),unF_R _ (by simp)]
theorem drop_f {z:Pt} (h:z= .tr∨z= .be):(s.drop i).R z=s.R z:=by
 unfold PSt.drop PSt.del
 show (((((unF i s ((s.R (.l i)).take 2)).set .lo _).set (.a i) []).set (.l i) []).R z)=_
 rcases h with rfl|rfl<;>rw [set_ne (by simp),set_ne (by simp),set_ne (by simp),unF_R _ (by simp)]
theorem drop_v:(s.drop i).vars=s.vars:=by
 obtain ⟨d1,d2,d3,_⟩:=unF_vars (i:Int) ((s.R (.l i)).take 2) s
 exact d1
theorem CSI.drop {A B:List (Nat × List Int)} {p:Nat × List Int} (h:CSI N cs s (A++p::B) un) (g':Good (s.drop p.1)):CSI N cs (s.drop p.1) (A++B) un:=by
 have hp:=h.hvp p (by simp)
 have hn:=h.hn
 rw [List.map_append,List.map_cons] at hn
 have hn':p.1 ∉ (A++B).map (·.1)∧((A++B).map (·.1)).Nodup:=by
  rw [List.map_append]
  have hp:(A.map (·.1)++p.1::B.map (·.1)).Perm (p.1::(A.map (·.1)++B.map (·.1))):=List.perm_middle
  exact List.nodup_cons.1 (hp.nodup_iff.1 hn)
 have sub: ∀q∈A++B,q∈A++p::B:=fun q hq=>by
  rcases List.mem_append.1 hq with hq|hq
  · exact List.mem_append_left _ hq
  · exact List.mem_append_right _ (List.mem_cons_of_mem _ hq)
 have ne: ∀q∈A++B,q.1≠p.1:=fun q hq e=>hn'.1 (by rw [← e];exact List.mem_map.2 ⟨q,hq,rfl⟩)
 refine ⟨g',by rw [drop_v];exact h.v,fun j hj=> ?_,fun j hj=> ?_,fun q hq=> ?_,hn'.2,fun c hc=> ?_,fun j hj k hk=> ?_,?_,fun c hc=> ?_⟩
 · have hne:j≠p.1:=by omega
   exact ⟨drop_there.2 ⟨(h.fc j hj).1,hne⟩,by rw [drop_a hne];exact (h.fc j hj).2⟩
 · obtain ⟨h1,h2⟩:=drop_there.1 hj
   rw [drop_a h2];exact h.imp j h1
 · obtain ⟨h1,h2,h3⟩:=h.hvp q (sub q hq)
   exact ⟨h1,drop_there.2 ⟨h2,ne q hq⟩,by rw [drop_a (ne q hq)];exact h3⟩
 · obtain ⟨q,q1,q2,q3,q4⟩:=h.unp c hc
   have hne:q≠p.1:=fun e=>q4 (by rw [e];exact List.mem_map.2 ⟨p,by simp,rfl⟩)
   exact ⟨q,q1,drop_there.2 ⟨q2,hne⟩,by rw [drop_a hne];exact q3,fun hm=>by
    obtain ⟨r,hr,e⟩:=List.mem_map.1 hm
    exact q4 (List.mem_map.2 ⟨r,sub r hr,e⟩)⟩
 · obtain ⟨h1,h2⟩:=drop_there.1 hk
   rw [drop_f (.inr rfl)] at hj
   have:=h.bnd j hj k h1
   unfold PSt.pre
   rw [drop_a h2,drop_f (.inl rfl),drop_f (.inr rfl)]
   exact this
 · have:=h.dn
   refine this.sublist (List.Sublist.map _ ?_)
   refine List.Sublist.append ?_ (List.Sublist.refl _)
   exact List.Sublist.map _ (List.Sublist.append (List.Sublist.refl _) (List.sublist_cons_self _ _))
 · refine h.ok c ?_
   rcases List.mem_append.1 hc with hc|hc
   · obtain ⟨q,hq,rfl⟩:=List.mem_map.1 hc
     exact List.mem_append_left _ (List.mem_map.2 ⟨q,sub q hq,rfl⟩)
   · exact List.mem_append_right _ hc
def CHI (N:Nat) (s:PSt) (S:Int→Prop):Prop:= ∀v:Int,1≤v→v≤N→s.val v=0→S v
theorem CHI.run {S:Int→Prop} (h:CHI N s S) (k:CSI N cs s hv un) (e:Ext s s') (g':Good s'):CHI N s' S:=by
 intro v v1 v2 h0
 have hx:InV s.vars v:=⟨by omega,by rw [k.v];omega,by rw [k.v];omega⟩
 have hx':InV s'.vars v:=by rw [e.v];exact hx
 obtain ⟨a,b⟩:=(val0_iff g' hx').1 h0
 exact h v v1 v2 ((val0_iff k.g hx).2 ⟨fun m=>a (e.mem m),fun m=>b (e.mem m)⟩)
end
section
variable {w0 w w' w1 w2:World} {B N:Nat} {L L':Nat→Nat}
structure Hc where
 i:Nat
 sl:Sl
 c:List Int
 lv:Int
 sz:Int
 lk:Bool
def hcE (h:Hc):List Value:= [.int .i64 h.i,h.sl.v,.int .i64 h.lv,.int .i64 h.sz,.bool h.lk]
theorem hcEnc:Enc 5 hcE:=⟨fun _=>rfl,by omega,fun x v hv=>by
 simp only [hcE,List.mem_cons,List.not_mem_nil,or_false] at hv
 rcases hv with rfl|rfl|rfl|rfl|rfl<;>rfl⟩
abbrev Us:=Sl × List Int
abbrev Ps:=Bool × Sl × List Int
def psE (h:Ps):List Value:= [.bool h.1,h.2.1.v]
theorem psEnc:Enc 2 psE:=⟨fun _=>rfl,by omega,fun x v hv=>by
 simp only [psE,List.mem_cons,List.not_mem_nil,or_false] at hv
 rcases hv with rfl|rfl<;>rfl⟩
structure Me where
 n:Int
 f:Sl
 bud:Int
 uni:Int
 lrn:Int
 pu:Int
 pa:Int
 pl:Int
 went:Int
 ver:Int
 cf:Int
 de:Int
 re:Int
 dr:Int
structure Xs where
 m:Me
 pb:Nat
 hb:Nat
 php:Sl
 hs:Sl
 us:Sl
 ps:Sl
 ms:Sl
 s:PSt
 S:Int→Prop
 ph:List Int
 hv:List Hc
 un:List Us
 pr:List Ps
 mo:List Int
def Xs.cells (x:Xs):Array Value:= #[.int .i64 x.m.n,x.m.f.v,.int .i64 x.m.bud,.int .i64 x.m.uni,.int .i64 x.m.lrn,ptrV x.pb,ptrV x.hb,x.php.v,.int .i64 x.m.pu,.int .i64 x.m.pa,.int .i64 x.m.pl,
 x.hs.v,x.us.v,.int .i64 x.m.went,.int .i64 x.m.ver,x.ms.v,x.ps.v,.int .i64 x.m.cf,.int .i64 x.m.de,.int .i64 x.m.re,.int .i64 x.m.dr]
structure RO (w:World) (L:Nat→Nat) (s:Sl) (c:List Int):Prop where
 n:s.n=c.length
 v:Vw (Value.int .i64) w s.p c
 l: ∀k,blk s.p=some k→L k=9∧k<w.heap.size
structure SRb (E:Nat→Prop) (w0 w:World) (B:Nat) (L:Nat→Nat) (N:Nat) (x:Xs):Prop where
 g:Grow w0 w
 me: ¬E 1→Has w B x.cells
 ml:L B=1∧w0.heap.size≤B∧B<w.heap.size
 pm: ¬E 2→∃H,PM w x.pb H x.s∧∀y k,own x.pb H y=some k→L k=2∧w0.heap.size≤k
 hp: ¬E 3→∃z,Hp.HRep w x.hb z∧Hp.HGood z N∧(∀u:Int,1≤u→u≤N→(0<HeapP.g z.at_ u↔x.S u))∧∀k,z.foot x.hb k→L k=3∧w0.heap.size≤k
 ph: ¬E 4→OwI ty_int w x.php.p x.php.c x.ph∧x.php.n=x.ph.length∧∀k,blk x.php.p=some k→L k=4∧w0.heap.size≤k
 hv: ¬E 5→Row 5 hcE ty_cdcl_clause w x.hs.p x.hs.c x.hv∧x.hs.n=x.hv.length∧∀k,blk x.hs.p=some k→L k=5∧w0.heap.size≤k
 hr: ¬E 9→∀h∈x.hv,RO w L h.sl h.c
 un: ¬E 6→Ow Sl.v ty_sl_int w x.us.p x.us.c (x.un.map (·.1))∧x.us.n=x.un.length∧∀k,blk x.us.p=some k→L k=6∧w0.heap.size≤k
 ur: ¬E 9→∀u∈x.un,RO w L u.1 u.2
 pr: ¬E 7→Row 2 psE ty_api_Step w x.ps.p x.ps.c x.pr∧x.ps.n=x.pr.length∧∀k,blk x.ps.p=some k→L k=7∧w0.heap.size≤k
 rr: ¬E 9→∀u∈x.pr,RO w L u.2.1 u.2.2
 mo: ¬E 8→OwI ty_int w x.ms.p x.ms.c x.mo∧x.ms.n=x.mo.length∧∀k,blk x.ms.p=some k→L k=8∧w0.heap.size≤k
abbrev SR:=SRb fun _=>False
structure Chg (E:Nat→Prop) (w0 w w':World) (L L':Nat→Nat):Prop where
 mod:Mod (fun k=>E (L k)∧w0.heap.size≤k) w w'
 lab: ∀k,k<w.heap.size→L' k=L k
def reL (L:Nat→Nat) (n i:Nat):Nat→Nat:=fun k=>if k<n then L k else i
theorem reL_old {n i k:Nat} (h:k<n):reL L n i k=L k:=by unfold reL;rw [if_pos h]
theorem reL_new {n i k:Nat} (h:n≤k):reL L n i k=i:=by unfold reL;rw [if_neg (by omega)]
abbrev Kp:=Chg fun i=>i≠9
theorem Chg.trans {E:Nat→Prop} {L1:Nat→Nat} (h:Chg E w0 w w1 L L1) (k:Chg E w0 w1 w2 L1 L'):Chg E w0 w w2 L L':=
 ⟨h.mod.then k.mod fun b hb ⟨e,e2⟩=> ⟨by rw [← h.lab b hb];exact e,e2⟩,fun b hb=>by rw [k.lab b (Nat.lt_of_lt_of_le hb h.mod.size),h.lab b hb]⟩
theorem Chg.grow {E:Nat→Prop} (g:Grow w w'):Chg E w0 w w' L L:=⟨g.mono fun _ _ e=>e.elim,fun _ _=>rfl⟩
theorem Chg.new {E:Nat→Prop} (g:Grow w w') (i:Nat):Chg E w0 w w' L (reL L w.heap.size i):=⟨g.mono fun _ _ e=>e.elim,fun _ hk=>reL_old hk⟩
theorem Chg.weak {E E':Nat→Prop} (h:Chg E w0 w w' L L') (hE: ∀i,E i→E' i):Chg E' w0 w w' L L':=⟨h.mod.mono fun _ _ e=> ⟨hE _ e.1,e.2⟩,h.lab⟩
theorem RO.keep {s:Sl} {c:List Int} {E:Nat→Prop} (h:RO w L s c) (k:Chg E w0 w w' L L') (h9: ¬E 9):RO w' L' s c:=
 ⟨h.n,h.v.keep k.mod fun b hb ⟨e,_⟩=>h9 (by rw [← (h.l b hb).1];exact e),fun b hb=> ⟨by rw [k.lab b (h.l b hb).2];exact (h.l b hb).1,Nat.lt_of_lt_of_le (h.l b hb).2 k.mod.size⟩⟩
theorem SRb.chg {E E':Nat→Prop} {x:Xs} (h:SRb E w0 w B L N x) (k:Chg E' w0 w w' L L'):SRb (fun i=>E i∨E' i) w0 w' B L' N x:=by
 have nt: ∀ {i:Nat} {j:Nat},¬(E i∨E' i)→L j=i→¬(E' (L j)∧w0.heap.size≤j):=fun hi hj hc=>hi (.inr (by rw [← hj];exact hc.1))
 refine ⟨h.g.then k.mod fun b hb hc=>by omega,fun e=> (h.me fun e'=>e (.inl e')).keep k.mod (nt e h.ml.1),⟨by rw [k.lab B h.ml.2.2];exact h.ml.1,h.ml.2.1,Nat.lt_of_lt_of_le h.ml.2.2 k.mod.size⟩,fun e=> ?_,fun e=> ?_,fun e=> ?_,fun e=> ?_,fun e u hu=> (h.hr (fun e'=>e (.inl e')) u hu).keep k fun e'=>e (.inr e'),fun e=> ?_,fun e u hu=> (h.ur (fun e'=>e (.inl e')) u hu).keep k fun e'=>e (.inr e'),fun e=> ?_,fun e u hu=> (h.rr (fun e'=>e (.inl e')) u hu).keep k fun e'=>e (.inr e'),fun e=> ?_⟩
 · obtain ⟨H,h1,h2⟩:=h.pm fun e'=>e (.inl e')
   exact ⟨H,h1.keep k.mod fun y j hj=>nt e (h2 y j hj).1,fun y j hj=>by rw [k.lab j (h1.lt y j hj)];exact h2 y j hj⟩
 · obtain ⟨z,h1,h2,h3,h4⟩:=h.hp fun e'=>e (.inl e')
   exact ⟨z,h1.keep k.mod fun j hj=>nt e (h4 j hj).1,h2,h3,fun j hj=>by rw [k.lab j (h1.lt j hj)];exact h4 j hj⟩
 · obtain ⟨h1,h2,h3⟩:=h.ph fun e'=>e (.inl e')
   exact ⟨h1.keep k.mod fun j hj=>nt e (h3 j hj).1,h2,fun j hj=>by rw [k.lab j (h1.lt j hj)];exact h3 j hj⟩
 · obtain ⟨h1,h2,h3⟩:=h.hv fun e'=>e (.inl e')
   exact ⟨h1.keep k.mod fun j hj=>nt e (h3 j hj).1,h2,fun j hj=>by rw [k.lab j (h1.lt j hj)];exact h3 j hj⟩
 · obtain ⟨h1,h2,h3⟩:=h.un fun e'=>e (.inl e')
   exact ⟨h1.keep k.mod fun j hj=>nt e (h3 j hj).1,h2,fun j hj=>by rw [k.lab j (h1.lt j hj)];exact h3 j hj⟩
 · obtain ⟨h1,h2,h3⟩:=h.pr fun e'=>e (.inl e')
   exact ⟨h1.keep k.mod fun j hj=>nt e (h3 j hj).1,h2,fun j hj=>by rw [k.lab j (h1.lt j hj)];exact h3 j hj⟩
 · obtain ⟨h1,h2,h3⟩:=h.mo fun e'=>e (.inl e')
   exact ⟨h1.keep k.mod fun j hj=>nt e (h3 j hj).1,h2,fun j hj=>by rw [k.lab j (h1.lt j hj)];exact h3 j hj⟩
section
variable {x:Xs}
theorem SRb.weak {E E':Nat→Prop} (h:SRb E w0 w B L N x) (hE: ∀i,E i→E' i):SRb E' w0 w B L N x:=
 ⟨h.g,fun e=>h.me fun c=>e (hE _ c),h.ml,fun e=>h.pm fun c=>e (hE _ c),fun e=>h.hp fun c=>e (hE _ c),fun e=>h.ph fun c=>e (hE _ c),fun e=>h.hv fun c=>e (hE _ c),fun e=>h.hr fun c=>e (hE _ c),fun e=>h.un fun c=>e (hE _ c),fun e=>h.ur fun c=>e (hE _ c),fun e=>h.pr fun c=>e (hE _ c),fun e=>h.rr fun c=>e (hE _ c),fun e=>h.mo fun c=>e (hE _ c)⟩
theorem SR.at (h:SR w0 w B L N x):Has w B x.cells:=h.me id
theorem SR.new (h:SR w0 w B L N x) (m:Grow w w') (i:Nat):SR w0 w' B (reL L w.heap.size i) N x:=
 (h.chg (E':=fun _=>False) ⟨m.mono fun _ _ e=>e.elim,fun _ hk=>reL_old hk⟩).weak fun _ e=>e.elim id id
theorem SR.grow (h:SR w0 w B L N x) (m:Grow w w'):SR w0 w' B L N x:=
 (h.chg (E':=fun _=>False) ⟨m.mono fun _ _ e=>e.elim,fun _ hk=>rfl⟩).weak fun _ e=>e.elim id id
theorem SR.drew (h:SR w0 w B L N x):SR w0 w.drew B L N x:=h.grow (Mod.refl _).drew
theorem SR.one (h:SR w0 w B L N x) (i:Nat) (m:Mod (fun k=>L k=i∧w0.heap.size≤k) w w'):SRb (fun j=>j=i) w0 w' B (reL L w.heap.size i) N x:=
 (h.chg (E':=fun j=>j=i) ⟨m,fun _ hk=>reL_old hk⟩).weak fun _ e=>e.elim False.elim id
theorem SR.two (h:SR w0 w B L N x) (i:Nat) (m:Mod (fun k=>L k=i∧w0.heap.size≤k) w w1) (m2:Mod (·=B) w1 w'):SRb (fun j=>j=i∨j=1) w0 w' B (reL L w.heap.size i) N x:=by
 refine (h.chg (E':=fun j=>j=i∨j=1) ⟨?_,fun _ hk=>reL_old hk⟩).weak fun _ e=>e.elim False.elim id
 exact (m.mono fun k _ e=> ⟨.inl e.1,e.2⟩).then m2 fun k hk (e:k=B)=>by subst e;exact ⟨.inr h.ml.1,h.ml.2.1⟩
theorem ft_new {p q:Option Addr} {i:Nat} (h: ∀k,blk p=some k→L k=i∧w0.heap.size≤k) (hl: ∀k,blk p=some k→k<w.heap.size) (g:Grow w0 w) (hq: ∀k,blk q=some k→blk p=some k∨w.heap.size≤k):
 ∀k,blk q=some k→reL L w.heap.size i k=i∧w0.heap.size≤k:=by
 intro k hk
 rcases hq k hk with e|e
 · rw [reL_old (hl k e)];exact h k e
 · exact ⟨reL_new e,Nat.le_trans g.size e⟩
theorem SR.own (h:SR w0 w B L N x) {m':Me} (st:Has w' B {x with m:=m'}.cells) (m:Mod (·=B) w w'):(SR w0 w' B L N {x with m:=m'})∧Kp w0 w w' L L:=by
 have b:=(h.chg (E':=fun j=>j=1) (w':=w') (L':=L) ⟨m.mono fun k _ (e:k=B)=>by subst e;exact ⟨h.ml.1,h.ml.2.1⟩,fun _ _=>rfl⟩)
 exact ⟨⟨b.g,fun _=>st,b.ml,fun _=>b.pm (by simp),fun _=>b.hp (by simp),fun _=>b.ph (by simp),fun _=>b.hv (by simp),fun _=>b.hr (by simp),fun _=>b.un (by simp),fun _=>b.ur (by simp),fun _=>b.pr (by simp),fun _=>b.rr (by simp),fun _=>b.mo (by simp)⟩,⟨m.mono fun k _ (e:k=B)=>by subst e;exact ⟨by rw [h.ml.1];decide,h.ml.2.1⟩,fun _ _=>rfl⟩⟩
theorem SR.prop (h:SR w0 w B L N x) {H H':Pt→Sl} (hH: ∀y k,Go.Proofs.YtddffgjagppimaaGreat.W.own x.pb H y=some k→L k=2∧w0.heap.size≤k) (hlt: ∀y k,Go.Proofs.YtddffgjagppimaaGreat.W.own x.pb H y=some k→k<w.heap.size) {s':PSt} (p:Pw w w' x.pb H H' s'):(SR w0 w' B (reL L w.heap.size 2) N {x with s:=s'})∧Kp w0 w w' L (reL L w.heap.size 2):=by
 have b:=h.one 2 (p.mod.mono fun k _ ⟨y,e⟩=>hH y k e)
 refine ⟨⟨b.g,fun _=>b.me (by simp),b.ml,fun _=> ⟨H',p.pm,fun y k hk=> ?_⟩,fun _=>b.hp (by simp),fun _=>b.ph (by simp),fun _=>b.hv (by simp),fun _=>b.hr (by simp),fun _=>b.un (by simp),fun _=>b.ur (by simp),fun _=>b.pr (by simp),fun _=>b.rr (by simp),fun _=>b.mo (by simp)⟩,⟨p.mod.mono fun k _ ⟨y,e⟩=> ⟨by rw [(hH y k e).1];decide,(hH y k e).2⟩,fun _ hk=>reL_old hk⟩⟩
 rcases p.ft y k hk with ⟨z,e⟩|e
 · rw [reL_old (hlt z k e)];exact hH z k e
 · exact ⟨reL_new e,Nat.le_trans h.g.size e⟩
theorem SR.heap (h:SR w0 w B L N x) {z z':Hp.HS} (hz: ∀k,z.foot x.hb k→L k=3∧w0.heap.size≤k) (hlt: ∀k,z.foot x.hb k→k<w.heap.size) (r:Hp.HRep w' x.hb z') (gd:Hp.HGood z' N) {S':Int→Prop} (hS: ∀u:Int,1≤u→u≤N→(0<HeapP.g z'.at_ u↔S' u))
 (m:Mod (z.foot x.hb) w w') (hf: ∀k,z'.foot x.hb k→z.foot x.hb k∨w.heap.size≤k):(SR w0 w' B (reL L w.heap.size 3) N {x with S:=S'})∧Kp w0 w w' L (reL L w.heap.size 3):=by
 have b:=h.one 3 (m.mono fun k _ e=>hz k e)
 refine ⟨⟨b.g,fun _=>b.me (by simp),b.ml,fun _=>b.pm (by simp),fun _=> ⟨z',r,gd,hS,fun k hk=> ?_⟩,fun _=>b.ph (by simp),fun _=>b.hv (by simp),fun _=>b.hr (by simp),fun _=>b.un (by simp),fun _=>b.ur (by simp),fun _=>b.pr (by simp),fun _=>b.rr (by simp),fun _=>b.mo (by simp)⟩,⟨m.mono fun k _ e=> ⟨by rw [(hz k e).1];decide,(hz k e).2⟩,fun _ hk=>reL_old hk⟩⟩
 rcases hf k hk with e|e
 · rw [reL_old (hlt k e)];exact hz k e
 · exact ⟨reL_new e,Nat.le_trans h.g.size e⟩
theorem SR.phase (h:SR w0 w B L N x) {l':List Int} (hl:l'.length=x.ph.length) (o:OwI ty_int w' x.php.p x.php.c l') (m:Mod (fun k=>blk x.php.p=some k) w w'):(SR w0 w' B (reL L w.heap.size 4) N {x with ph:=l'})∧Kp w0 w w' L (reL L w.heap.size 4):=by
 obtain ⟨p1,p2,p3⟩:=h.ph id
 have b:=h.one 4 (m.mono fun k _ e=>p3 k e)
 exact ⟨⟨b.g,fun _=>b.me (by simp),b.ml,fun _=>b.pm (by simp),fun _=>b.hp (by simp),fun _=> ⟨o,by rw [p2];exact hl.symm,ft_new p3 p1.lt h.g fun k e=> .inl e⟩,fun _=>b.hv (by simp),fun _=>b.hr (by simp),fun _=>b.un (by simp),fun _=>b.ur (by simp),fun _=>b.pr (by simp),fun _=>b.rr (by simp),fun _=>b.mo (by simp)⟩,⟨m.mono fun k _ e=> ⟨by rw [(p3 k e).1];decide,(p3 k e).2⟩,fun _ hk=>reL_old hk⟩⟩
theorem RO.re {s:Sl} {c:List Int} {i:Nat} (h:RO w L s c) {E:Nat→Prop} (m:Mod (fun k=>E (L k)∧w0.heap.size≤k) w w') (h9: ¬E 9):RO w' (reL L w.heap.size i) s c:=h.keep ⟨m,fun _ hk=>reL_old hk⟩ h9
theorem SR.have_ (h:SR w0 w B L N x) {q:Sl} {hv':List Hc} (m:Mod (fun k=>blk x.hs.p=some k) w w1) (r:Row 5 hcE ty_cdcl_clause w1 q.p q.c hv') (hq:q.n=hv'.length) (hf: ∀k,blk q.p=some k→blk x.hs.p=some k∨w.heap.size≤k)
 (hro: ∀u∈hv',RO w L u.sl u.c) (st:Has w2 B {x with hs:=q,hv:=hv'}.cells) (m2:Mod (·=B) w1 w2) (hB:blk q.p≠some B):(SR w0 w2 B (reL L w.heap.size 5) N {x with hs:=q,hv:=hv'})∧Kp w0 w w2 L (reL L w.heap.size 5):=by
 obtain ⟨p1,p2,p3⟩:=h.hv id
 have b:=h.two 5 (m.mono fun k _ e=>p3 k e) m2
 have mm:Mod (fun k=> (L k=5∨L k=1)∧w0.heap.size≤k) w w2:=(m.mono fun k _ e=> ⟨.inl (p3 k e).1,(p3 k e).2⟩).then m2 fun k hk (e:k=B)=>by subst e;exact ⟨.inr h.ml.1,h.ml.2.1⟩
 exact ⟨⟨b.g,fun _=>st,b.ml,fun _=>b.pm (by simp),fun _=>b.hp (by simp),fun _=>b.ph (by simp),fun _=> ⟨r.keep m2 fun k hk (e:k=B)=>hB (by rw [← e];exact hk),hq,ft_new p3 p1.lt h.g hf⟩,fun _ u hu=> (hro u hu).re (E:=fun j=>j=5∨j=1) mm (by simp),fun _=>b.un (by simp),fun _=>b.ur (by simp),fun _=>b.pr (by simp),fun _=>b.rr (by simp),fun _=>b.mo (by simp)⟩,⟨(m.mono fun k _ e=> ⟨by rw [(p3 k e).1];decide,(p3 k e).2⟩).then m2 fun k hk (e:k=B)=>by subst e;exact ⟨by rw [h.ml.1];decide,h.ml.2.1⟩,fun _ hk=>reL_old hk⟩⟩
theorem SR.unit_ (h:SR w0 w B L N x) {q:Sl} {un':List Us} (m:Mod (fun k=>blk x.us.p=some k) w w1) (r:Ow Sl.v ty_sl_int w1 q.p q.c (un'.map (·.1))) (hq:q.n=un'.length) (hf: ∀k,blk q.p=some k→blk x.us.p=some k∨w.heap.size≤k)
 (hro: ∀u∈un',RO w L u.1 u.2) (st:Has w2 B {x with us:=q,un:=un'}.cells) (m2:Mod (·=B) w1 w2) (hB:blk q.p≠some B):(SR w0 w2 B (reL L w.heap.size 6) N {x with us:=q,un:=un'})∧Kp w0 w w2 L (reL L w.heap.size 6):=by
 obtain ⟨p1,p2,p3⟩:=h.un id
 have b:=h.two 6 (m.mono fun k _ e=>p3 k e) m2
 have mm:Mod (fun k=> (L k=6∨L k=1)∧w0.heap.size≤k) w w2:=(m.mono fun k _ e=> ⟨.inl (p3 k e).1,(p3 k e).2⟩).then m2 fun k hk (e:k=B)=>by subst e;exact ⟨.inr h.ml.1,h.ml.2.1⟩
 exact ⟨⟨b.g,fun _=>st,b.ml,fun _=>b.pm (by simp),fun _=>b.hp (by simp),fun _=>b.ph (by simp),fun _=>b.hv (by simp),fun _=>b.hr (by simp),fun _=> ⟨r.keep m2 fun k hk (e:k=B)=>hB (by rw [← e];exact hk),hq,ft_new p3 p1.lt h.g hf⟩,fun _ u hu=> (hro u hu).re (E:=fun j=>j=6∨j=1) mm (by simp),fun _=>b.pr (by simp),fun _=>b.rr (by simp),fun _=>b.mo (by simp)⟩,⟨(m.mono fun k _ e=> ⟨by rw [(p3 k e).1];decide,(p3 k e).2⟩).then m2 fun k hk (e:k=B)=>by subst e;exact ⟨by rw [h.ml.1];decide,h.ml.2.1⟩,fun _ hk=>reL_old hk⟩⟩
theorem SR.proof (h:SR w0 w B L N x) {q:Sl} {pr':List Ps} (m:Mod (fun k=>blk x.ps.p=some k) w w1) (r:Row 2 psE ty_api_Step w1 q.p q.c pr') (hq:q.n=pr'.length) (hf: ∀k,blk q.p=some k→blk x.ps.p=some k∨w.heap.size≤k)
 (hro: ∀u∈pr',RO w L u.2.1 u.2.2) (st:Has w2 B {x with ps:=q,pr:=pr'}.cells) (m2:Mod (·=B) w1 w2) (hB:blk q.p≠some B):(SR w0 w2 B (reL L w.heap.size 7) N {x with ps:=q,pr:=pr'})∧Kp w0 w w2 L (reL L w.heap.size 7):=by
 obtain ⟨p1,p2,p3⟩:=h.pr id
 have b:=h.two 7 (m.mono fun k _ e=>p3 k e) m2
 have mm:Mod (fun k=> (L k=7∨L k=1)∧w0.heap.size≤k) w w2:=(m.mono fun k _ e=> ⟨.inl (p3 k e).1,(p3 k e).2⟩).then m2 fun k hk (e:k=B)=>by subst e;exact ⟨.inr h.ml.1,h.ml.2.1⟩
 exact ⟨⟨b.g,fun _=>st,b.ml,fun _=>b.pm (by simp),fun _=>b.hp (by simp),fun _=>b.ph (by simp),fun _=>b.hv (by simp),fun _=>b.hr (by simp),fun _=>b.un (by simp),fun _=>b.ur (by simp),fun _=> ⟨r.keep m2 fun k hk (e:k=B)=>hB (by rw [← e];exact hk),hq,ft_new p3 p1.lt h.g hf⟩,fun _ u hu=> (hro u hu).re (E:=fun j=>j=7∨j=1) mm (by simp),fun _=>b.mo (by simp)⟩,⟨(m.mono fun k _ e=> ⟨by rw [(p3 k e).1];decide,(p3 k e).2⟩).then m2 fun k hk (e:k=B)=>by subst e;exact ⟨by rw [h.ml.1];decide,h.ml.2.1⟩,fun _ hk=>reL_old hk⟩⟩
theorem SR.model (h:SR w0 w B L N x) {q:Sl} {mo':List Int} (m:Mod (fun k=>blk x.ms.p=some k) w w1) (r:OwI ty_int w1 q.p q.c mo') (hq:q.n=mo'.length) (hf: ∀k,blk q.p=some k→blk x.ms.p=some k∨w.heap.size≤k)
 (st:Has w2 B {x with ms:=q,mo:=mo'}.cells) (m2:Mod (·=B) w1 w2) (hB:blk q.p≠some B):(SR w0 w2 B (reL L w.heap.size 8) N {x with ms:=q,mo:=mo'})∧Kp w0 w w2 L (reL L w.heap.size 8):=by
 obtain ⟨p1,p2,p3⟩:=h.mo id
 have b:=h.two 8 (m.mono fun k _ e=>p3 k e) m2
 exact ⟨⟨b.g,fun _=>st,b.ml,fun _=>b.pm (by simp),fun _=>b.hp (by simp),fun _=>b.ph (by simp),fun _=>b.hv (by simp),fun _=>b.hr (by simp),fun _=>b.un (by simp),fun _=>b.ur (by simp),fun _=>b.pr (by simp),fun _=>b.rr (by simp),fun _=> ⟨r.keep m2 fun k hk (e:k=B)=>hB (by rw [← e];exact hk),hq,ft_new p3 p1.lt h.g hf⟩⟩,⟨(m.mono fun k _ e=> ⟨by rw [(p3 k e).1];decide,(p3 k e).2⟩).then m2 fun k hk (e:k=B)=>by subst e;exact ⟨by rw [h.ml.1];decide,h.ml.2.1⟩,fun _ hk=>reL_old hk⟩⟩
theorem SR.neB (h:SR w0 w B L N x) {p q:Option Addr} {i:Nat} (hi:i≠1) (hp: ∀k,blk p=some k→L k=i∧w0.heap.size≤k) (hq:q=p∨q=some ⟨w1.heap.size,0,none⟩) (g:w.heap.size≤w1.heap.size):blk q≠some B:=by
 intro e
 rcases hq with rfl|rfl
 · have:=(hp B e).1;rw [h.ml.1] at this;exact hi this.symm
 · have:w1.heap.size=B:=by simpa [blk] using e
   have:=h.ml.2.2;omega
theorem fr_of {p q:Option Addr} (hq:q=p∨q=some ⟨w1.heap.size,0,none⟩) (g:w.heap.size≤w1.heap.size): ∀k,blk q=some k→blk p=some k∨w.heap.size≤k:=by
 intro k hk
 rcases hq with rfl|rfl
 · exact .inl hk
 · have:w1.heap.size=k:=by simpa [blk] using hk
   exact .inr (by omega)
end
end
section
variable {w0 w w' w1 w2:World} {B N:Nat} {L L':Nat→Nat} {x:Xs} {l:List Int}
theorem sl_stepC:slOkN prog ty_sl_api_Step ty_api_Step 2 32=true:=by kernel_rfl
theorem ps_vr {u:Ps} {b:Nat} (h:Has w b #[.bool u.1,u.2.1.v]):Vr 2 psE w (some ⟨b,0,none⟩) [u]:=by
 intro j hj
 have:j=0:=by simpa using hj
 subst this
 exact ⟨_,rfl,cell_add h rfl,cell_add h rfl,trivial⟩
theorem told_app (h:SR w0 w B L N x) (hp:x.pr.length≤1000000000) (del:Bool) {sl:Sl} (ro:RO w L sl l) {b:Nat} (hb:Has w b #[.bool del,sl.v]) {K:World→Prop}
 (hk: ∀w' L' q,SR w0 w' B L' N {x with ps:=q,pr:=x.pr++ [(del,sl,l)]}→Kp w0 w w' L L'→K w'):
 ∃w8 r9p r9n r9c,(Builtin.append_ #[34,34] 34 #[.slice x.ps.p x.ps.n x.ps.c,.slice (some (Addr.mk b 0 none)) 1 1]).run prog w= .ok (.slice r9p r9n r9c) w8∧
  ∃a10,(some (Addr.mk B 0 none))=some a10∧∃w11,StoreAt ((a10.add 14).add 2) 0 [.slice r9p r9n r9c] w8 w11∧K w11:=by
 obtain ⟨r1,r2,r3⟩:=h.pr id
 refine Row.app psEnc sl_stepC r1 (ps_vr (u:=(del,sl,l)) hb) r2 rfl (by simp;omega) fun w8 p' c' o8 m8 hp' hz'=> ⟨_,rfl,?_⟩
 have hB8:Has w8 B x.cells:=h.at.keep m8 fun e=>by have:=(r3 B e).1;rw [h.ml.1] at this;exact absurd this (by decide)
 refine store_f2 hB8 rfl rfl fun w11 h11 m11=> ?_
 have:=h.proof (q:=⟨p',(x.pr++ [(del,sl,l)]).length,c'⟩) (pr':=x.pr++ [(del,sl,l)]) m8 o8 rfl (fr_of hp' (Nat.le_refl _)) (fun u hu=>by
  rcases List.mem_append.1 hu with hu|hu
  · exact h.rr id u hu
  · rw [List.mem_singleton] at hu;subst hu;exact ro) h11 m11 (h.neB (by decide) r3 hp' (Nat.le_refl _))
 exact hk _ _ _ this.1 this.2
theorem told_ok (h:SR w0 w B L N x) (hp:x.pr.length≤1000000000) {p:Option Addr} {n c:Nat} (hv:Vw (Value.int .i64) w p l) (hn:n=l.length) (hx:n≤1000000):
 Calls prog cdcl_search_told.id #[ptrV B,.slice p n c] w fun e w'=>e= .returned (.tuple #[])∧∃L' q sl,SR w0 w' B L' N {x with ps:=q,pr:=x.pr++ [(false,sl,l)]}∧Kp w0 w w' L L':=by
 refine cdcl_search_told.calls ?_
 have D:=h.drew
 refine ⟨fun u=>Grow w.drew u,Mod.refl _,_,rfl,_,_,_,fun u g=>cell_add2 (D.at.grow g) rfl,(clone_ok hv.drew hn hx).mono ?_⟩
 rintro e w4 ⟨q,d,rfl,o4,g4,f4⟩
 refine ⟨_,_,_,rfl,g4,fun n6 w7 h7=> ?_⟩
 have G7:=g4.trans h7.mod
 refine ⟨G7,?_⟩
 have S7:=D.new G7 9
 have ro:RO w7 (reL L w.drew.heap.size 9) ⟨q,l.length,d⟩ l:=⟨rfl,(o4.grow h7.mod).vw,fun k hk=> ⟨reL_new (f4 k hk),Nat.lt_of_lt_of_le (o4.lt k hk) h7.mod.size⟩⟩
 refine told_app S7 hp false ro h7.has fun w' L' q' S' k'=> ⟨rfl,L',q',_,S',?_⟩
 exact ((Chg.grow (Mod.refl w).drew).trans (Chg.new G7 9)).trans k'
end
section
variable {w0 w w' w1 w2:World} {B N:Nat} {L L':Nat→Nat} {x:Xs} {l:List Int}
theorem imax_amt {y:Int} (h1: -1048576≤y) (h2:y≤1048576):imax y (i64.wrap (0 - y))=amt y:=by
 rw [wrap64_of (by omega) (by omega)]
 unfold imax amt
 split<;>split<;>omega
theorem blk_addm {q:Option Addr} {i:Nat}:blk (q.map (·.add i))=blk q:=by
 cases q with
 |none=>rfl
 |some a=>simp [blk,add_block]
structure R9 (w:World) (L:Nat→Nat) (p:Option Addr):Prop where
 l: ∀k,blk p=some k→L k=9∧k<w.heap.size
theorem Chg.r9 (k:Kp w0 w w' L L') {p:Option Addr} (r:R9 w L p):R9 w' L' p:=⟨fun b hb=> ⟨by rw [k.lab b (r.l b hb).2];exact (r.l b hb).1,Nat.lt_of_lt_of_le (r.l b hb).2 k.mod.size⟩⟩
theorem Chg.no (k:Kp w0 w w' L L') {p:Option Addr} (r:R9 w L p): ∀b,blk p=some b→¬(L b≠9∧w0.heap.size≤b):=fun b hb e=>e.1 (r.l b hb).1
theorem Chg.vw (k:Kp w0 w w' L L') {p:Option Addr} {α:Type} {f:α→Value} {m:List α} (v:Vw f w p m) (r:R9 w L p):Vw f w' p m:=v.keep k.mod (k.no r)
theorem Chg.has (k:Kp w0 w w' L L') {b:Nat} {cs:Array Value} (h:Has w b cs) (r:L b=9):Has w' b cs:=h.keep k.mod fun e=>e.1 r
theorem Chg.ro (k:Kp w0 w w' L L') {s:Sl} {c:List Int} (h:RO w L s c):RO w' L' s c:=RO.keep h k (by simp)
theorem Kp.refl:Kp w0 w w L L:=Chg.grow (Mod.refl w)
theorem SR.push (h:SR w0 w B L N x) {v:Int} (h1:1≤v) (h2:v≤N):Calls prog heap_Heap_Push.id #[Hp.ptr x.hb,.int .i64 v] w fun e w'=> ∃r:Int,e= .returned (.int .i64 r)∧
 ∃L',SR w0 w' B L' N {x with S:=fun u=>x.S u∨u=v}∧Kp w0 w w' L L':=by
 obtain ⟨z,z1,z2,z3,z4⟩:=h.hp id
 refine (Hp.push_ok z1 z2 v ⟨h1,h2⟩).mono ?_
 rintro e w' ⟨rfl,y,y1,y2,y3,y4,y5⟩
 have:=h.heap z4 z1.lt y1 y2 (S':=fun u=>x.S u∨u=v) (fun u u1 u2=>by rw [y3.has u u1 u2,z3 u u1 u2]) y4 y5
 exact ⟨_,rfl,_,this.1,this.2⟩
theorem SR.trail (h:SR w0 w B L N x) (g:Good x.s) (hN:x.s.vars≤1000000):Calls prog prop_Prop_Trail.id #[ptrV x.pb] w fun e w'=> ∃ (q:Option Addr) (d:Nat),e= .returned (.slice q (x.s.R .tr).length d)∧OwI ty_int w' q d (x.s.R .tr)∧Grow w w'∧
 ∃L',SR w0 w' B L' N x∧Kp w0 w w' L L'∧R9 w' L' q:=by
 obtain ⟨H,pm,_⟩:=h.pm id
 have:=g.trl
 refine (trail_ok pm (by omega)).mono ?_
 rintro e w' ⟨q,d,rfl,o,g',f⟩
 exact ⟨q,d,rfl,o,g',_,h.new g' 9,Chg.new g' 9,⟨fun k hk=> ⟨reL_new (f k hk),o.lt k hk⟩⟩⟩
def backTo (s:PSt) (lev:Int):PSt:=if (max 0 lev).toNat< (s.R .be).length then s.back (max 0 lev).toNat else s
theorem backTo_good {s:PSt} (g:Good s) (lev:Int):Good (backTo s lev):=by
 unfold backTo
 split
 · exact back_good g (by assumption)
 · exact g
theorem backTo_tr {s:PSt} (lev:Int): ∃k,(backTo s lev).R .tr=(s.R .tr).take k∧(backTo s lev).vars=s.vars:=by
 unfold backTo
 split
 · exact ⟨_,back_tr,rfl⟩
 · exact ⟨_,List.take_length.symm,rfl⟩
theorem SR.goback (h:SR w0 w B L N x) (g:Good x.s) (lev:Int):Calls prog prop_Prop_Back.id #[ptrV x.pb,.int .i64 lev] w fun e w'=>e= .returned (.tuple #[])∧∃L',SR w0 w' B L' N {x with s:=backTo x.s lev}∧Kp w0 w w' L L':=by
 obtain ⟨H,pm,hl⟩:=h.pm id
 refine (back_ok pm g lev).mono ?_
 rintro e w' ⟨rfl,H',p⟩
 have:=h.prop hl pm.lt p
 exact ⟨rfl,_,this.1,this.2⟩
theorem cback_ok (h:SR w0 w B L N x) (g:Good x.s) (hv:x.s.vars=N) (hN:N≤1000) (hph:x.ph.length=N+1) (lev:Int):Calls prog cdcl_search_back.id #[ptrV B,.int .i64 lev] w fun e w'=>e= .returned (.tuple #[])∧
 ∃L' S' ph',SR w0 w' B L' N {x with s:=backTo x.s lev,S:=S',ph:=ph'}∧Kp w0 w w' L L'∧ph'.length=N+1∧(∀v,x.S v→S' v)∧∀y∈x.s.R .tr,y ∉ (backTo x.s lev).R .tr→S' (amt y):=by
 refine cdcl_search_back.calls ⟨_,rfl,_,cell_add h.at rfl,(h.trail g (by omega)).mono ?_⟩
 rintro e w3 ⟨q,d,rfl,o3,g3,L3,S3,k3,r3⟩
 refine ⟨_,_,_,rfl,_,rfl,_,cell_add S3.at rfl,(S3.goback g lev).mono ?_⟩
 rintro e w7 ⟨rfl,L7,S7,k7⟩
 obtain ⟨kk,ek,ev⟩:=backTo_tr (s:=x.s) lev
 refine ⟨rfl,_,rfl,_,cell_add S7.at rfl,(S7.trail (backTo_good g lev) (by show (backTo x.s lev).vars≤_;omega)).mono ?_⟩
 rintro e w10 ⟨q2,d2,rfl,o10,g10,L10,S10,k10,r10⟩
 refine ⟨_,_,_,rfl,?_⟩
 have S10:SR w0 w10 B L10 N {x with s:=backTo x.s lev}:=S10
 have hle:((backTo x.s lev).R .tr).length≤(x.s.R .tr).length:=by rw [ek,List.length_take];omega
 have K10:=k7.trans k10
 have hcap:=o3.cap
 have hd:(x.s.R .tr).length≤d:=by
  rcases o3.un with ⟨_,_,e⟩| ⟨_,_,_,_,h1,_⟩
  · rw [e];exact Nat.zero_le _
  · exact h1
 obtain ⟨m,em⟩: ∃m,((backTo x.s lev).R .tr).length=m:=⟨_,rfl⟩
 rw [em] at hle
 show slK q (x.s.R .tr).length d 1 (some ((((backTo x.s lev).R .tr).length:Nat):Int)) none none _
 rw [em]
 obtain ⟨D,hD⟩: ∃D,D=(x.s.R .tr).drop m:=⟨_,rfl⟩
 have V3:Vw (Value.int .i64) w3 (q.map (·.add (m*1))) D:=by
  have:=o3.vw.part (i:=m) (m:=(x.s.R .tr).length - m) (by omega)
  rw [List.take_of_length_le (by rw [List.length_drop];omega)] at this
  rw [hD];exact this
 have htl:=g.trl
 have lD:D.length=(x.s.R .tr).length - m:=by rw [hD,List.length_drop]
 have V3':Vw (Value.int .i64) w3 (if d=m then q else q.map (·.add (m*1))) D:=by
  by_cases e:d=m
  · have:D= []:=List.eq_nil_of_length_eq_zero (by omega)
    rw [this];exact Vw.nil
  · rw [if_neg e];exact V3
 have R3:R9 w3 L3 (if d=m then q else q.map (·.add (m*1))):=by
  by_cases e:d=m
  · rw [if_pos e];exact r3
  · rw [if_neg e];exact ⟨fun b hb=>r3.l b (by rw [blk_addm] at hb;exact hb)⟩
 have V10:=K10.vw V3' R3
 have R10:=K10.r9 R3
 refine slK_i m (x.s.R .tr).length d rfl rfl rfl (Nat.le_refl _) hd hle ?_
 have hDt: ∀y∈D,InV N y:=fun y hy=>by have:=g.tv y (by rw [hD] at hy;exact List.mem_of_mem_drop hy);rwa [hv] at this
 refine ⟨fun V u z=> ∃ (t:Nat) (L':Nat→Nat) (S':Int→Prop) (ph':List Int),V=t∧t≤D.length∧z=D.length - t∧SR w0 u B L' N {x with s:=backTo x.s lev,S:=S',ph:=ph'}∧Kp w0 w10 u L10 L'∧ph'.length=N+1∧(∀v,x.S v→S' v)∧∀j,j<t→S' (amt (D.getD j 0)),
  ⟨_,0,L10,x.S,x.ph,rfl,Nat.zero_le _,rfl,S10,Kp.refl,hph,fun _ h=>h,fun j hj=>by omega⟩,?_⟩
 rintro V u z _ ⟨t,L1,S1,ph1,rfl,ht,rfl,SS,kk1,hl1,hs1,hj1⟩
 refine cnd_i (fun r=> ?_) (fun r=> ?_)
 · have r:t<D.length:=by simp at r;omega
   have V1:=kk1.vw V10 R10
   refine V1.ix 0 (by omega) (by omega) (by omega) fun a ha=> ⟨_,ha,?_⟩
   rw [Int.toNat_natCast]
   obtain ⟨y,hy⟩: ∃y,D.getD t 0=y:=⟨_,rfl⟩
   have hym:y∈D:=by rw [← hy];simp [List.getD,r]
   have hiv:=hDt y hym
   have hb:=hiv.bd (by omega)
   have ha1:=hiv.amt
   obtain ⟨p1,p2,p3⟩:=SS.ph id
   have p2:x.php.n=ph1.length:=p2
   rw [hy]
   refine ⟨_,rfl,_,_,_,cell_add SS.at rfl,?_⟩
   rw [imax_amt hb.1 hb.2]
   refine p1.st (i:=amt y) (n:=x.php.n) y rfl rfl (by omega) p2 (by omega) fun w23 o23 m23=> ?_
   have Q:=SS.phase (by show (ph1.set _ _).length=ph1.length;simp) o23 m23
   refine ⟨_,rfl,_,cell_add Q.1.at rfl,(Q.1.push (v:=amt y) (by omega) (by omega)).mono ?_⟩
   rintro e w26 ⟨r27,rfl,L26,S26,k26⟩
   refine ⟨_,rfl,_,?_,t+1,L26,_,_,wN (by omega) (by omega),by omega,rfl,S26,(kk1.trans Q.2).trans k26,by simp [hl1],fun v hv=> .inl (hs1 v hv),fun j hj=> ?_⟩
   · omega
   · by_cases e:j=t
     · subst e;rw [hy];exact .inr rfl
     · exact .inl (hj1 j (by omega))
 · have r:t=D.length:=by simp at r;omega
   refine ⟨rfl,L1,S1,ph1,SS,(k3.trans K10).trans kk1,hl1,hs1,fun y hy hn=> ?_⟩
   have hyD:y∈D:=by
    have em2:m=((x.s.R .tr).take kk).length:=by rw [← ek,em]
    have hk:(x.s.R .tr).take kk=(x.s.R .tr).take m:=by
     rw [List.length_take] at em2
     rw [em2,List.take_eq_take_iff]
     omega
    rw [ek,hk] at hn
    rw [hD]
    have:=List.take_append_drop m (x.s.R .tr)
    rw [← this] at hy
    rcases List.mem_append.1 hy with hy|hy
    · exact absurd hy hn
    · exact hy
   obtain ⟨j,hj,ej⟩:=List.mem_iff_getElem.1 hyD
   have:=hj1 j (by omega)
   rw [show D.getD j 0=y by simp [List.getD,hj,ej]] at this
   exact this
end
section
variable {w0 w w' w1 w2:World} {B N:Nat} {L L':Nat→Nat} {x:Xs} {l:List Int}
structure HO (w0 w:World) (L:Nat→Nat) (N:Nat) (hb:Nat) (S:Int→Prop) (z:Hp.HS):Prop where
 r:Hp.HRep w hb z
 g:Hp.HGood z N
 m: ∀u:Int,1≤u→u≤N→(0<HeapP.g z.at_ u↔S u)
 f: ∀k,z.foot hb k→L k=3∧w0.heap.size≤k
theorem SR.pop (h:SR w0 w B L N x) {z:Hp.HS} (o:HO w0 w L N x.hb x.S z):Calls prog heap_Heap_Pop.id #[Hp.ptr x.hb] w fun e w'=>
 (z.l.length=0∧e= .returned (.tuple #[.int .i64 0,.bool false])∧Grow w w')∨
 ∃v:Int,e= .returned (.tuple #[.int .i64 v,.bool true])∧1≤v∧v≤N∧x.S v∧∃L' z',SR w0 w' B L' N {x with S:=fun u=>x.S u∧u≠v}∧Kp w0 w w' L L'∧HO w0 w' L' N x.hb (fun u=>x.S u∧u≠v) z'∧z'.l.length+1=z.l.length:=by
 by_cases h0:z.l.length=0
 · refine (Hp.pop_no o.r h0).mono ?_
   rintro e w' ⟨rfl,_,g⟩
   exact .inl ⟨h0,rfl,g⟩
 · refine (Hp.pop_ok o.r o.g h0).mono ?_
   rintro e w' ⟨rfl,z',y1,y2,y3,y4,y5,y6⟩
   have hf:=o.g.ok.pos.fit 0 (by omega) (by omega)
   have hm: ∀u:Int,1≤u→u≤N→(0<HeapP.g z'.at_ u↔x.S u∧u≠HeapP.g z.l 0):=fun u u1 u2=>by rw [y3.has u u1 u2,o.m u u1 u2]
   have:=h.heap o.f o.r.lt y1 y2 hm y5 (fun k hk=> .inl (by rw [← y6];exact hk))
   refine .inr ⟨_,rfl,hf.1,hf.2.1,(o.m _ hf.1 hf.2.1).1 (by rw [hf.2.2];omega),_,z',this.1,this.2,⟨y1,y2,hm,fun k hk=> ?_⟩,y4⟩
   rw [y6] at hk
   rw [reL_old (o.r.lt k hk)];exact o.f k hk
theorem SR.value (h:SR w0 w B L N x) (g:Good x.s) (v:Int):Calls prog prop_Prop_Value.id #[ptrV x.pb,.int .i64 v] w fun e w'=>e= .returned (.int .i64 (x.s.value v))∧Grow w w':=by
 obtain ⟨H,pm,_⟩:=h.pm id
 exact value_ok pm g.wf v
theorem value_in {s:PSt} (g:Good s) {v:Int} (hv:InV s.vars v):s.value v=s.val v:=by
 unfold PSt.value
 rw [if_pos ((isB_iff g.vmax).2 hv)]
theorem SR.decide_ (h:SR w0 w B L N x) (g:Good x.s) {v:Int} (hv:InV x.s.vars v) (h0:x.s.val v=0):Calls prog prop_Prop_Decide.id #[ptrV x.pb,.int .i64 v] w fun e w'=> ∃r:Int,e= .returned (.int .i64 r)∧∃L',SR w0 w' B L' N {x with s:=x.s.decide v}∧Kp w0 w w' L L':=by
 obtain ⟨H,pm,hl⟩:=h.pm id
 refine (decide_ok pm g v).mono ?_
 rintro e w' ⟨r,rfl,H',⟨_,_,_,p⟩| ⟨_,hn,_⟩⟩
 · have:=h.prop hl pm.lt p
   exact ⟨_,rfl,_,this.1,this.2⟩
 · exact absurd ⟨hv,h0⟩ hn
theorem dec_end (h:SR w0 w B L N x) {K:World→Prop} (hk: ∀w',SR w0 w' B L N {x with m:= {x.m with de:=i64.wrap (x.m.de+1)}}→Kp w0 w w' L L→K w'):
 ∃a22,(some (Addr.mk B 0 none))=some a22∧∃x23,w.cell? ((a22.add 14).add 4)=some (.int .i64 x23)∧
  ∃a24,(some (Addr.mk B 0 none))=some a24∧∃w25,StoreAt ((a24.add 14).add 4) 0 [.int .i64 (i64.wrap (x23+ (1:Int)))] w w25∧K w25:=by
 refine ⟨_,rfl,_,cell_add2 h.at rfl,_,rfl,?_⟩
 refine store_f2 h.at rfl rfl fun w25 h25 m25=> ?_
 have:=h.own (m':= {x.m with de:=i64.wrap (x.m.de+1)}) h25 m25
 exact hk _ this.1 this.2
theorem decide_val {s:PSt} {v u:Int} (g:Good s) (hv:InV s.vars v) (h0:s.val v=0) (hu:InV s.vars u):(s.decide v).val u=0→s.val u=0∧amt u≠amt v:=by
 intro h
 have g':=decide_good g hv h0
 obtain ⟨a,b⟩:=(val0_iff g' (x:=u) hu).1 h
 rw [decide_tr] at a b
 refine ⟨(val0_iff g hu).2 ⟨fun m=>a (List.mem_append_left _ m),fun m=>b (List.mem_append_left _ m)⟩,fun e=> ?_⟩
 rcases amt_eq e with e|e
 · subst e;exact a (by simp)
 · subst e;rw [Int.neg_neg] at b;exact b (by simp)
theorem cdecide_ok (h:SR w0 w B L N x) (g:Good x.s) (hv:x.s.vars=N) (hN:N≤1000) (hph:x.ph.length=N+1) (hi:CHI N x.s x.S):Calls prog cdcl_search_decide.id #[ptrV B] w fun e w'=> ∃r:Bool,e= .returned (.bool r)∧
 ∃L' S',Kp w0 w w' L L'∧((r=false∧(∀v:Int,1≤v→v≤N→x.s.val v≠0)∧SR w0 w' B L' N {x with S:=S'})∨
  (r=true∧∃v,InV N v∧x.s.val v=0∧CHI N (x.s.decide v) S'∧SR w0 w' B L' N {x with s:=x.s.decide v,S:=S',m:= {x.m with de:=i64.wrap (x.m.de+1)}})):=by
 refine cdcl_search_decide.calls ?_
 obtain ⟨z0,z1,z2,z3,z4⟩:=h.hp id
 refine ⟨fun u k=> ∃L1 S1 z,SR w0 u B L1 N {x with S:=S1}∧Kp w0 w u L L1∧HO w0 u L1 N x.hb S1 z∧z.l.length=k∧CHI N x.s S1,⟨_,L,x.S,z0,h,Kp.refl,⟨z1,z2,z3,z4⟩,rfl,hi⟩,?_⟩
 rintro u k _ ⟨L1,S1,z,SS,kk,ho,rfl,hc⟩
 refine ⟨_,rfl,_,cell_add SS.at rfl,(SS.pop ho).mono ?_⟩
 rintro e w7 (⟨h0,rfl,g7⟩| ⟨v,rfl,v1,v2,hv1,L7,z7,S7,k7,o7,hz7⟩)
 · refine ⟨_,_,rfl,cnd_t rfl ⟨false,rfl,L1,S1,kk.trans (Chg.grow g7),.inl ⟨rfl,fun v v1 v2 h0'=> ?_,SS.grow g7⟩⟩⟩
   have hm:=(ho.m v v1 v2).2 (hc v v1 v2 h0')
   have:=(ho.g.ok.pos.back v v1 v2).2.1
   omega
 · have hin:InV x.s.vars v:=⟨by omega,by omega,by omega⟩
   refine ⟨_,_,rfl,cnd_f rfl ⟨_,rfl,_,cell_add S7.at rfl,(S7.value g v).mono ?_⟩⟩
   rintro e w12 ⟨rfl,g12⟩
   have hval:PSt.value x.s v=x.s.val v:=value_in g hin
   refine ⟨_,rfl,?_⟩
   show cnd (x.s.value v !=0) _ _
   rw [hval]
   have S12:=S7.grow g12
   refine cnd_i (fun r=> ?_) (fun r=> ?_)
   · have r:x.s.val v≠0:=by simpa using r
     refine ⟨_,?_,L7,_,z7,S12,(kk.trans k7).trans (Chg.grow g12),⟨o7.r.grow g12,o7.g,o7.m,o7.f⟩,rfl,fun u u1 u2 hu=> ⟨hc u u1 u2 hu,fun e=>r (by rw [← e];exact hu)⟩⟩
     omega
   · have r:x.s.val v=0:=by simpa using r
     obtain ⟨p1,p2,p3⟩:=S12.ph id
     have p2:x.php.n=x.ph.length:=p2
     have fin: ∀ {w':World} {L':Nat→Nat} {y:Int},amt y=v→InV x.s.vars y→x.s.val y=0→Kp w0 w w' L L'→SR w0 w' B L' N {x with s:=x.s.decide y,S:=fun u=>S1 u∧u≠v,m:= {x.m with de:=i64.wrap (x.m.de+1)}}→∃r:Bool,Ending.returned (.bool true)= .returned (.bool r)∧
      ∃L' S',Kp w0 w w' L L'∧((r=false∧(∀v:Int,1≤v→v≤N→x.s.val v≠0)∧SR w0 w' B L' N {x with S:=S'})∨
      (r=true∧∃v,InV N v∧x.s.val v=0∧CHI N (x.s.decide v) S'∧SR w0 w' B L' N {x with s:=x.s.decide v,S:=S',m:= {x.m with de:=i64.wrap (x.m.de+1)}})):=by
      intro w' L' y ey hy h0 kp sr
      refine ⟨true,rfl,L',_,kp,.inr ⟨rfl,y,by rw [← hv];exact hy,h0,fun u u1 u2 hu=> ?_,sr⟩⟩
      have hu':InV x.s.vars u:=⟨by omega,by omega,by omega⟩
      obtain ⟨a,b⟩:=decide_val g hy h0 hu' hu
      refine ⟨hc u u1 u2 a,fun e=>b ?_⟩
      rw [e,ey];unfold amt;rw [if_neg (by omega)]
     refine ⟨_,rfl,_,_,_,cell_add S12.at rfl,p1.ix 0 (by omega) p2 (by omega) fun a ha=> ⟨_,ha,?_⟩⟩
     have kk12:=(kk.trans k7).trans (Chg.grow g12)
     refine cnd_i (fun _=> ?_) (fun _=> ?_)
     · refine ⟨_,rfl,_,cell_add S12.at rfl,(S12.decide_ g hin r).mono ?_⟩
       rintro e w20 ⟨r21,rfl,L20,S20,k20⟩
       refine ⟨_,rfl,dec_end S20 fun w' S' k'=> ?_⟩
       exact fin (by unfold amt;rw [if_neg (by omega)]) hin r ((kk12.trans k20).trans k') S'
     · have ew:i64.wrap (0 - v)= -v:=by rw [wrap64_of (by omega) (by omega)];omega
       rw [ew]
       have hn0:x.s.val (-v)=0:=by rw [val_neg hin];omega
       refine ⟨_,rfl,_,cell_add S12.at rfl,(S12.decide_ g hin.neg hn0).mono ?_⟩
       rintro e w20 ⟨r21,rfl,L20,S20,k20⟩
       refine ⟨_,rfl,dec_end S20 fun w' S' k'=> ?_⟩
       exact fin (by unfold amt;rw [if_pos (by omega)];omega) hin.neg hn0 ((kk12.trans k20).trans k') S'
theorem sl_intC:slOk prog ty_sl_int ty_int 8=true:=by kernel_rfl
def modl (s:PSt) (n:Nat):List Int:=(List.range n).map fun i:Nat=>s.val ((i:Int)+1)
theorem modl_succ {s:PSt} {n:Nat}:modl s (n+1)=modl s n++ [s.val ((n:Int)+1)]:=by unfold modl;rw [List.range_succ,List.map_append];rfl
theorem csat_ok (h:SR w0 w B L N x) (g:Good x.s) (hv:x.s.vars=N) (hN:N≤1000) (hn:x.m.n=N) (hmo:x.mo= []):Calls prog cdcl_search_sat.id #[ptrV B] w fun e w'=>e= .returned (.tuple #[])∧
 ∃L' q,SR w0 w' B L' N {x with m:= {x.m with ver:=1},ps:=Sl.nil,pr:= [],ms:=q,mo:=modl x.s N}∧Kp w0 w w' L L':=by
 refine cdcl_search_sat.calls ⟨_,rfl,?_⟩
 refine store_f2 h.at rfl rfl fun w2 h2 m2=> ?_
 obtain ⟨S2,k2⟩:=h.own (m':= {x.m with ver:=1}) h2 m2
 refine ⟨_,rfl,store_f2 S2.at rfl rfl fun w4 h4 m4=> ?_⟩
 have P4:=S2.proof (q:=Sl.nil) (pr':= []) (Mod.refl w2|>.mono fun _ _ e=>e) (Row.nil _ _ _ _) rfl (fun k hk=>by simp [blk,Sl.nil] at hk) (fun u hu=>by simp at hu) h4 m4 (by simp [blk,Sl.nil])
 obtain ⟨S4,k4⟩:=P4
 refine ⟨fun V u k=> ∃ (t:Nat) (L':Nat→Nat) (q:Sl),V=(t:Int)+1∧t≤N∧k=N - t∧SR w0 u B L' N {x with m:= {x.m with ver:=1},ps:=Sl.nil,pr:= [],ms:=q,mo:=modl x.s t}∧Kp w0 w u L L',
  ⟨_,0,_,x.ms,rfl,Nat.zero_le _,rfl,by have:modl x.s 0=x.mo:=by rw [hmo];rfl
                                       rw [this];exact S4,k2.trans k4⟩,?_⟩
 rintro V u k _ ⟨t,L1,q,rfl,ht,rfl,SS,kk⟩
 refine ⟨_,rfl,_,cell_add2 SS.at rfl,?_⟩
 show cnd (decide ((t:Int)+1≤x.m.n)) _ _
 rw [hn]
 refine cnd_i (fun r=> ?_) (fun r=> ?_)
 · have r:t<N:=by simp at r;omega
   have D:=SS.drew
   refine ⟨fun v=>Grow u.drew v,Mod.refl _,_,rfl,_,_,_,fun v gv=>cell_add2 (D.at.grow gv) rfl,_,rfl,_,fun v gv=>cell_add (D.at.grow gv) rfl,(D.value g _).mono ?_⟩
   rintro e w17 ⟨rfl,g17⟩
   have hin:InV x.s.vars ((t:Int)+1):=⟨by omega,by omega,by omega⟩
   refine ⟨_,rfl,g17,fun n19 w20 h20=> ⟨g17.trans h20.mod,?_⟩⟩
   have S20:=D.new (g17.trans h20.mod) 9
   obtain ⟨p1,p2,p3⟩:=S20.mo id
   have hl:(modl x.s t).length=t:=by simp [modl]
   refine Ow.app1 sl_intC p1 (x.s.val ((t:Int)+1)) h20.has (by show Value.int .i64 (x.s.value _)=_;rw [value_in g hin]) p2 oneInt (by rw [hl];omega) fun w21 p' c' o21 m21 hp' hz'=> ⟨_,rfl,?_⟩
   have hB8:Has w21 B _:=S20.at.keep m21 fun e=>by have:=(p3 B e).1;rw [S20.ml.1] at this;exact absurd this (by decide)
   refine store_f2 hB8 rfl rfl fun w24 h24 m24=> ?_
   have o21:OwI ty_int w21 p' c' (modl x.s (t+1)):=by rw [modl_succ];exact o21
   have:=S20.model (q:=⟨p',(modl x.s t).length+1,c'⟩) (mo':=modl x.s (t+1)) m21 o21 (by simp [modl]) (fr_of hp' (Nat.le_refl _)) h24 m24 (S20.neB (by decide) p3 hp' (Nat.le_refl _))
   refine ⟨_,?_,t+1,_,_,?_,by omega,rfl,this.1,((kk.trans (Chg.grow (Mod.refl u).drew)).trans (Chg.new (g17.trans h20.mod) 9)).trans this.2⟩
   · omega
   · rw [wrap64_of (by omega) (by omega)];omega
 · have r:t=N:=by simp at r;omega
   subst r
   exact ⟨rfl,L1,q,SS,kk⟩
end
end Go.Proofs.YtddffgjagppimaaGreat.W
