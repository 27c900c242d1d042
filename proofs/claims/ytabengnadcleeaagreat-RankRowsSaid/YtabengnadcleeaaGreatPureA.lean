/- The row of layer 10 in plain numbers. -/
namespace Go.Luby
def bl (n:Nat):Nat:=if n=0 then 0 else n.log2+1
theorem bl_lt (n:Nat):n<2 ^ bl n:=by
 unfold bl
 split
 · subst_vars;decide
 · exact Nat.lt_log2_self
theorem bl_le {n:Nat} (h:0<n):1≤bl n∧2 ^ (bl n - 1)≤n:=by
 unfold bl
 rw [if_neg (by omega)]
 exact ⟨by omega,by simpa using Nat.log2_self_le (by omega)⟩
theorem bl_uniq {n k:Nat} (h1:n<2 ^ k) (h2:k=0∨2 ^ (k - 1)≤n):bl n=k:=by
 rcases Nat.eq_zero_or_pos n with h0|h0
 · subst h0
   rcases h2 with h2|h2
   · subst h2;rfl
   · have:=Nat.two_pow_pos (k - 1);omega
 · obtain ⟨g1,g2⟩:=bl_le h0
   have g3:=bl_lt n
   rcases Nat.lt_trichotomy (bl n) k with h|h|h
   · have:2 ^ bl n≤2 ^ (k - 1):=Nat.pow_le_pow_right (by omega) (by omega)
     omega
   · exact h
   · have:2 ^ k≤2 ^ (bl n - 1):=Nat.pow_le_pow_right (by omega) (by omega)
     omega
theorem bl_bound {n k:Nat} (h:n<2 ^ k):bl n≤k:=by
 rcases Nat.eq_zero_or_pos n with h0|h0
 · subst h0;exact Nat.zero_le _
 · obtain ⟨g1,g2⟩:=bl_le h0
   rcases Nat.lt_or_ge k (bl n) with h'|h'
   · have:2 ^ k≤2 ^ (bl n - 1):=Nat.pow_le_pow_right (by omega) (by omega)
     omega
   · exact h'
theorem two_pow_succ (k:Nat):2 ^ (k+1)=2*2 ^ k:=by rw [Nat.pow_succ,Nat.mul_comm]
theorem bl_pos2 {n:Nat} (h:0<n) (hf:n+1≠2 ^ bl n):2≤bl n∧1≤2 ^ (bl n - 1) - 1∧2 ^ (bl n - 1) - 1<n:=by
 obtain ⟨g1,g2⟩:=bl_le h
 have h2:2≤bl n:=by
  rcases Nat.lt_or_ge (bl n) 2 with h'|h'
  · have e:bl n=1:=by omega
    have:=bl_lt n
    rw [e] at this hf
    omega
  · exact h'
 obtain ⟨j,hj⟩: ∃j,bl n=j+2:=⟨bl n - 2,by omega⟩
 rw [hj] at g2 ⊢
 have e:j+2 - 1=j+1:=by omega
 rw [e] at g2 ⊢
 have:=two_pow_succ j
 have:=Nat.two_pow_pos j
 omega
def lub (i:Nat):Nat:=if h:i+1=2 ^ bl i then 2 ^ (bl i - 1) else lub (i - (2 ^ (bl i - 1) - 1))
termination_by i
decreasing_by
 have h0:0<i:=by
  rcases Nat.eq_zero_or_pos i with h0|h0
  · subst h0;exact absurd rfl h
  · exact h0
 have:=bl_pos2 h0 h
 omega
theorem lub_full {i:Nat} (h:i+1=2 ^ bl i):lub i=2 ^ (bl i - 1):=by rw [lub,dif_pos h]
theorem lub_rest {i:Nat} (h:i+1≠2 ^ bl i):lub i=lub (i - (2 ^ (bl i - 1) - 1)):=by rw [lub,dif_neg h]
theorem lub_pow: ∀i:Nat,∃j,lub i=2 ^ j:=by
 intro i
 induction i using Nat.strongRecOn with
 |_ i ih=>
  by_cases h:i+1=2 ^ bl i
  · exact ⟨_,lub_full h⟩
  · rw [lub_rest h]
    have h0:0<i:=by
     rcases Nat.eq_zero_or_pos i with h0|h0
     · subst h0;exact absurd rfl h
     · exact h0
    have:=bl_pos2 h0 h
    exact ih _ (by omega)
theorem lub_le: ∀i:Nat,1≤i→lub i≤i:=by
 intro i
 induction i using Nat.strongRecOn with
 |_ i ih=>
  intro h0
  by_cases h:i+1=2 ^ bl i
  · rw [lub_full h]
    exact (bl_le h0).2
  · rw [lub_rest h]
    have:=bl_pos2 h0 h
    have:=ih (i - (2 ^ (bl i - 1) - 1)) (by omega) (by omega)
    omega
theorem lub_ge (i:Nat):1≤lub i:=by
 obtain ⟨j,hj⟩:=lub_pow i
 rw [hj]
 exact Nat.two_pow_pos j
end Go.Luby
namespace Go.SoP
def swp (l:List Int) (i j:Nat):List Int:=(l.set i (l.getD j 0)).set j (l.getD i 0)
theorem swp_len (l:List Int) (i j:Nat):(swp l i j).length=l.length:=by simp [swp]
theorem getD_setN {l:List Int} {i j:Nat} {x:Int} (hi:i<l.length):(l.set i x).getD j 0=if j=i then x else l.getD j 0:=by
 simp only [List.getD_eq_getElem?_getD,List.getElem?_set]
 by_cases h:j=i
 · subst h;simp [hi]
 · rw [if_neg (fun e=>h e.symm),if_neg h]
theorem swp_get {l:List Int} {i j:Nat} (hi:i<l.length) (hj:j<l.length) (k:Nat):(swp l i j).getD k 0=if k=j then l.getD i 0 else if k=i then l.getD j 0 else l.getD k 0:=by
 unfold swp
 rw [getD_setN (by simpa using hj),getD_setN hi]
theorem perm_swp {l:List Int} {i j:Nat} (hi:i<l.length) (hj:j<l.length):(swp l i j).Perm l:=by
 rw [List.perm_iff_count]
 intro x
 unfold swp
 rw [List.count_set (by simpa using hj),List.count_set hi]
 have e1:l[i]=l.getD i 0:=by simp [List.getD,hi]
 have e2:(l.set i (l.getD j 0))[j]'(by simpa using hj)=if i=j then l.getD j 0 else l.getD j 0:=by
  rw [List.getElem_set]
  split
  · rfl
  · simp [List.getD,hj]
 rw [e1,e2]
 have c1:l.getD i 0=x→0<List.count x l:=fun h=>List.count_pos_iff.2 (by rw [← h];simp [List.getD,hi])
 have c2:l.getD j 0=x→0<List.count x l:=fun h=>List.count_pos_iff.2 (by rw [← h];simp [List.getD,hj])
 simp only [ite_self]
 by_cases h1:l.getD i 0=x<;>by_cases h2:l.getD j 0=x<;>simp only [h1,h2,beq_self_eq_true,if_true,beq_iff_eq,if_false]<;> (first|omega| (have:=c1 h1;omega)| (have:=c2 h2;omega))
section
variable (c:Int→Int→Int)
def Le (x y:Int):Prop:= ¬c y x<0
structure Ord:Prop where
 asym: ∀ {x y},c x y<0→¬c y x<0
 trans: ∀ {x y z},Le c x y→Le c y z→Le c x z
def SortedR (l:List Int) (a b:Nat):Prop:= ∀i j,a≤i→i<j→j<b→Le c (l.getD i 0) (l.getD j 0)
end
variable {c:Int→Int→Int}
theorem Ord.lt {x y:Int} (o:Ord c) (h:c x y<0):Le c x y:=o.asym h
theorem Ord.rfl {x:Int} (o:Ord c):Le c x x:=fun h=>o.asym h h
theorem Ord.lt_le {x y z:Int} (o:Ord c) (h:c x y<0) (k:Le c y z):c x z<0:=by
 by_cases e:c x z<0
 · exact e
 · exact absurd h (o.trans k e)
theorem Ord.le_lt {x y z:Int} (o:Ord c) (h:Le c x y) (k:c y z<0):c x z<0:=by
 by_cases e:c x z<0
 · exact e
 · exact absurd k (o.trans e h)
end Go.SoP
namespace Go.LiP
open Go.SoP
def am (l:Int):Int:=if l<0 then -l else l
def bef (a b:Int):Int:=if am a≠am b then am a - am b else b - a
theorem bef_ord:Ord bef:=by
 constructor
 · intro x y h
   unfold bef am at*
   split at h<;>split<;> (try split at h)<;> (try split)<;> (try split at h)<;> (try split)<;>omega
 · intro x y z h1 h2
   unfold Le bef at*
   have hx:am x=x∨am x= -x:=by unfold am;split<;>simp
   generalize am x=ax at*
   generalize am y=ay at*
   generalize am z=az at*
   split at h1<;>split at h2<;>split<;>omega
theorem bef_tri (a b:Int) (h:a≠b):bef a b<0∨bef b a<0:=by
 unfold bef
 split<;>split<;>omega
theorem bef_of_le {a b:Int} (h:Le bef a b) (hne:a≠b):bef a b<0:=by
 rcases bef_tri a b hne with h'|h'
 · exact h'
 · exact absurd h' h
theorem bef_trans {a b c:Int} (h1:bef a b<0) (h2:bef b c<0):bef a c<0:=bef_ord.lt_le h1 (bef_ord.lt h2)
theorem bef_irr (a:Int): ¬bef a a<0:=by unfold bef;simp
abbrev Strict (m:List Int):Prop:=m.Pairwise fun a b=>bef a b<0
structure IsN (c m:List Int):Prop where
 mem: ∀x,x∈m↔x∈c
 st:Strict m
theorem strict_eq: ∀ {m k:List Int},Strict m→Strict k→(∀x,x∈m↔x∈k)→m=k
 | [],[],_,_,_=>rfl
 | [],y::k,_,_,h=>by have:=(h y).2 (by simp);simp at this
 |x::m,[],_,_,h=>by have:=(h x).1 (by simp);simp at this
 |x::m,y::k,h1,h2,h=>by
  have h1:=List.pairwise_cons.1 h1
  have h2:=List.pairwise_cons.1 h2
  have e:x=y:=by
   rcases List.mem_cons.1 ((h x).1 (by simp)) with e|e
   · exact e
   · rcases List.mem_cons.1 ((h y).2 (by simp)) with e'|e'
     · exact e'.symm
     · exact absurd (bef_trans (h1.1 y e') (h2.1 x e)) (bef_irr x)
  subst e
  congr 1
  refine strict_eq h1.2 h2.2 fun z=> ?_
  constructor
  · intro hz
    rcases List.mem_cons.1 ((h z).1 (List.mem_cons_of_mem _ hz)) with e|e
    · subst e;exact absurd (h1.1 z hz) (bef_irr z)
    · exact e
  · intro hz
    rcases List.mem_cons.1 ((h z).2 (List.mem_cons_of_mem _ hz)) with e|e
    · subst e;exact absurd (h2.1 z hz) (bef_irr z)
    · exact e
theorem IsN.uniq {c m k:List Int} (h:IsN c m) (g:IsN c k):m=k:=strict_eq h.st g.st fun x=> (h.mem x).trans (g.mem x).symm
def ddN (l:List Int):Nat→List Int
 |0=> []
 |k+1=>if 0<k∧l.getD k 0=l.getD (k - 1) 0 then ddN l k else ddN l k++ [l.getD k 0]
theorem ddN_mem {l:List Int}: ∀ {k:Nat},k≤l.length→∀x,x∈ddN l k↔∃j,j<k∧l.getD j 0=x
 |0,_,x=>by simp [ddN]
 |k+1,h,x=>by
  have ih:=ddN_mem (l:=l) (k:=k) (by omega) x
  unfold ddN
  split
  · rename_i hc
    rw [ih]
    constructor
    · rintro ⟨j,j1,j2⟩;exact ⟨j,by omega,j2⟩
    · rintro ⟨j,j1,j2⟩
      by_cases e:j=k
      · subst e;exact ⟨j - 1,by omega,by rw [← hc.2];exact j2⟩
      · exact ⟨j,by omega,j2⟩
  · rw [List.mem_append,ih,List.mem_singleton]
    constructor
    · rintro (⟨j,j1,j2⟩|e)
      · exact ⟨j,by omega,j2⟩
      · exact ⟨k,by omega,e.symm⟩
    · rintro ⟨j,j1,j2⟩
      by_cases e:j=k
      · subst e;exact .inr j2.symm
      · exact .inl ⟨j,by omega,j2⟩
theorem ddN_strict {l:List Int} (h:SortedR bef l 0 l.length): ∀ {k:Nat},k≤l.length→Strict (ddN l k)
 |0,_=>List.Pairwise.nil
 |k+1,hk=>by
  have ih:=ddN_strict h (k:=k) (by omega)
  unfold ddN
  split
  · exact ih
  · rename_i hc
    rw [Strict,List.pairwise_append]
    refine ⟨ih,List.pairwise_singleton _ _,fun x hx y hy=> ?_⟩
    rw [List.mem_singleton] at hy
    subst hy
    obtain ⟨j,j1,rfl⟩:=(ddN_mem (by omega) x).1 hx
    have hlast:bef (l.getD (k - 1) 0) (l.getD k 0)<0:=bef_of_le (h (k - 1) k (by omega) (by omega) (by omega)) fun e=>hc ⟨by omega,e.symm⟩
    by_cases e:j=k - 1
    · rw [e];exact hlast
    · exact bef_ord.le_lt (h j (k - 1) (by omega) (by omega) (by omega)) hlast
theorem ddN_take {l:List Int}: ∀ {k:Nat},k≤l.length→(∀j,0<j→j<k→l.getD j 0≠l.getD (j - 1) 0)→ddN l k=l.take k
 |0,_,_=>by simp [ddN]
 |k+1,h,hc=>by
  unfold ddN
  rw [if_neg (fun e=>hc k e.1 (by omega) e.2),ddN_take (k:=k) (by omega) (fun j j1 j2=>hc j j1 (by omega)),List.take_add_one]
  have:l[k]? =some (l.getD k 0):=by simp [List.getD,show k<l.length by omega]
  rw [this];rfl
theorem ddN_isN {c l:List Int} (hp:l.Perm c) (h:SortedR bef l 0 l.length):IsN c (ddN l l.length):=by
 refine ⟨fun x=> ?_,ddN_strict h (Nat.le_refl _)⟩
 rw [ddN_mem (Nat.le_refl _),← hp.mem_iff]
 constructor
 · rintro ⟨j,j1,rfl⟩;simp [List.getD,j1]
 · intro hx
   obtain ⟨j,j1,e⟩:=List.mem_iff_getElem.1 hx
   exact ⟨j,j1,by simp [List.getD,j1,e]⟩
def posN:List Int→Int→Nat
 | [],_=>0
 |y::m,x=>if bef y x<0 then posN m x+1 else 0
theorem posN_le: ∀ (m:List Int) (x:Int),posN m x≤m.length
 | [],_=>Nat.le_refl _
 |y::m,x=>by
  unfold posN
  split
  · simp;exact posN_le m x
  · exact Nat.zero_le _
theorem posN_lt: ∀ {m:List Int} {x:Int} {j:Nat},j<posN m x→bef (m.getD j 0) x<0
 | [],_,_,h=>by simp [posN] at h
 |y::m,x,j,h=>by
  unfold posN at h
  split at h
  · rename_i hy
    cases j with
    |zero=>exact hy
    |succ j=>simpa [List.getD] using posN_lt (m:=m) (x:=x) (j:=j) (by omega)
  · omega
theorem posN_stop: ∀ {m:List Int} {x:Int},posN m x<m.length→¬bef (m.getD (posN m x) 0) x<0
 | [],_,h=>by simp at h
 |y::m,x,h=>by
  unfold posN at h ⊢
  split
  · rename_i hy
    rw [if_pos hy] at h
    have:=posN_stop (m:=m) (x:=x) (by simpa using h)
    simpa [List.getD] using this
  · rename_i hy;exact hy
def insN (m:List Int) (x:Int):List Int:=m.take (posN m x)++ [x]++m.drop (posN m x)
theorem insN_mem {m:List Int} {x y:Int}:y∈insN m x↔y∈m∨y=x:=by
 have:y∈m↔y∈m.take (posN m x)∨y∈m.drop (posN m x):=by rw [← List.mem_append,List.take_append_drop]
 unfold insN
 rw [List.mem_append,List.mem_append,List.mem_singleton,this]
 constructor
 · rintro ((h|h)|h)
   · exact .inl (.inl h)
   · exact .inr h
   · exact .inl (.inr h)
 · rintro ((h|h)|h)
   · exact .inl (.inl h)
   · exact .inr h
   · exact .inl (.inr h)
theorem insN_strict {m:List Int} {x:Int} (h:Strict m) (hx:x ∉ m):Strict (insN m x):=by
 have hs:Strict (m.take (posN m x)++m.drop (posN m x)):=by rw [List.take_append_drop];exact h
 rw [Strict,List.pairwise_append] at hs
 have lo: ∀y∈m.take (posN m x),bef y x<0:=by
  intro y hy
  obtain ⟨j,hj,rfl⟩:=List.mem_iff_getElem.1 hy
  rw [List.length_take] at hj
  have:=posN_lt (m:=m) (x:=x) (j:=j) (by omega)
  rw [List.getElem_take]
  simpa [List.getD,show j<m.length by omega] using this
 have hi: ∀y∈m.drop (posN m x),bef x y<0:=by
  intro y hy
  obtain ⟨j,hj,rfl⟩:=List.mem_iff_getElem.1 hy
  rw [List.length_drop] at hj
  have hst:=posN_stop (m:=m) (x:=x) (by omega)
  have hin:m.getD (posN m x) 0∈m:=by simp [List.getD,show posN m x<m.length by omega]
  have h0:bef x (m.getD (posN m x) 0)<0:=bef_of_le hst fun e=>hx (by rw [e];exact hin)
  rw [List.getElem_drop]
  have h0':bef x (m[posN m x]'(by omega))<0:=by simpa [List.getD,show posN m x<m.length by omega] using h0
  rcases Nat.eq_zero_or_pos j with e|e
  · subst e;exact h0'
  · exact bef_trans h0' (List.pairwise_iff_getElem.1 h (posN m x) (posN m x+j) (by omega) (by omega) (by omega))
 unfold insN
 rw [Strict,List.append_assoc,List.pairwise_append]
 refine ⟨hs.1,?_,fun y hy z hz=> ?_⟩
 · rw [List.singleton_append,List.pairwise_cons]
   exact ⟨hi,hs.2.1⟩
 · rw [List.singleton_append,List.mem_cons] at hz
   rcases hz with rfl|hz
   · exact lo y hy
   · exact hs.2.2 y hy z hz
def ordN (c:List Int):Nat→List Int
 |0=> []
 |k+1=>if c.getD k 0∈ordN c k then ordN c k else insN (ordN c k) (c.getD k 0)
def norm (c:List Int):List Int:=ordN c c.length
theorem ordN_isN {c:List Int}: ∀ {k:Nat},k≤c.length→IsN (c.take k) (ordN c k)
 |0,_=> ⟨fun x=>by simp [ordN],List.Pairwise.nil⟩
 |k+1,hk=>by
  have ih:=ordN_isN (c:=c) (k:=k) (by omega)
  have et:c.take (k+1)=c.take k++ [c.getD k 0]:=by
   rw [List.take_add_one]
   have:c[k]? =some (c.getD k 0):=by simp [List.getD,show k<c.length by omega]
   rw [this];rfl
  unfold ordN
  split
  · rename_i hin
    refine ⟨fun x=> ?_,ih.st⟩
    rw [ih.mem,et,List.mem_append,List.mem_singleton]
    constructor
    · exact .inl
    · rintro (h|h)
      · exact h
      · rw [h,← ih.mem];exact hin
  · rename_i hin
    refine ⟨fun x=> ?_,insN_strict ih.st hin⟩
    rw [insN_mem,ih.mem,et,List.mem_append,List.mem_singleton]
theorem norm_isN (c:List Int):IsN c (norm c):=by
 have:=ordN_isN (c:=c) (Nat.le_refl _)
 rwa [List.take_length] at this
theorem norm_len_aux {c:List Int}: ∀k,(ordN c k).length≤k
 |0=>Nat.le_refl _
 |k+1=>by
  have ih:=norm_len_aux (c:=c) k
  unfold ordN
  split
  · omega
  · unfold insN
    have:=posN_le (ordN c k) (c.getD k 0)
    simp
    omega
theorem norm_len (c:List Int):(norm c).length≤c.length:=norm_len_aux _
def taut (c:List Int):Bool:=c.any fun x=>c.contains (-x)
theorem taut_adj {c m:List Int} (h:IsN c m) (nz: ∀x∈c,x≠0):taut c=true↔∃i,0<i∧i<m.length∧m.getD i 0= -(m.getD (i - 1) 0):=by
 have mem_of: ∀j,j<m.length→m.getD j 0∈c:=fun j hj=> (h.mem _).1 (by simp [List.getD,hj])
 have lt_of: ∀i j,i<j→j<m.length→bef (m.getD i 0) (m.getD j 0)<0:=fun i j hij hj=>by
  have:=List.pairwise_iff_getElem.1 h.st i j (by omega) hj hij
  simpa [List.getD,show i<m.length by omega,hj] using this
 unfold taut
 rw [List.any_eq_true]
 constructor
 · rintro ⟨x,hx,hy⟩
   have hy: -x∈c:=by simpa using hy
   have key: ∀x:Int,0<x→x∈c→ -x∈c→∃i,0<i∧i<m.length∧m.getD i 0= -(m.getD (i - 1) 0):=by
    intro x h0 hx hy
    obtain ⟨i,hi,ei⟩:=List.mem_iff_getElem.1 ((h.mem x).2 hx)
    obtain ⟨j,hj,ej⟩:=List.mem_iff_getElem.1 ((h.mem (-x)).2 hy)
    have ei:m.getD i 0=x:=by simp [List.getD,hi,ei]
    have ej:m.getD j 0= -x:=by simp [List.getD,hj,ej]
    have hxy:bef x (-x)<0:=by unfold bef am;split<;>split<;>split<;>omega
    have hij:i<j:=by
     rcases Nat.lt_trichotomy i j with e|e|e
     · exact e
     · subst e;omega
     · have:=lt_of j i e hi
       rw [ei,ej] at this
       exact absurd hxy (bef_ord.asym this)
    have hj1:j=i+1:=by
     rcases Nat.lt_or_ge (i+1) j with e|e
     · have a1:=lt_of i (i+1) (by omega) (by omega)
       have a2:=lt_of (i+1) j e hj
       rw [ei] at a1
       rw [ej] at a2
       generalize m.getD (i+1) 0=z at a1 a2
       unfold bef am at a1 a2
       split at a1<;>split at a2<;> (try split at a1)<;> (try split at a2)<;> (try split at a1)<;> (try split at a2)<;>omega
     · omega
    exact ⟨j,by omega,hj,by rw [ej,hj1,Nat.add_sub_cancel,ei]⟩
   rcases Int.lt_or_le 0 x with e|e
   · exact key x e hx hy
   · have:=nz x hx
     exact key (-x) (by omega) hy (by rwa [Int.neg_neg])
 · rintro ⟨i,h1,h2,h3⟩
   refine ⟨m.getD (i - 1) 0,mem_of _ (by omega),?_⟩
   rw [← h3]
   simpa using mem_of i h2
end Go.LiP
