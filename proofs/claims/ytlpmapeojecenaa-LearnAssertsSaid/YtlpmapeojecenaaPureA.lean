/- Sorting by swaps, plain. -/
namespace Go.SoP

def swp (l : List Int) (i j : Nat) : List Int := (l.set i (l.getD j 0)).set j (l.getD i 0)
theorem swp_len (l : List Int) (i j : Nat) : (swp l i j).length = l.length := by simp [swp]
theorem getD_setN {l : List Int} {i j : Nat} {x : Int} (hi : i < l.length) : (l.set i x).getD j 0 = if j = i then x else l.getD j 0 := by
  simp only [List.getD_eq_getElem?_getD, List.getElem?_set]
  by_cases h : j = i
  · subst h; simp [hi]
  · rw [if_neg (fun e => h e.symm), if_neg h]
theorem swp_get {l : List Int} {i j : Nat} (hi : i < l.length) (hj : j < l.length) (k : Nat) : (swp l i j).getD k 0 = if k = j then l.getD i 0 else if k = i then l.getD j 0 else l.getD k 0 := by
  unfold swp
  rw [getD_setN (by simpa using hj), getD_setN hi]

/-- Swaps of a range. -/
inductive Sw (a b : Nat) : List Int → List Int → Prop
  | refl (l : List Int) : Sw a b l l
  | step {l l' : List Int} {i j : Nat} : Sw a b l l' → a ≤ i → i < b → a ≤ j → j < b → b ≤ l'.length → Sw a b l (swp l' i j)

theorem Sw.trans {a b : Nat} {l m n : List Int} (h : Sw a b l m) (k : Sw a b m n) : Sw a b l n := by
  induction k with
  | refl => exact h
  | step _ h1 h2 h3 h4 h5 ih => exact .step ih h1 h2 h3 h4 h5
theorem Sw.mono {a b a' b' : Nat} {l m : List Int} (h : Sw a b l m) (h1 : a' ≤ a) (h2 : b ≤ b') (h3 : b' ≤ l.length) : Sw a' b' l m ∧ m.length = l.length := by
  induction h with
  | refl => exact ⟨.refl _, rfl⟩
  | step _ k1 k2 k3 k4 k5 ih =>
    obtain ⟨i1, i2⟩ := ih
    exact ⟨.step i1 (by omega) (by omega) (by omega) (by omega) (by omega), by rw [swp_len]; exact i2⟩
theorem Sw.len {a b : Nat} {l m : List Int} (h : Sw a b l m) : m.length = l.length := by
  induction h with
  | refl => rfl
  | step _ _ _ _ _ _ ih => rw [swp_len]; exact ih
theorem Sw.one {a b : Nat} {l : List Int} {i j : Nat} (h1 : a ≤ i) (h2 : i < b) (h3 : a ≤ j) (h4 : j < b) (h5 : b ≤ l.length) : Sw a b l (swp l i j) := .step (.refl l) h1 h2 h3 h4 h5
theorem Sw.out {a b : Nat} {l m : List Int} (h : Sw a b l m) {k : Nat} (hk : k < a ∨ b ≤ k) : m.getD k 0 = l.getD k 0 := by
  induction h with
  | refl => rfl
  | step _ h1 h2 h3 h4 h5 ih => rw [swp_get (by omega) (by omega), if_neg (by omega), if_neg (by omega), ih]
/-- What all of a range are, they stay. -/
theorem Sw.all {a b : Nat} {l m : List Int} (h : Sw a b l m) {P : Int → Prop} (hP : ∀ k, a ≤ k → k < b → P (l.getD k 0)) : ∀ k, a ≤ k → k < b → P (m.getD k 0) := by
  induction h with
  | refl => exact hP
  | step _ h1 h2 h3 h4 h5 ih =>
    intro k k1 k2
    rw [swp_get (by omega) (by omega)]
    split
    · exact ih _ h1 h2
    · split
      · exact ih _ h3 h4
      · exact ih _ k1 k2

theorem set_self {l : List Int} {i : Nat} (h : i < l.length) : l.set i (l.getD i 0) = l := by
  apply List.ext_getElem?
  intro j
  rw [List.getElem?_set]
  by_cases e : i = j
  · subst e; simp [h]
  · rw [if_neg e]

theorem perm_swp {l : List Int} {i j : Nat} (hi : i < l.length) (hj : j < l.length) : (swp l i j).Perm l := by
  rw [List.perm_iff_count]
  intro x
  unfold swp
  rw [List.count_set (by simpa using hj), List.count_set hi]
  have e1 : l[i] = l.getD i 0 := by simp [List.getD, hi]
  have e2 : (l.set i (l.getD j 0))[j]'(by simpa using hj) = if i = j then l.getD j 0 else l.getD j 0 := by
    rw [List.getElem_set]
    split
    · rfl
    · simp [List.getD, hj]
  rw [e1, e2]
  have c1 : l.getD i 0 = x → 0 < List.count x l := fun h => List.count_pos_iff.2 (by rw [← h]; simp [List.getD, hi])
  have c2 : l.getD j 0 = x → 0 < List.count x l := fun h => List.count_pos_iff.2 (by rw [← h]; simp [List.getD, hj])
  simp only [ite_self]
  by_cases h1 : l.getD i 0 = x <;> by_cases h2 : l.getD j 0 = x <;> simp only [h1, h2, beq_self_eq_true, if_true, beq_iff_eq, if_false] <;> (first | omega | (have := c1 h1; omega) | (have := c2 h2; omega))
theorem Sw.perm {a b : Nat} {l m : List Int} (h : Sw a b l m) : m.Perm l := by
  induction h with
  | refl => exact List.Perm.refl _
  | step h' h1 h2 h3 h4 h5 ih => exact (perm_swp (by omega) (by omega)).trans ih

section
variable (c : Int → Int → Int)
/-- One is not behind the other. -/
def Le (x y : Int) : Prop := ¬ c y x < 0
/-- An order that a comparison tells. -/
structure Ord : Prop where
  asym : ∀ {x y}, c x y < 0 → ¬ c y x < 0
  trans : ∀ {x y z}, Le c x y → Le c y z → Le c x z

def SortedR (l : List Int) (a b : Nat) : Prop := ∀ i j, a ≤ i → i < j → j < b → Le c (l.getD i 0) (l.getD j 0)
/-- All else of a range is in order with all. -/
def DoneR (l : List Int) (a0 b0 a b : Nat) : Prop := ∀ i j, a0 ≤ i → i < j → j < b0 → ¬ (a ≤ i ∧ j < b) → Le c (l.getD i 0) (l.getD j 0)
end

variable {c : Int → Int → Int}
theorem DoneR.sw {l m : List Int} {a0 b0 a b : Nat} (h : DoneR c l a0 b0 a b) (s : Sw a b l m) (_ : a0 ≤ a) (_ : b ≤ b0) : DoneR c m a0 b0 a b := by
  intro i j h1 h2 h3 h4
  by_cases ci : a ≤ i ∧ i < b
  · have hj : b ≤ j := by omega
    rw [s.out (k := j) (.inr hj)]
    exact s.all (P := fun x => Le c x (l.getD j 0)) (fun k k1 k2 => h k j (by omega) (by omega) h3 (by omega)) i ci.1 ci.2
  · rw [s.out (k := i) (by omega)]
    by_cases cj : a ≤ j ∧ j < b
    · exact s.all (P := fun x => Le c (l.getD i 0) x) (fun k k1 k2 => h i k h1 (by omega) (by omega) (by omega)) j cj.1 cj.2
    · rw [s.out (k := j) (by omega)]
      exact h i j h1 h2 h3 h4
theorem SortedR.out {l m : List Int} {a b a' b' : Nat} (h : SortedR c l a b) (s : Sw a' b' l m) (hd : b ≤ a' ∨ b' ≤ a) : SortedR c m a b := by
  intro i j h1 h2 h3
  rw [s.out (k := i) (by omega), s.out (k := j) (by omega)]
  exact h i j h1 h2 h3
theorem DoneR.full {l : List Int} {a0 b0 a b : Nat} (h : DoneR c l a0 b0 a b) (k : SortedR c l a b) : SortedR c l a0 b0 := by
  intro i j h1 h2 h3
  by_cases e : a ≤ i ∧ j < b
  · exact k i j e.1 h2 e.2
  · exact h i j h1 h2 h3 e

theorem Ord.lt {x y : Int} (o : Ord c) (h : c x y < 0) : Le c x y := o.asym h
theorem Ord.rfl {x : Int} (o : Ord c) : Le c x x := fun h => o.asym h h
theorem Ord.lt_le {x y z : Int} (o : Ord c) (h : c x y < 0) (k : Le c y z) : c x z < 0 := by
  by_cases e : c x z < 0
  · exact e
  · exact absurd h (o.trans k e)
theorem Ord.le_lt {x y z : Int} (o : Ord c) (h : Le c x y) (k : c y z < 0) : c x z < 0 := by
  by_cases e : c x z < 0
  · exact e
  · exact absurd k (o.trans e h)

/-! ## Insertion -/
def InsI (c : Int → Int → Int) (l : List Int) (a i j : Nat) : Prop := ∀ x y, a ≤ x → x < y → y ≤ i → y ≠ j → Le c (l.getD x 0) (l.getD y 0)
theorem InsI.start {l : List Int} {a i : Nat} (h : SortedR c l a i) : InsI c l a i i := fun x y h1 h2 h3 h4 => h x y h1 h2 (by omega)
theorem InsI.step (o : Ord c) {l : List Int} {a i j : Nat} (h : InsI c l a i j) (h1 : a < j) (h2 : j ≤ i) (hi : i < l.length) (hc : c (l.getD j 0) (l.getD (j - 1) 0) < 0) : InsI c (swp l j (j - 1)) a i (j - 1) := by
  intro x y k1 k2 k3 k4
  rw [swp_get (by omega) (by omega), swp_get (by omega) (by omega)]
  by_cases ey : y = j
  · subst ey
    rw [if_neg (show ¬ y = y - 1 by omega), if_pos (Eq.refl y)]
    by_cases ex : x = y - 1
    · rw [if_pos ex]; exact o.lt hc
    · rw [if_neg ex, if_neg (by omega)]
      exact h x (y - 1) k1 (by omega) (by omega) (by omega)
  · rw [if_neg k4, if_neg ey]
    by_cases ex : x = j - 1
    · rw [if_pos ex]; exact h j y (by omega) (by omega) k3 ey
    · rw [if_neg ex]
      by_cases ex2 : x = j
      · rw [if_pos ex2]; exact h (j - 1) y (by omega) (by omega) k3 ey
      · rw [if_neg ex2]; exact h x y k1 k2 k3 ey
theorem InsI.done (o : Ord c) {l : List Int} {a i j : Nat} (h : InsI c l a i j) (h2 : j ≤ i) (hj : j ≤ a ∨ ¬ c (l.getD j 0) (l.getD (j - 1) 0) < 0) : SortedR c l a (i + 1) := by
  intro x y k1 k2 k3
  by_cases ey : y = j
  · subst ey
    rcases hj with hj | hj
    · omega
    · by_cases ex : x = y - 1
      · subst ex; exact hj
      · exact o.trans (h x (y - 1) k1 (by omega) (by omega) (by omega)) hj
  · exact h x y k1 k2 (by omega) ey

/-! ## Heaps -/
def kidOf (r ch : Nat) : Prop := ch = 2 * r + 1 ∨ ch = 2 * r + 2
def HeapR (c : Int → Int → Int) (l : List Int) (f n lo : Nat) : Prop := ∀ r ch, lo ≤ r → kidOf r ch → ch < n → Le c (l.getD (f + ch) 0) (l.getD (f + r) 0)
structure SI (c : Int → Int → Int) (l : List Int) (f n lo r : Nat) : Prop where
  ge : lo ≤ r
  all : ∀ q ch, lo ≤ q → q ≠ r → kidOf q ch → ch < n → Le c (l.getD (f + ch) 0) (l.getD (f + q) 0)
  up : ∀ q ch, lo ≤ q → kidOf q r → kidOf r ch → ch < n → Le c (l.getD (f + ch) 0) (l.getD (f + q) 0)
theorem SI.start {l : List Int} {f n lo : Nat} (h : HeapR c l f n (lo + 1)) : SI c l f n lo lo :=
  ⟨Nat.le_refl _, fun q ch h1 h2 h3 h4 => h q ch (by omega) h3 h4, fun q ch h1 h2 _ _ => by unfold kidOf at h2; omega⟩
theorem SI.step (o : Ord c) {l : List Int} {f n lo r ch : Nat} (h : SI c l f n lo r) (hk : kidOf r ch) (hn : ch < n) (hf : f + n ≤ l.length) (hc : c (l.getD (f + r) 0) (l.getD (f + ch) 0) < 0) (hs : ∀ s, kidOf r s → s < n → Le c (l.getD (f + s) 0) (l.getD (f + ch) 0)) : SI c (swp l (f + r) (f + ch)) f n lo ch := by
  have hr : r < ch := by unfold kidOf at hk; omega
  have g := fun k => swp_get (l := l) (i := f + r) (j := f + ch) (by omega) (by omega) k
  have hge := h.ge
  refine ⟨by omega, fun q s h1 h2 h3 h4 => ?_, fun q s h1 h2 h3 h4 => ?_⟩
  · rw [g, g]
    by_cases eq : q = r
    · subst eq
      rw [if_neg (show ¬ f + q = f + ch by omega), if_pos (Eq.refl (f + q))]
      by_cases es : s = ch
      · subst es
        rw [if_pos (Eq.refl (f + s))]; exact o.lt hc
      · rw [if_neg (by omega), if_neg (show ¬ f + s = f + q by unfold kidOf at h3; omega)]
        exact hs s h3 h4
    · rw [if_neg (show ¬ f + q = f + ch by omega), if_neg (show ¬ f + q = f + r by omega)]
      have es : s ≠ ch := fun e => by subst e; unfold kidOf at h3 hk; omega
      rw [if_neg (show ¬ f + s = f + ch by omega)]
      by_cases er : s = r
      · subst er
        rw [if_pos (Eq.refl (f + s))]
        exact h.up q ch h1 h3 hk hn
      · rw [if_neg (by omega)]
        exact h.all q s h1 eq h3 h4
  · have eq : q = r := by unfold kidOf at h2 hk; omega
    subst eq
    rw [g, g, if_neg (show ¬ f + q = f + ch by omega), if_pos (Eq.refl (f + q)), if_neg (show ¬ f + s = f + ch by unfold kidOf at h3; omega), if_neg (show ¬ f + s = f + q by unfold kidOf at h3; omega)]
    exact h.all ch s (by omega) (by omega) h3 h4
theorem SI.done {l : List Int} {f n lo r : Nat} (h : SI c l f n lo r) (hd : ∀ s, kidOf r s → s < n → Le c (l.getD (f + s) 0) (l.getD (f + r) 0)) : HeapR c l f n lo := by
  intro q ch h1 h2 h3
  by_cases e : q = r
  · subst e; exact hd ch h2 h3
  · exact h.all q ch h1 e h2 h3
theorem HeapR.top (o : Ord c) {l : List Int} {f n : Nat} (h : HeapR c l f n 0) : ∀ k, k < n → Le c (l.getD (f + k) 0) (l.getD f 0) := by
  intro k
  induction k using Nat.strongRecOn with
  | _ k ih =>
    intro hk
    rcases Nat.eq_zero_or_pos k with e | e
    · subst e; exact o.rfl
    · exact o.trans (h ((k - 1) / 2) k (Nat.zero_le _) (by unfold kidOf; omega) hk) (ih ((k - 1) / 2) (by omega) (by omega))
theorem HeapR.zero {l : List Int} {f n lo : Nat} (h : n ≤ 2 * lo + 1) : HeapR c l f n lo := fun r ch h1 h2 h3 => by unfold kidOf at h2; omega

/-- The tail of a range is in order with all. -/
def TailR (c : Int → Int → Int) (l : List Int) (f n i : Nat) : Prop := ∀ x y, f ≤ x → x < y → y < f + n → f + i ≤ y → Le c (l.getD x 0) (l.getD y 0)
theorem TailR.sw {l m : List Int} {f n i : Nat} (h : TailR c l f n i) (s : Sw f (f + i) l m) : TailR c m f n i := by
  intro x y h1 h2 h3 h4
  rw [s.out (k := y) (.inr h4)]
  by_cases e : x < f + i
  · exact s.all (P := fun z => Le c z (l.getD y 0)) (fun k k1 k2 => h k y k1 (by omega) h3 h4) x h1 e
  · rw [s.out (k := x) (.inr (by omega))]
    exact h x y h1 h2 h3 h4
/-- The greatest is put ahead of the tail. -/
theorem heap_pop (o : Ord c) {l : List Int} {f n i : Nat} (h : HeapR c l f (i + 1) 0) (t : TailR c l f n (i + 1)) (hi : i < n) (hf : f + n ≤ l.length) : HeapR c (swp l f (f + i)) f i 1 ∧ TailR c (swp l f (f + i)) f n i := by
  have g := fun k => swp_get (l := l) (i := f) (j := f + i) (by omega) (by omega) k
  have top := h.top o
  refine ⟨fun r ch h1 h2 h3 => ?_, fun x y h1 h2 h3 h4 => ?_⟩
  · have : r < ch := by unfold kidOf at h2; omega
    rw [g, g, if_neg (by omega), if_neg (by omega), if_neg (by omega), if_neg (by omega)]
    exact h r ch (Nat.zero_le _) h2 (by omega)
  · by_cases e : y = f + i
    · subst e
      rw [g, g, if_neg (by omega), if_pos (Eq.refl (f + i))]
      by_cases ex : x = f
      · subst ex
        rw [if_pos (Eq.refl x)]
        exact top i (by omega)
      · rw [if_neg ex]
        have := top (x - f) (by omega)
        rwa [show f + (x - f) = x by omega] at this
    · rw [g, g, if_neg (show ¬ y = f + i by omega), if_neg (show ¬ y = f by omega)]
      by_cases ex : x = f + i
      · rw [if_pos ex]; exact t f y (Nat.le_refl _) (by omega) h3 (by omega)
      · rw [if_neg ex]
        by_cases ex2 : x = f
        · rw [if_pos ex2]; exact t (f + i) y (by omega) (by omega) h3 (by omega)
        · rw [if_neg ex2]; exact t x y h1 h2 h3 (by omega)
theorem TailR.full {l : List Int} {f n : Nat} (h : TailR c l f n 0) : SortedR c l f (f + n) := fun i j h1 h2 h3 => h i j h1 h2 h3 (by omega)

/-! ## Partitions -/
structure PartI (c : Int → Int → Int) (l : List Int) (a b i j : Nat) : Prop where
  lo : ∀ k, a < k → k < i → c (l.getD k 0) (l.getD a 0) < 0
  hi : ∀ k, j < k → k < b → ¬ c (l.getD k 0) (l.getD a 0) < 0
theorem PartI.swap {l : List Int} {a b i j : Nat} (h : PartI c l a b i j) (ha : a < i) (hij : i < j) (hb : j < b) (hl : b ≤ l.length) (h1 : ¬ c (l.getD i 0) (l.getD a 0) < 0) (h2 : c (l.getD j 0) (l.getD a 0) < 0) : PartI c (swp l i j) a b (i + 1) (j - 1) := by
  have g := fun k => swp_get (l := l) (i := i) (j := j) (by omega) (by omega) k
  refine ⟨fun k k1 k2 => ?_, fun k k1 k2 => ?_⟩ <;> rw [g, g, if_neg (show ¬ a = j by omega), if_neg (show ¬ a = i by omega)]
  · rw [if_neg (show ¬ k = j by omega)]
    by_cases e : k = i
    · rw [if_pos e]; exact h2
    · rw [if_neg e]; exact h.lo k k1 (by omega)
  · by_cases e : k = j
    · rw [if_pos e]; exact h1
    · rw [if_neg e, if_neg (by omega)]; exact h.hi k (by omega) k2
theorem PartI.done {l : List Int} {a b j : Nat} (h : PartI c l a b (j + 1) j) (ha : a ≤ j) (hb : j < b) (hl : b ≤ l.length) : (∀ k, a ≤ k → k < j → c ((swp l j a).getD k 0) ((swp l j a).getD j 0) < 0) ∧ (∀ k, j < k → k < b → ¬ c ((swp l j a).getD k 0) ((swp l j a).getD j 0) < 0) := by
  have g := fun k => swp_get (l := l) (i := j) (j := a) (by omega) (by omega) k
  have ej : (swp l j a).getD j 0 = l.getD a 0 := by
    rw [g]
    by_cases e : j = a
    · rw [if_pos e, e]
    · rw [if_neg e, if_pos (Eq.refl j)]
  rw [ej]
  refine ⟨fun k k1 k2 => ?_, fun k k1 k2 => ?_⟩ <;> rw [g]
  · by_cases e : k = a
    · rw [if_pos e]; exact h.lo j (by omega) (by omega)
    · rw [if_neg e, if_neg (by omega)]; exact h.lo k (by omega) (by omega)
  · rw [if_neg (by omega), if_neg (by omega)]; exact h.hi k k1 k2

structure PartE (c : Int → Int → Int) (l : List Int) (a b i j : Nat) : Prop where
  lo : ∀ k, a < k → k < i → ¬ c (l.getD a 0) (l.getD k 0) < 0
  hi : ∀ k, j < k → k < b → c (l.getD a 0) (l.getD k 0) < 0
theorem PartE.swap {l : List Int} {a b i j : Nat} (h : PartE c l a b i j) (ha : a < i) (hij : i < j) (hb : j < b) (hl : b ≤ l.length) (h1 : c (l.getD a 0) (l.getD i 0) < 0) (h2 : ¬ c (l.getD a 0) (l.getD j 0) < 0) : PartE c (swp l i j) a b (i + 1) (j - 1) := by
  have g := fun k => swp_get (l := l) (i := i) (j := j) (by omega) (by omega) k
  refine ⟨fun k k1 k2 => ?_, fun k k1 k2 => ?_⟩ <;> rw [g, g, if_neg (show ¬ a = j by omega), if_neg (show ¬ a = i by omega)]
  · rw [if_neg (show ¬ k = j by omega)]
    by_cases e : k = i
    · rw [if_pos e]; exact h2
    · rw [if_neg e]; exact h.lo k k1 (by omega)
  · by_cases e : k = j
    · rw [if_pos e]; exact h1
    · rw [if_neg e, if_neg (by omega)]; exact h.hi k (by omega) k2

/-- Behind a partition of equal ones. -/
theorem done_equal (o : Ord c) {l : List Int} {a0 b0 a b m : Nat} (h : DoneR c l a0 b0 a b) (ha0 : a0 ≤ a) (hm : a < m) (_ : m ≤ b) (lo : ∀ k, a < k → k < m → ¬ c (l.getD a 0) (l.getD k 0) < 0) (hi : ∀ k, m ≤ k → k < b → c (l.getD a 0) (l.getD k 0) < 0) (least : ∀ k, a ≤ k → k < b → Le c (l.getD a 0) (l.getD k 0)) : DoneR c l a0 b0 m b := by
  have low : ∀ k, a ≤ k → k < m → Le c (l.getD k 0) (l.getD a 0) := fun k k1 k2 => by
    by_cases e : k = a
    · subst e; exact o.rfl
    · exact lo k (by omega) k2
  intro i j h1 h2 h3 h4
  by_cases e : a ≤ i ∧ j < b
  · exact o.trans (low i e.1 (by omega)) (least j (by omega) e.2)
  · exact h i j h1 h2 h3 e
/-- Behind a partition, one side sorted. -/
theorem done_left (o : Ord c) {l : List Int} {a0 b0 a b m : Nat} (h : DoneR c l a0 b0 a b) (ha : a ≤ m) (hmb : m < b) (lo : ∀ k, a ≤ k → k < m → c (l.getD k 0) (l.getD m 0) < 0) (hi : ∀ k, m < k → k < b → ¬ c (l.getD k 0) (l.getD m 0) < 0) (s : SortedR c l a m) : DoneR c l a0 b0 (m + 1) b := by
  intro i j h1 h2 h3 h4
  by_cases e : a ≤ i ∧ j < b
  · by_cases ei : i < m
    · by_cases ej : j < m
      · exact s i j e.1 h2 ej
      · by_cases ejm : j = m
        · subst ejm; exact o.lt (lo i e.1 ei)
        · exact o.trans (o.lt (lo i e.1 ei)) (hi j (by omega) e.2)
    · have : i = m := by omega
      subst this
      exact hi j h2 e.2
  · exact h i j h1 h2 h3 e
theorem done_right (o : Ord c) {l : List Int} {a0 b0 a b m : Nat} (h : DoneR c l a0 b0 a b) (ha : a ≤ m) (hmb : m < b) (lo : ∀ k, a ≤ k → k < m → c (l.getD k 0) (l.getD m 0) < 0) (hi : ∀ k, m < k → k < b → ¬ c (l.getD k 0) (l.getD m 0) < 0) (s : SortedR c l (m + 1) b) : DoneR c l a0 b0 a m := by
  intro i j h1 h2 h3 h4
  by_cases e : a ≤ i ∧ j < b
  · by_cases ei : i < m
    · by_cases ejm : j = m
      · subst ejm; exact o.lt (lo i e.1 ei)
      · exact o.trans (o.lt (lo i e.1 ei)) (hi j (by omega) e.2)
    · by_cases eim : i = m
      · subst eim; exact hi j h2 e.2
      · exact s i j (by omega) h2 e.2
  · exact h i j h1 h2 h3 e

/-- Lists in order of the same elements are the same, where no two are alike. -/
theorem sorted_adj {l : List Int} {a b : Nat} (o : Ord c) (h : ∀ k, a < k → k < b → ¬ c (l.getD k 0) (l.getD (k - 1) 0) < 0) : SortedR c l a b := by
  intro i j h1 h2 h3
  induction j with
  | zero => omega
  | succ j ih =>
    by_cases e : i = j
    · subst e
      have := h (i + 1) (by omega) h3
      rwa [Nat.add_sub_cancel] at this
    · refine o.trans (ih (by omega) (by omega)) ?_
      have := h (j + 1) (by omega) h3
      rwa [Nat.add_sub_cancel] at this
end Go.SoP
/- The row of layer 10 in plain numbers. -/
namespace Go.Luby

def bl (n : Nat) : Nat := if n = 0 then 0 else n.log2 + 1

theorem bl_lt (n : Nat) : n < 2 ^ bl n := by
  unfold bl
  split
  · subst_vars; decide
  · exact Nat.lt_log2_self

theorem bl_le {n : Nat} (h : 0 < n) : 1 ≤ bl n ∧ 2 ^ (bl n - 1) ≤ n := by
  unfold bl
  rw [if_neg (by omega)]
  exact ⟨by omega, by simpa using Nat.log2_self_le (by omega)⟩

theorem bl_uniq {n k : Nat} (h1 : n < 2 ^ k) (h2 : k = 0 ∨ 2 ^ (k - 1) ≤ n) : bl n = k := by
  rcases Nat.eq_zero_or_pos n with h0 | h0
  · subst h0
    rcases h2 with h2 | h2
    · subst h2; rfl
    · have := Nat.two_pow_pos (k - 1); omega
  · obtain ⟨g1, g2⟩ := bl_le h0
    have g3 := bl_lt n
    rcases Nat.lt_trichotomy (bl n) k with h | h | h
    · have : 2 ^ bl n ≤ 2 ^ (k - 1) := Nat.pow_le_pow_right (by omega) (by omega)
      omega
    · exact h
    · have : 2 ^ k ≤ 2 ^ (bl n - 1) := Nat.pow_le_pow_right (by omega) (by omega)
      omega

theorem bl_bound {n k : Nat} (h : n < 2 ^ k) : bl n ≤ k := by
  rcases Nat.eq_zero_or_pos n with h0 | h0
  · subst h0; exact Nat.zero_le _
  · obtain ⟨g1, g2⟩ := bl_le h0
    rcases Nat.lt_or_ge k (bl n) with h' | h'
    · have : 2 ^ k ≤ 2 ^ (bl n - 1) := Nat.pow_le_pow_right (by omega) (by omega)
      omega
    · exact h'

theorem two_pow_succ (k : Nat) : 2 ^ (k + 1) = 2 * 2 ^ k := by rw [Nat.pow_succ, Nat.mul_comm]

theorem bl_pos2 {n : Nat} (h : 0 < n) (hf : n + 1 ≠ 2 ^ bl n) : 2 ≤ bl n ∧ 1 ≤ 2 ^ (bl n - 1) - 1 ∧ 2 ^ (bl n - 1) - 1 < n := by
  obtain ⟨g1, g2⟩ := bl_le h
  have h2 : 2 ≤ bl n := by
    rcases Nat.lt_or_ge (bl n) 2 with h' | h'
    · have e : bl n = 1 := by omega
      have := bl_lt n
      rw [e] at this hf
      omega
    · exact h'
  obtain ⟨j, hj⟩ : ∃ j, bl n = j + 2 := ⟨bl n - 2, by omega⟩
  rw [hj] at g2 ⊢
  have e : j + 2 - 1 = j + 1 := by omega
  rw [e] at g2 ⊢
  have := two_pow_succ j
  have := Nat.two_pow_pos j
  omega

/-- A number of the row. -/
def lub (i : Nat) : Nat := if h : i + 1 = 2 ^ bl i then 2 ^ (bl i - 1) else lub (i - (2 ^ (bl i - 1) - 1))
termination_by i
decreasing_by
  have h0 : 0 < i := by
    rcases Nat.eq_zero_or_pos i with h0 | h0
    · subst h0; exact absurd rfl h
    · exact h0
  have := bl_pos2 h0 h
  omega

theorem lub_full {i : Nat} (h : i + 1 = 2 ^ bl i) : lub i = 2 ^ (bl i - 1) := by rw [lub, dif_pos h]
theorem lub_rest {i : Nat} (h : i + 1 ≠ 2 ^ bl i) : lub i = lub (i - (2 ^ (bl i - 1) - 1)) := by rw [lub, dif_neg h]

theorem bl_of_full (k : Nat) : bl (2 ^ (k + 1) - 1) = k + 1 := by
  have := Nat.two_pow_pos k
  have := two_pow_succ k
  refine bl_uniq (by omega) (.inr ?_)
  simp
  omega

theorem lub_at_full (k : Nat) : lub (2 ^ (k + 1) - 1) = 2 ^ k := by
  have := Nat.two_pow_pos (k + 1)
  rw [lub_full (by rw [bl_of_full]; omega), bl_of_full]
  simp

/-- Behind a full part stands what stands at the beginning. -/
theorem lub_behind {k i : Nat} (h1 : 1 ≤ i) (h2 : i ≤ 2 ^ k - 1) : lub (2 ^ k - 1 + i) = lub i := by
  have := Nat.two_pow_pos k
  have hb : bl (2 ^ k - 1 + i) = k + 1 := by
    have := two_pow_succ k
    exact bl_uniq (by omega) (.inr (by simp; omega))
  have hs := two_pow_succ k
  rw [lub_rest (by rw [hb]; omega), hb]
  simp only [Nat.add_sub_cancel]
  congr 1
  omega

theorem lub_pow : ∀ i : Nat, ∃ j, lub i = 2 ^ j := by
  intro i
  induction i using Nat.strongRecOn with
  | _ i ih =>
    by_cases h : i + 1 = 2 ^ bl i
    · exact ⟨_, lub_full h⟩
    · rw [lub_rest h]
      have h0 : 0 < i := by
        rcases Nat.eq_zero_or_pos i with h0 | h0
        · subst h0; exact absurd rfl h
        · exact h0
      have := bl_pos2 h0 h
      exact ih _ (by omega)

theorem lub_le : ∀ i : Nat, 1 ≤ i → lub i ≤ i := by
  intro i
  induction i using Nat.strongRecOn with
  | _ i ih =>
    intro h0
    by_cases h : i + 1 = 2 ^ bl i
    · rw [lub_full h]
      exact (bl_le h0).2
    · rw [lub_rest h]
      have := bl_pos2 h0 h
      have := ih (i - (2 ^ (bl i - 1) - 1)) (by omega) (by omega)
      omega

theorem lub_ge (i : Nat) : 1 ≤ lub i := by
  obtain ⟨j, hj⟩ := lub_pow i
  rw [hj]
  exact Nat.two_pow_pos j

/-- The first numbers, together. -/
def sum : Nat → Nat
  | 0 => 0
  | n + 1 => sum n + lub (n + 1)

theorem sum_behind (k : Nat) : ∀ i : Nat, i ≤ 2 ^ k - 1 → sum (2 ^ k - 1 + i) = sum (2 ^ k - 1) + sum i
  | 0, _ => by simp [sum]
  | i + 1, h => by
    have ih := sum_behind k i (by omega)
    show sum (2 ^ k - 1 + i + 1) = _
    simp only [sum]
    rw [ih, Nat.add_assoc (2 ^ k - 1) i 1, lub_behind (by omega) h]
    omega

theorem sum_full : ∀ k : Nat, sum (2 ^ k - 1) = k * 2 ^ k / 2
  | 0 => by simp [sum]
  | k + 1 => by
    have ih := sum_full k
    have hp := Nat.two_pow_pos k
    have hs := two_pow_succ k
    have h1 := sum_behind k (2 ^ k - 1) (Nat.le_refl _)
    have e : 2 ^ (k + 1) - 1 = (2 ^ k - 1 + (2 ^ k - 1)) + 1 := by omega
    rw [e]
    simp only [sum]
    rw [h1, ← e, lub_at_full, ih, hs]
    have : (k + 1) * (2 * 2 ^ k) = 2 * ((k + 1) * 2 ^ k) := by rw [Nat.mul_left_comm]
    rw [this, Nat.mul_div_cancel_left _ (by omega)]
    rcases k with _ | k
    · simp
    · have e2 : (k + 1) * 2 ^ (k + 1) / 2 = (k + 1) * 2 ^ k := by
        rw [two_pow_succ, Nat.mul_left_comm, Nat.mul_div_cancel_left _ (by omega)]
      rw [e2, two_pow_succ]
      have : (k + 1 + 1) * (2 * 2 ^ k) = 2 * ((k + 1) * 2 ^ k) + 2 * 2 ^ k := by
        rw [Nat.add_mul, Nat.one_mul, Nat.mul_left_comm]
      omega

/-- One full part at once. -/
theorem sum_step {n k : Nat} (hk : bl (n + 1) = k + 1) : 2 ^ k - 1 ≤ n ∧ sum n = k * 2 ^ k / 2 + sum (n - (2 ^ k - 1)) := by
  have h1 := bl_lt (n + 1)
  have h2 := (bl_le (n := n + 1) (by omega)).2
  rw [hk] at h1 h2
  simp at h2
  have hs := two_pow_succ k
  have hp := Nat.two_pow_pos k
  refine ⟨by omega, ?_⟩
  have := sum_behind k (n - (2 ^ k - 1)) (by omega)
  rw [← sum_full, ← this]
  congr 1
  omega

theorem sum_ge : ∀ n, n ≤ sum n
  | 0 => Nat.zero_le _
  | n + 1 => by have := sum_ge n; have := lub_ge (n + 1); simp only [sum]; omega

theorem sum_le : ∀ n, n < 2 ^ 31 → sum n ≤ 31 * n := by
  intro n
  induction n using Nat.strongRecOn with
  | _ n ih =>
    intro hn
    rcases Nat.eq_zero_or_pos n with h0 | h0
    · subst h0; simp [sum]
    · have hb : 1 ≤ bl (n + 1) := (bl_le (by omega)).1
      obtain ⟨k, hk⟩ : ∃ k, bl (n + 1) = k + 1 := ⟨bl (n + 1) - 1, by omega⟩
      have hk31 : k ≤ 31 := by
        have := bl_bound (n := n + 1) (k := 32) (by omega)
        omega
      obtain ⟨g1, g2⟩ := sum_step hk
      have hk1 : 1 ≤ k := by
        rcases Nat.eq_zero_or_pos k with h | h
        · subst h
          have := bl_lt (n + 1)
          rw [hk] at this
          omega
        · exact h
      obtain ⟨j, rfl⟩ : ∃ j, k = j + 1 := ⟨k - 1, by omega⟩
      have hs := two_pow_succ j
      have hp := Nat.two_pow_pos j
      have e : (j + 1) * 2 ^ (j + 1) / 2 = (j + 1) * 2 ^ j := by
        rw [hs, Nat.mul_left_comm, Nat.mul_div_cancel_left _ (by omega)]
      rw [e] at g2
      have := ih (n - (2 ^ (j + 1) - 1)) (by omega) (by omega)
      have : (j + 1) * 2 ^ j ≤ 31 * 2 ^ j := Nat.mul_le_mul_right _ hk31
      omega

end Go.Luby
/- Clauses in order, plain. -/
namespace Go.LiP
open Go.SoP

/-- A literal's variable. -/
def am (l : Int) : Int := if l < 0 then -l else l
/-- Which literal is ahead, in order. -/
def bef (a b : Int) : Int := if am a ≠ am b then am a - am b else b - a
theorem bef_ord : Ord bef := by
  constructor
  · intro x y h
    unfold bef am at *
    split at h <;> split <;> (try split at h) <;> (try split) <;> (try split at h) <;> (try split) <;> omega
  · intro x y z h1 h2
    unfold Le bef at *
    have hx : am x = x ∨ am x = -x := by unfold am; split <;> simp
    generalize am x = ax at *
    generalize am y = ay at *
    generalize am z = az at *
    split at h1 <;> split at h2 <;> split <;> omega
theorem bef_tri (a b : Int) (h : a ≠ b) : bef a b < 0 ∨ bef b a < 0 := by
  unfold bef
  split <;> split <;> omega
theorem bef_of_le {a b : Int} (h : Le bef a b) (hne : a ≠ b) : bef a b < 0 := by
  rcases bef_tri a b hne with h' | h'
  · exact h'
  · exact absurd h' h
theorem bef_trans {a b c : Int} (h1 : bef a b < 0) (h2 : bef b c < 0) : bef a c < 0 := bef_ord.lt_le h1 (bef_ord.lt h2)
theorem bef_irr (a : Int) : ¬ bef a a < 0 := by unfold bef; simp

abbrev Strict (m : List Int) : Prop := m.Pairwise fun a b => bef a b < 0
/-- A list in order, each once. -/
structure IsN (c m : List Int) : Prop where
  mem : ∀ x, x ∈ m ↔ x ∈ c
  st : Strict m

theorem strict_eq : ∀ {m k : List Int}, Strict m → Strict k → (∀ x, x ∈ m ↔ x ∈ k) → m = k
  | [], [], _, _, _ => rfl
  | [], y :: k, _, _, h => by have := (h y).2 (by simp); simp at this
  | x :: m, [], _, _, h => by have := (h x).1 (by simp); simp at this
  | x :: m, y :: k, h1, h2, h => by
    have h1 := List.pairwise_cons.1 h1
    have h2 := List.pairwise_cons.1 h2
    have e : x = y := by
      rcases List.mem_cons.1 ((h x).1 (by simp)) with e | e
      · exact e
      · rcases List.mem_cons.1 ((h y).2 (by simp)) with e' | e'
        · exact e'.symm
        · exact absurd (bef_trans (h1.1 y e') (h2.1 x e)) (bef_irr x)
    subst e
    congr 1
    refine strict_eq h1.2 h2.2 fun z => ?_
    constructor
    · intro hz
      rcases List.mem_cons.1 ((h z).1 (List.mem_cons_of_mem _ hz)) with e | e
      · subst e; exact absurd (h1.1 z hz) (bef_irr z)
      · exact e
    · intro hz
      rcases List.mem_cons.1 ((h z).2 (List.mem_cons_of_mem _ hz)) with e | e
      · subst e; exact absurd (h2.1 z hz) (bef_irr z)
      · exact e
theorem IsN.uniq {c m k : List Int} (h : IsN c m) (g : IsN c k) : m = k := strict_eq h.st g.st fun x => (h.mem x).trans (g.mem x).symm

/-! ## Like ones that stand side by side are taken out -/
def ddN (l : List Int) : Nat → List Int
  | 0 => []
  | k + 1 => if 0 < k ∧ l.getD k 0 = l.getD (k - 1) 0 then ddN l k else ddN l k ++ [l.getD k 0]
theorem ddN_mem {l : List Int} : ∀ {k : Nat}, k ≤ l.length → ∀ x, x ∈ ddN l k ↔ ∃ j, j < k ∧ l.getD j 0 = x
  | 0, _, x => by simp [ddN]
  | k + 1, h, x => by
    have ih := ddN_mem (l := l) (k := k) (by omega) x
    unfold ddN
    split
    · rename_i hc
      rw [ih]
      constructor
      · rintro ⟨j, j1, j2⟩; exact ⟨j, by omega, j2⟩
      · rintro ⟨j, j1, j2⟩
        by_cases e : j = k
        · subst e; exact ⟨j - 1, by omega, by rw [← hc.2]; exact j2⟩
        · exact ⟨j, by omega, j2⟩
    · rw [List.mem_append, ih, List.mem_singleton]
      constructor
      · rintro (⟨j, j1, j2⟩ | e)
        · exact ⟨j, by omega, j2⟩
        · exact ⟨k, by omega, e.symm⟩
      · rintro ⟨j, j1, j2⟩
        by_cases e : j = k
        · subst e; exact .inr j2.symm
        · exact .inl ⟨j, by omega, j2⟩
theorem ddN_strict {l : List Int} (h : SortedR bef l 0 l.length) : ∀ {k : Nat}, k ≤ l.length → Strict (ddN l k)
  | 0, _ => List.Pairwise.nil
  | k + 1, hk => by
    have ih := ddN_strict h (k := k) (by omega)
    unfold ddN
    split
    · exact ih
    · rename_i hc
      rw [Strict, List.pairwise_append]
      refine ⟨ih, List.pairwise_singleton _ _, fun x hx y hy => ?_⟩
      rw [List.mem_singleton] at hy
      subst hy
      obtain ⟨j, j1, rfl⟩ := (ddN_mem (by omega) x).1 hx
      have hlast : bef (l.getD (k - 1) 0) (l.getD k 0) < 0 := bef_of_le (h (k - 1) k (by omega) (by omega) (by omega)) fun e => hc ⟨by omega, e.symm⟩
      by_cases e : j = k - 1
      · rw [e]; exact hlast
      · exact bef_ord.le_lt (h j (k - 1) (by omega) (by omega) (by omega)) hlast
theorem ddN_len {l : List Int} : ∀ k, (ddN l k).length ≤ k
  | 0 => Nat.le_refl _
  | k + 1 => by
    have := ddN_len (l := l) k
    unfold ddN
    split
    · omega
    · simp; exact this
theorem ddN_take {l : List Int} : ∀ {k : Nat}, k ≤ l.length → (∀ j, 0 < j → j < k → l.getD j 0 ≠ l.getD (j - 1) 0) → ddN l k = l.take k
  | 0, _, _ => by simp [ddN]
  | k + 1, h, hc => by
    unfold ddN
    rw [if_neg (fun e => hc k e.1 (by omega) e.2), ddN_take (k := k) (by omega) (fun j j1 j2 => hc j j1 (by omega)), List.take_add_one]
    have : l[k]? = some (l.getD k 0) := by simp [List.getD, show k < l.length by omega]
    rw [this]; rfl
theorem ddN_isN {c l : List Int} (hp : l.Perm c) (h : SortedR bef l 0 l.length) : IsN c (ddN l l.length) := by
  refine ⟨fun x => ?_, ddN_strict h (Nat.le_refl _)⟩
  rw [ddN_mem (Nat.le_refl _), ← hp.mem_iff]
  constructor
  · rintro ⟨j, j1, rfl⟩; simp [List.getD, j1]
  · intro hx
    obtain ⟨j, j1, e⟩ := List.mem_iff_getElem.1 hx
    exact ⟨j, j1, by simp [List.getD, j1, e]⟩

/-! ## The document's order -/
/-- How many stand ahead. -/
def posN : List Int → Int → Nat
  | [], _ => 0
  | y :: m, x => if bef y x < 0 then posN m x + 1 else 0
theorem posN_le : ∀ (m : List Int) (x : Int), posN m x ≤ m.length
  | [], _ => Nat.le_refl _
  | y :: m, x => by
    unfold posN
    split
    · simp; exact posN_le m x
    · exact Nat.zero_le _
theorem posN_lt : ∀ {m : List Int} {x : Int} {j : Nat}, j < posN m x → bef (m.getD j 0) x < 0
  | [], _, _, h => by simp [posN] at h
  | y :: m, x, j, h => by
    unfold posN at h
    split at h
    · rename_i hy
      cases j with
      | zero => exact hy
      | succ j => simpa [List.getD] using posN_lt (m := m) (x := x) (j := j) (by omega)
    · omega
theorem posN_stop : ∀ {m : List Int} {x : Int}, posN m x < m.length → ¬ bef (m.getD (posN m x) 0) x < 0
  | [], _, h => by simp at h
  | y :: m, x, h => by
    unfold posN at h ⊢
    split
    · rename_i hy
      rw [if_pos hy] at h
      have := posN_stop (m := m) (x := x) (by simpa using h)
      simpa [List.getD] using this
    · rename_i hy; exact hy
theorem posN_uniq {m : List Int} {x : Int} {j : Nat} (h1 : ∀ i, i < j → bef (m.getD i 0) x < 0) (h2 : j ≤ m.length) (h3 : j < m.length → ¬ bef (m.getD j 0) x < 0) : j = posN m x := by
  have hp := posN_le m x
  rcases Nat.lt_trichotomy j (posN m x) with e | e | e
  · exact absurd (posN_lt e) (h3 (by omega))
  · exact e
  · exact absurd (h1 _ e) (posN_stop (by omega))
def insN (m : List Int) (x : Int) : List Int := m.take (posN m x) ++ [x] ++ m.drop (posN m x)
theorem insN_mem {m : List Int} {x y : Int} : y ∈ insN m x ↔ y ∈ m ∨ y = x := by
  have : y ∈ m ↔ y ∈ m.take (posN m x) ∨ y ∈ m.drop (posN m x) := by rw [← List.mem_append, List.take_append_drop]
  unfold insN
  rw [List.mem_append, List.mem_append, List.mem_singleton, this]
  constructor
  · rintro ((h | h) | h)
    · exact .inl (.inl h)
    · exact .inr h
    · exact .inl (.inr h)
  · rintro ((h | h) | h)
    · exact .inl (.inl h)
    · exact .inr h
    · exact .inl (.inr h)
theorem insN_strict {m : List Int} {x : Int} (h : Strict m) (hx : x ∉ m) : Strict (insN m x) := by
  have hs : Strict (m.take (posN m x) ++ m.drop (posN m x)) := by rw [List.take_append_drop]; exact h
  rw [Strict, List.pairwise_append] at hs
  have lo : ∀ y ∈ m.take (posN m x), bef y x < 0 := by
    intro y hy
    obtain ⟨j, hj, rfl⟩ := List.mem_iff_getElem.1 hy
    rw [List.length_take] at hj
    have := posN_lt (m := m) (x := x) (j := j) (by omega)
    rw [List.getElem_take]
    simpa [List.getD, show j < m.length by omega] using this
  have hi : ∀ y ∈ m.drop (posN m x), bef x y < 0 := by
    intro y hy
    obtain ⟨j, hj, rfl⟩ := List.mem_iff_getElem.1 hy
    rw [List.length_drop] at hj
    have hst := posN_stop (m := m) (x := x) (by omega)
    have hin : m.getD (posN m x) 0 ∈ m := by simp [List.getD, show posN m x < m.length by omega]
    have h0 : bef x (m.getD (posN m x) 0) < 0 := bef_of_le hst fun e => hx (by rw [e]; exact hin)
    rw [List.getElem_drop]
    have h0' : bef x (m[posN m x]'(by omega)) < 0 := by simpa [List.getD, show posN m x < m.length by omega] using h0
    rcases Nat.eq_zero_or_pos j with e | e
    · subst e; exact h0'
    · exact bef_trans h0' (List.pairwise_iff_getElem.1 h (posN m x) (posN m x + j) (by omega) (by omega) (by omega))
  unfold insN
  rw [Strict, List.append_assoc, List.pairwise_append]
  refine ⟨hs.1, ?_, fun y hy z hz => ?_⟩
  · rw [List.singleton_append, List.pairwise_cons]
    exact ⟨hi, hs.2.1⟩
  · rw [List.singleton_append, List.mem_cons] at hz
    rcases hz with rfl | hz
    · exact lo y hy
    · exact hs.2.2 y hy z hz

/-- The document's order of a list. -/
def ordN (c : List Int) : Nat → List Int
  | 0 => []
  | k + 1 => if c.getD k 0 ∈ ordN c k then ordN c k else insN (ordN c k) (c.getD k 0)
def norm (c : List Int) : List Int := ordN c c.length
theorem ordN_isN {c : List Int} : ∀ {k : Nat}, k ≤ c.length → IsN (c.take k) (ordN c k)
  | 0, _ => ⟨fun x => by simp [ordN], List.Pairwise.nil⟩
  | k + 1, hk => by
    have ih := ordN_isN (c := c) (k := k) (by omega)
    have et : c.take (k + 1) = c.take k ++ [c.getD k 0] := by
      rw [List.take_add_one]
      have : c[k]? = some (c.getD k 0) := by simp [List.getD, show k < c.length by omega]
      rw [this]; rfl
    unfold ordN
    split
    · rename_i hin
      refine ⟨fun x => ?_, ih.st⟩
      rw [ih.mem, et, List.mem_append, List.mem_singleton]
      constructor
      · exact .inl
      · rintro (h | h)
        · exact h
        · rw [h, ← ih.mem]; exact hin
    · rename_i hin
      refine ⟨fun x => ?_, insN_strict ih.st hin⟩
      rw [insN_mem, ih.mem, et, List.mem_append, List.mem_singleton]
theorem norm_isN (c : List Int) : IsN c (norm c) := by
  have := ordN_isN (c := c) (Nat.le_refl _)
  rwa [List.take_length] at this
theorem norm_len_aux {c : List Int} : ∀ k, (ordN c k).length ≤ k
  | 0 => Nat.le_refl _
  | k + 1 => by
    have ih := norm_len_aux (c := c) k
    unfold ordN
    split
    · omega
    · unfold insN
      have := posN_le (ordN c k) (c.getD k 0)
      simp
      omega
theorem norm_len (c : List Int) : (norm c).length ≤ c.length := norm_len_aux _

/-! ## Tautologies -/
def taut (c : List Int) : Bool := c.any fun x => c.contains (-x)
theorem taut_adj {c m : List Int} (h : IsN c m) (nz : ∀ x ∈ c, x ≠ 0) : taut c = true ↔ ∃ i, 0 < i ∧ i < m.length ∧ m.getD i 0 = -(m.getD (i - 1) 0) := by
  have mem_of : ∀ j, j < m.length → m.getD j 0 ∈ c := fun j hj => (h.mem _).1 (by simp [List.getD, hj])
  have lt_of : ∀ i j, i < j → j < m.length → bef (m.getD i 0) (m.getD j 0) < 0 := fun i j hij hj => by
    have := List.pairwise_iff_getElem.1 h.st i j (by omega) hj hij
    simpa [List.getD, show i < m.length by omega, hj] using this
  unfold taut
  rw [List.any_eq_true]
  constructor
  · rintro ⟨x, hx, hy⟩
    have hy : -x ∈ c := by simpa using hy
    have key : ∀ x : Int, 0 < x → x ∈ c → -x ∈ c → ∃ i, 0 < i ∧ i < m.length ∧ m.getD i 0 = -(m.getD (i - 1) 0) := by
      intro x h0 hx hy
      obtain ⟨i, hi, ei⟩ := List.mem_iff_getElem.1 ((h.mem x).2 hx)
      obtain ⟨j, hj, ej⟩ := List.mem_iff_getElem.1 ((h.mem (-x)).2 hy)
      have ei : m.getD i 0 = x := by simp [List.getD, hi, ei]
      have ej : m.getD j 0 = -x := by simp [List.getD, hj, ej]
      have hxy : bef x (-x) < 0 := by unfold bef am; split <;> split <;> split <;> omega
      have hij : i < j := by
        rcases Nat.lt_trichotomy i j with e | e | e
        · exact e
        · subst e; omega
        · have := lt_of j i e hi
          rw [ei, ej] at this
          exact absurd hxy (bef_ord.asym this)
      have hj1 : j = i + 1 := by
        rcases Nat.lt_or_ge (i + 1) j with e | e
        · have a1 := lt_of i (i + 1) (by omega) (by omega)
          have a2 := lt_of (i + 1) j e hj
          rw [ei] at a1
          rw [ej] at a2
          generalize m.getD (i + 1) 0 = z at a1 a2
          unfold bef am at a1 a2
          split at a1 <;> split at a2 <;> (try split at a1) <;> (try split at a2) <;> (try split at a1) <;> (try split at a2) <;> omega
        · omega
      exact ⟨j, by omega, hj, by rw [ej, hj1, Nat.add_sub_cancel, ei]⟩
    rcases Int.lt_or_le 0 x with e | e
    · exact key x e hx hy
    · have := nz x hx
      exact key (-x) (by omega) hy (by rwa [Int.neg_neg])
  · rintro ⟨i, h1, h2, h3⟩
    refine ⟨m.getD (i - 1) 0, mem_of _ (by omega), ?_⟩
    rw [← h3]
    simpa using mem_of i h2
end Go.LiP
/- What a broken clause teaches, plain: trails, and what is learned. -/
namespace Go.LeP
open Go.SoP Go.LiP

structure As where
  lit : Int
  lev : Int
  rs : List Int
def d0 : As := ⟨0, 0, []⟩
def nth (tr : List As) (i : Nat) : As := tr.getD i d0
def isL (l : Int) : Bool := decide (l ≠ 0 ∧ -1048576 ≤ l ∧ l ≤ 1048576)
def wo (l : List Int) (x : Int) : List Int := l.filter fun y => y != x
theorem mem_wo {l : List Int} {x y : Int} : y ∈ wo l x ↔ y ∈ l ∧ y ≠ x := by
  unfold wo; rw [List.mem_filter]; simp

/-! ## Where a variable stands -/
def atN : List As → Int → Nat
  | [], _ => 0
  | a :: t, v => if am a.lit = v then 0 else atN t v + 1
theorem atN_le : ∀ (tr : List As) (v : Int), atN tr v ≤ tr.length
  | [], _ => Nat.le_refl _
  | a :: t, v => by
    unfold atN
    split
    · exact Nat.zero_le _
    · have := atN_le t v; simp; exact this
theorem atN_hit : ∀ {tr : List As} {v : Int}, atN tr v < tr.length → am (nth tr (atN tr v)).lit = v
  | [], _, h => by simp at h
  | a :: t, v, h => by
    unfold atN at h ⊢
    split
    · rename_i e; exact e
    · rename_i e
      rw [if_neg e] at h
      have := atN_hit (tr := t) (v := v) (by simpa using h)
      simpa [nth, List.getD] using this
theorem atN_miss : ∀ {tr : List As} {v : Int} {j : Nat}, j < atN tr v → am (nth tr j).lit ≠ v
  | [], _, _, h => by simp [atN] at h
  | a :: t, v, j, h => by
    unfold atN at h
    split at h
    · omega
    · rename_i e
      cases j with
      | zero => exact e
      | succ j =>
        have := atN_miss (tr := t) (v := v) (j := j) (by omega)
        simpa [nth, List.getD] using this
theorem atN_eq {tr : List As} {v : Int} {i : Nat} (hi : i < tr.length) (h : am (nth tr i).lit = v) (hm : ∀ j, j < i → am (nth tr j).lit ≠ v) : atN tr v = i := by
  rcases Nat.lt_trichotomy (atN tr v) i with e | e | e
  · exact absurd (atN_hit (by omega)) (hm _ e)
  · exact e
  · exact absurd h (atN_miss e)
theorem nth_take {tr : List As} {i j : Nat} (h : j < i) : nth (tr.take i) j = nth tr j := by
  unfold nth
  simp only [List.getD_eq_getElem?_getD, List.getElem?_take]
  rw [if_pos h]
theorem atN_take {tr : List As} {v : Int} {i : Nat} (hi : i ≤ tr.length) : (atN (tr.take i) v < i ↔ atN tr v < i) ∧ (atN tr v < i → atN (tr.take i) v = atN tr v) := by
  have hl : (tr.take i).length = i := by rw [List.length_take]; omega
  have key : atN tr v < i → atN (tr.take i) v = atN tr v := fun h => by
    refine atN_eq (by omega) ?_ fun j hj => ?_
    · rw [nth_take h]; exact atN_hit (by omega)
    · rw [nth_take (by omega)]; exact atN_miss hj
  refine ⟨⟨fun h => ?_, fun h => by rw [key h]; exact h⟩, key⟩
  have h1 := atN_hit (tr := tr.take i) (v := v) (by omega)
  rw [nth_take h] at h1
  rcases Nat.lt_or_ge (atN tr v) i with e | e
  · exact e
  · exact absurd h1 (atN_miss (by omega))

/-- Has a clause only negations of literals of a trail? -/
def brk (tr : List As) (c : List Int) : Bool := c.all fun l => isL l && decide (atN tr (am l) < tr.length) && ((nth tr (atN tr (am l))).lit == -l)
def prev (tr : List As) (i : Nat) : Int := if i = 0 then 0 else (nth tr (i - 1)).lev
def okT (tr : List As) (i : Nat) : Bool :=
  isL (nth tr i).lit && decide (¬ atN (tr.take i) (am (nth tr i).lit) < i) && decide (prev tr i ≤ (nth tr i).lev ∧ (nth tr i).lev ≤ prev tr i + 1) &&
    (if (nth tr i).lev > prev tr i then (nth tr i).rs.isEmpty else decide ((nth tr i).rs.length ≤ 256) && decide ((nth tr i).lit ∈ (nth tr i).rs) && brk (tr.take i) (wo (nth tr i).rs (nth tr i).lit))
def mayT (tr : List As) : Bool := decide (tr.length ≤ 4096) && (List.range tr.length).all (okT tr)

/-- One is the negation of a literal of a trail. -/
structure Br1 (tr : List As) (l : Int) : Prop where
  isl : isL l = true
  lt : atN tr (am l) < tr.length
  eq : (nth tr (atN tr (am l))).lit = -l
theorem brk_iff {tr : List As} {c : List Int} : brk tr c = true ↔ ∀ l ∈ c, Br1 tr l := by
  unfold brk
  rw [List.all_eq_true]
  constructor
  · intro h l hl
    have := h l hl
    simp only [Bool.and_eq_true, decide_eq_true_eq, beq_iff_eq] at this
    exact ⟨this.1.1, this.1.2, this.2⟩
  · intro h l hl
    obtain ⟨h1, h2, h3⟩ := h l hl
    simp only [Bool.and_eq_true, decide_eq_true_eq, beq_iff_eq]
    exact ⟨⟨h1, h2⟩, h3⟩

/-- What a trail is. -/
structure TrOk (tr : List As) : Prop where
  isl : ∀ i, i < tr.length → isL (nth tr i).lit = true
  uq : ∀ i j, i < j → j < tr.length → am (nth tr i).lit ≠ am (nth tr j).lit
  lo : ∀ i, i < tr.length → prev tr i ≤ (nth tr i).lev
  hi : ∀ i, i < tr.length → (nth tr i).lev ≤ prev tr i + 1
  dec : ∀ i, i < tr.length → prev tr i < (nth tr i).lev → (nth tr i).rs = []
  rea : ∀ i, i < tr.length → ¬ prev tr i < (nth tr i).lev → (nth tr i).rs.length ≤ 256 ∧ (nth tr i).lit ∈ (nth tr i).rs ∧ ∀ x ∈ (nth tr i).rs, x ≠ (nth tr i).lit → Br1 tr x ∧ atN tr (am x) < i
theorem mayT_ok {tr : List As} (h : mayT tr = true) : TrOk tr ∧ tr.length ≤ 4096 := by
  unfold mayT at h
  simp only [Bool.and_eq_true, decide_eq_true_eq, List.all_eq_true, List.mem_range] at h
  obtain ⟨hl, h⟩ := h
  have H : ∀ i, i < tr.length → isL (nth tr i).lit = true ∧ ¬ atN (tr.take i) (am (nth tr i).lit) < i ∧ (prev tr i ≤ (nth tr i).lev ∧ (nth tr i).lev ≤ prev tr i + 1) ∧
      (if (nth tr i).lev > prev tr i then (nth tr i).rs.isEmpty else decide ((nth tr i).rs.length ≤ 256) && decide ((nth tr i).lit ∈ (nth tr i).rs) && brk (tr.take i) (wo (nth tr i).rs (nth tr i).lit)) = true := by
    intro i hi
    have := h i hi
    unfold okT at this
    simp only [Bool.and_eq_true, decide_eq_true_eq] at this
    exact ⟨this.1.1.1, this.1.1.2, this.1.2, this.2⟩
  refine ⟨⟨fun i hi => (H i hi).1, fun i j hij hj e => ?_, fun i hi => (H i hi).2.2.1.1, fun i hi => (H i hi).2.2.1.2, fun i hi hd => ?_, fun i hi hd => ?_⟩, hl⟩
  · have h1 := (H j hj).2.1
    rw [(atN_take (by omega)).1] at h1
    exact atN_miss (tr := tr) (v := am (nth tr j).lit) (j := i) (by omega) e
  · have := (H i hi).2.2.2
    rw [if_pos hd] at this
    simpa using this
  · have := (H i hi).2.2.2
    rw [if_neg (by omega)] at this
    simp only [Bool.and_eq_true, decide_eq_true_eq] at this
    refine ⟨this.1.1, this.1.2, fun x hx hne => ?_⟩
    have hb := brk_iff.1 this.2 x (mem_wo.2 ⟨hx, hne⟩)
    have hlt := hb.lt
    rw [List.length_take, Nat.min_eq_left (by omega)] at hlt
    have h1 := (atN_take (v := am x) (by omega)).1.1 hlt
    have h2 := (atN_take (v := am x) (by omega)).2 h1
    refine ⟨⟨hb.isl, by omega, ?_⟩, h1⟩
    have := hb.eq
    rw [h2, nth_take h1] at this
    exact this

theorem TrOk.mono {tr : List As} (h : TrOk tr) : ∀ {i j : Nat}, i ≤ j → j < tr.length → (nth tr i).lev ≤ (nth tr j).lev := by
  intro i j hij hj
  induction j with
  | zero => rw [show i = 0 by omega]; exact Int.le_refl _
  | succ j ih =>
    by_cases e : i = j + 1
    · rw [e]; exact Int.le_refl _
    · have h1 := ih (by omega) (by omega)
      have h2 := h.lo (j + 1) hj
      unfold prev at h2
      rw [if_neg (by omega), Nat.add_sub_cancel] at h2
      omega
theorem TrOk.nn {tr : List As} (h : TrOk tr) {i : Nat} (hi : i < tr.length) : 0 ≤ (nth tr i).lev := by
  have h1 := h.lo 0 (by omega)
  have h2 := h.mono (Nat.zero_le i) hi
  unfold prev at h1
  rw [if_pos rfl] at h1
  omega
theorem TrOk.le {tr : List As} (h : TrOk tr) {i : Nat} (hi : i < tr.length) : (nth tr i).lev ≤ i + 1 := by
  induction i with
  | zero =>
    have := h.hi 0 hi
    unfold prev at this
    rw [if_pos rfl] at this
    simpa using this
  | succ i ih =>
    have h1 := ih (by omega)
    have h2 := h.hi (i + 1) hi
    unfold prev at h2
    rw [if_neg (by omega), Nat.add_sub_cancel] at h2
    omega
theorem TrOk.at {tr : List As} (h : TrOk tr) {i : Nat} (hi : i < tr.length) : atN tr (am (nth tr i).lit) = i :=
  atN_eq hi rfl fun j hj => h.uq j i hj hi
theorem am_neg (x : Int) : am (-x) = am x := by unfold am; split <;> split <;> omega
theorem isL_neg {x : Int} (h : isL x = true) : isL (-x) = true := by
  unfold isL at *
  simp only [decide_eq_true_eq] at *
  omega
theorem TrOk.br {tr : List As} (h : TrOk tr) {i : Nat} (hi : i < tr.length) : Br1 tr (-(nth tr i).lit) := by
  refine ⟨isL_neg (h.isl i hi), ?_, ?_⟩
  · rw [am_neg, h.at hi]; exact hi
  · rw [am_neg, h.at hi]; omega
/-- One without a reason is the first of its level. -/
theorem TrOk.first {tr : List As} (h : TrOk tr) {i : Nat} (hi : i < tr.length) (hr : (nth tr i).rs = []) : 0 < (nth tr i).lev ∧ ∀ j, j < i → (nth tr j).lev < (nth tr i).lev := by
  have hd : prev tr i < (nth tr i).lev := by
    by_cases e : prev tr i < (nth tr i).lev
    · exact e
    · have := (h.rea i hi e).2.1
      rw [hr] at this; simp at this
  unfold prev at hd
  split at hd
  · rename_i e
    exact ⟨hd, fun j hj => by omega⟩
  · have := h.nn (i := i - 1) (by omega)
    refine ⟨by omega, fun j hj => ?_⟩
    have := h.mono (i := j) (j := i - 1) (by omega) (by omega)
    omega
theorem TrOk.reason {tr : List As} (h : TrOk tr) {i : Nat} (hi : i < tr.length) (hr : (nth tr i).rs ≠ []) : (nth tr i).rs.length ≤ 256 ∧ (nth tr i).lit ∈ (nth tr i).rs ∧ ∀ x ∈ (nth tr i).rs, x ≠ (nth tr i).lit → Br1 tr x ∧ atN tr (am x) < i :=
  h.rea i hi fun e => hr (h.dec i hi e)

/-- A literal's level. -/
def lv (tr : List As) (l : Int) : Int := (nth tr (atN tr (am l))).lev
theorem TrOk.lv_at {tr : List As} (h : TrOk tr) {i : Nat} (hi : i < tr.length) : lv tr (-(nth tr i).lit) = (nth tr i).lev ∧ lv tr (nth tr i).lit = (nth tr i).lev := by
  unfold lv
  rw [am_neg, h.at hi]
  exact ⟨rfl, rfl⟩
theorem Br1.same {tr : List As} {x y : Int} (hx : Br1 tr x) (hy : Br1 tr y) (h : atN tr (am x) = atN tr (am y)) : x = y := by
  have h1 := hx.eq
  have h2 := hy.eq
  rw [h, h2] at h1
  omega
theorem Br1.am {tr : List As} {x y : Int} (hx : Br1 tr x) (hy : Br1 tr y) (h : am x = am y) : x = y := hx.same hy (by rw [h])

/-! ## What is learned -/
def cntL (tr : List As) (c : List Int) (L : Int) : Nat := c.countP fun x => lv tr x == L
def stepN (tr : List As) (i : Nat) (c : List Int) : List Int := norm (wo c (-(nth tr i).lit) ++ wo (nth tr i).rs (nth tr i).lit)
def lrn (tr : List As) (L : Int) : Nat → List Int → List Int
  | 0, c => c
  | i + 1, c => if cntL tr c L = 0 ∨ cntL tr c L = 1 ∧ 0 < L then c else if (nth tr i).lev = L ∧ -(nth tr i).lit ∈ c then lrn tr L i (stepN tr i c) else lrn tr L i c
theorem stepN_mem {tr : List As} {i : Nat} {c : List Int} {x : Int} : x ∈ stepN tr i c ↔ x ∈ c ∧ x ≠ -(nth tr i).lit ∨ x ∈ (nth tr i).rs ∧ x ≠ (nth tr i).lit := by
  unfold stepN
  rw [(norm_isN _).mem, List.mem_append, mem_wo, mem_wo]
/-- What is not there is passed by. -/
theorem lrn_skip {tr : List As} {L : Int} {c : List Int} {p : Nat} : ∀ {k : Nat}, p ≤ k → (∀ i, p ≤ i → i < k → ¬ ((nth tr i).lev = L ∧ -(nth tr i).lit ∈ c)) → ¬ (cntL tr c L = 0 ∨ cntL tr c L = 1 ∧ 0 < L) → lrn tr L k c = lrn tr L p c
  | 0, h, _, _ => by rw [show p = 0 by omega]
  | k + 1, h, hs, hn => by
    by_cases e : p = k + 1
    · rw [e]
    · rw [lrn, if_neg hn, if_neg (hs k (by omega) (by omega))]
      exact lrn_skip (by omega) (fun i h1 h2 => hs i h1 (by omega)) hn
theorem lrn_stop {tr : List As} {L : Int} {c : List Int} {k : Nat} (h : cntL tr c L = 0 ∨ cntL tr c L = 1 ∧ 0 < L) : lrn tr L k c = c := by
  cases k with
  | zero => rfl
  | succ k => rw [lrn, if_pos h]

/-- Where learning stands: what is in, of what level at most, and in which state. -/
structure In (tr : List As) (L : Int) (c : List Int) (k : Nat) : Prop where
  br : ∀ x ∈ c, Br1 tr x
  le : ∀ x ∈ c, lv tr x ≤ L
  pl : ∀ x ∈ c, lv tr x = L → atN tr (am x) < k
  top : c = [] ∨ 0 < cntL tr c L
  nn : 0 ≤ L
  nd : Strict c

theorem cnt_pos {tr : List As} {L : Int} {c : List Int} : 0 < cntL tr c L ↔ ∃ x ∈ c, lv tr x = L := by
  unfold cntL
  rw [List.countP_pos_iff]
  simp
theorem nodup_of_strict {c : List Int} (h : Strict c) : c.Nodup := h.imp fun {a b} hab e => by subst e; exact bef_irr a hab
/-- Two at least. -/
theorem cnt_two {tr : List As} {L : Int} {c : List Int} (hs : c.Nodup) {x : Int} (h : 1 < cntL tr c L) : ∃ y ∈ c, y ≠ x ∧ lv tr y = L := by
  refine Classical.byContradiction fun hn => ?_
  have : cntL tr c L ≤ c.countP (fun y => y == x) := by
    refine List.countP_mono_left fun y hy hl => ?_
    have hl : lv tr y = L := by simpa using hl
    by_cases e : y = x
    · simp [e]
    · exact absurd ⟨y, hy, e, hl⟩ hn
  have h2 : c.countP (fun y => y == x) ≤ 1 := List.nodup_iff_count.1 hs x
  omega

/-- The last of the level is taken out. -/
theorem In.step {tr : List As} (ok : TrOk tr) {L : Int} {c : List Int} {k p : Nat} (h : In tr L c k) (hn : ¬ (cntL tr c L = 0 ∨ cntL tr c L = 1 ∧ 0 < L)) (hp : p < tr.length) (hpl : (nth tr p).lev = L) (hm : -(nth tr p).lit ∈ c) (hmax : ∀ x ∈ c, lv tr x = L → atN tr (am x) ≤ p) :
    In tr L (stepN tr p c) p ∧ lrn tr L k c = lrn tr L p (stepN tr p c) ∧ (nth tr p).rs ≠ [] ∧ p < k := by
  have hpk : p < k := by
    have := h.pl _ hm (by rw [(ok.lv_at hp).1]; exact hpl)
    rwa [am_neg, ok.at hp] at this
  have hrs : (nth tr p).rs ≠ [] := by
    intro e
    obtain ⟨f1, f2⟩ := ok.first hp e
    have h1 : 1 < cntL tr c L := by omega
    obtain ⟨y, hy, hne, hly⟩ := cnt_two (nodup_of_strict h.nd) (x := -(nth tr p).lit) h1
    have hle := hmax y hy hly
    rcases Nat.lt_or_ge (atN tr (am y)) p with e2 | e2
    · have := f2 _ e2
      unfold lv at hly
      omega
    · refine hne ((h.br y hy).same (h.br _ hm) ?_)
      rw [am_neg, ok.at hp]; omega
  obtain ⟨r1, r2, r3⟩ := ok.reason hp hrs
  have hbr : ∀ x ∈ stepN tr p c, Br1 tr x := by
    intro x hx
    rcases stepN_mem.1 hx with ⟨a, b⟩ | ⟨a, b⟩
    · exact h.br x a
    · exact (r3 x a b).1
  have hle : ∀ x ∈ stepN tr p c, lv tr x ≤ L := by
    intro x hx
    rcases stepN_mem.1 hx with ⟨a, b⟩ | ⟨a, b⟩
    · exact h.le x a
    · have := (r3 x a b).2
      have := ok.mono (i := atN tr (am x)) (j := p) (by omega) hp
      unfold lv; omega
  refine ⟨⟨hbr, hle, fun x hx hl => ?_, ?_, h.nn, (norm_isN _).st⟩, ?_, hrs, hpk⟩
  · rcases stepN_mem.1 hx with ⟨a, b⟩ | ⟨a, b⟩
    · have h1 := hmax x a hl
      rcases Nat.lt_or_ge (atN tr (am x)) p with e | e
      · exact e
      · exact absurd ((h.br x a).same (h.br _ hm) (by rw [am_neg, ok.at hp]; omega)) b
    · exact (r3 x a b).2
  · by_cases e : cntL tr c L = 1
    · have hL : L = 0 := by
        have := h.nn
        by_cases e2 : 0 < L
        · exact absurd (.inr ⟨e, e2⟩) hn
        · omega
      cases hs : stepN tr p c with
      | nil => exact .inl rfl
      | cons x t =>
        refine .inr (cnt_pos.2 ⟨x, by simp, ?_⟩)
        have h1 := hle x (by rw [hs]; simp)
        have h2 := ok.nn ((hbr x (by rw [hs]; simp)).lt)
        have : lv tr x = (nth tr (atN tr (am x))).lev := rfl
        omega
    · obtain ⟨y, hy, hne, hly⟩ := cnt_two (nodup_of_strict h.nd) (x := -(nth tr p).lit) (L := L) (tr := tr) (c := c) (by omega)
      exact .inr (cnt_pos.2 ⟨y, stepN_mem.2 (.inl ⟨hy, hne⟩), hly⟩)
  · rw [lrn_skip (p := p + 1) (k := k) (by omega) (fun i h1 h2 hc => ?_) hn, lrn, if_neg hn, if_pos ⟨hpl, hm⟩]
    have hi : i < tr.length := by
      have := (h.br _ hc.2).lt
      rcases Nat.lt_or_ge i tr.length with e | e
      · exact e
      · have hd : nth tr i = d0 := by
          unfold nth
          rw [List.getD_eq_getElem?_getD, List.getElem?_eq_none e]; rfl
        have := (h.br _ hc.2).isl
        rw [hd] at this
        exact absurd this (by decide)
    have := hmax _ hc.2 (by rw [(ok.lv_at hi).1]; exact hc.1)
    rw [am_neg, ok.at hi] at this
    omega

/-- Where learning ends: none is in, or just one of the level. -/
theorem In.end {tr : List As} (ok : TrOk tr) {L : Int} : ∀ {k : Nat} {c : List Int}, In tr L c k → k ≤ tr.length → ∃ d k', lrn tr L k c = d ∧ In tr L d k' ∧ (d = [] ∧ (L = 0 ∨ c = []) ∨ cntL tr d L = 1 ∧ 0 < L)
  | 0, c, h, _ => by
    have h0 : c = [] := by
      rcases h.top with e | e
      · exact e
      · obtain ⟨x, hx, hl⟩ := cnt_pos.1 e
        have := h.pl x hx hl
        omega
    exact ⟨c, 0, rfl, h, .inl ⟨h0, .inr h0⟩⟩
  | k + 1, c, h, hk => by
    by_cases hn : cntL tr c L = 0 ∨ cntL tr c L = 1 ∧ 0 < L
    · refine ⟨c, k + 1, lrn_stop hn, h, ?_⟩
      rcases hn with hn | hn
      · rcases h.top with e | e
        · exact .inl ⟨e, .inr e⟩
        · omega
      · exact .inr hn
    · by_cases e : (nth tr k).lev = L ∧ -(nth tr k).lit ∈ c
      · obtain ⟨h1, h2, _, _⟩ := h.step ok hn (p := k) (by omega) e.1 e.2 fun x hx hl => by have := h.pl x hx hl; omega
        obtain ⟨d, k', e1, e2, e3⟩ := h1.end ok (by omega)
        refine ⟨d, k', by rw [h2]; exact e1, e2, ?_⟩
        rcases e3 with ⟨a, b⟩ | b
        · refine .inl ⟨a, ?_⟩
          have := h.nn
          by_cases hL : 0 < L
          · -- another one of the level is left
            obtain ⟨y, hy, hne, hly⟩ := cnt_two (nodup_of_strict h.nd) (x := -(nth tr k).lit) (L := L) (tr := tr) (c := c) (by omega)
            have hin : y ∈ stepN tr k c := stepN_mem.2 (.inl ⟨hy, hne⟩)
            rcases b with b | b
            · omega
            · rw [b] at hin; simp at hin
          · exact .inl (by omega)
        · exact .inr b
      · have hsk := lrn_skip (p := k) (k := k + 1) (by omega) (fun i h1 h2 => by rw [show i = k by omega]; exact e) hn
        have h' : In tr L c k := ⟨h.br, h.le, fun x hx hl => by
          have := h.pl x hx hl
          rcases Nat.lt_or_ge (atN tr (am x)) k with e2 | e2
          · exact e2
          · have ek : atN tr (am x) = k := by omega
            refine absurd ⟨?_, ?_⟩ e
            · rw [← ek]; exact hl
            · rw [← ek, (h.br x hx).eq, Int.neg_neg]; exact hx, h.top, h.nn, h.nd⟩
        rw [hsk]
        exact h'.end ok (by omega)
end Go.LeP
/- What a broken clause teaches, plain: the order of what is learned, and what is left of it. -/
namespace Go.LeP
open Go.SoP Go.LiP

/-! ## The order -/
def cmpO (tr : List As) (a b : Int) : Int := if lv tr a ≠ lv tr b then lv tr b - lv tr a else am a - am b
theorem cmpO_ord (tr : List As) : Ord (cmpO tr) := by
  constructor
  · intro x y h
    unfold cmpO at *
    split at h <;> split <;> omega
  · intro x y z h1 h2
    unfold Le cmpO at *
    split at h1 <;> split at h2 <;> split <;> omega
abbrev StrictO (tr : List As) (m : List Int) : Prop := m.Pairwise fun a b => cmpO tr a b < 0
theorem cmpO_irr (tr : List As) (a : Int) : ¬ cmpO tr a a < 0 := by unfold cmpO; simp
theorem cmpO_trans {tr : List As} {a b c : Int} (h1 : cmpO tr a b < 0) (h2 : cmpO tr b c < 0) : cmpO tr a c < 0 := (cmpO_ord tr).lt_le h1 ((cmpO_ord tr).lt h2)
theorem strictO_eq {tr : List As} : ∀ {m k : List Int}, StrictO tr m → StrictO tr k → (∀ x, x ∈ m ↔ x ∈ k) → m = k
  | [], [], _, _, _ => rfl
  | [], y :: k, _, _, h => by have := (h y).2 (by simp); simp at this
  | x :: m, [], _, _, h => by have := (h x).1 (by simp); simp at this
  | x :: m, y :: k, h1, h2, h => by
    have h1 := List.pairwise_cons.1 h1
    have h2 := List.pairwise_cons.1 h2
    have e : x = y := by
      rcases List.mem_cons.1 ((h x).1 (by simp)) with e | e
      · exact e
      · rcases List.mem_cons.1 ((h y).2 (by simp)) with e' | e'
        · exact e'.symm
        · exact absurd (cmpO_trans (h1.1 y e') (h2.1 x e)) (cmpO_irr tr x)
    subst e
    congr 1
    refine strictO_eq h1.2 h2.2 fun z => ?_
    constructor
    · intro hz
      rcases List.mem_cons.1 ((h z).1 (List.mem_cons_of_mem _ hz)) with e | e
      · subst e; exact absurd (h1.1 z hz) (cmpO_irr tr z)
      · exact e
    · intro hz
      rcases List.mem_cons.1 ((h z).2 (List.mem_cons_of_mem _ hz)) with e | e
      · subst e; exact absurd (h2.1 z hz) (cmpO_irr tr z)
      · exact e

/-- The literals of the j greatest levels, by falling levels. -/
def ordF (tr : List As) (c : List Int) (M : Nat) : Nat → List Int
  | 0 => []
  | j + 1 => ordF tr c M j ++ (norm c).filter fun x => lv tr x == (M : Int) - j
def topT (tr : List As) : Int := tr.foldl (fun m a => if a.lev > m then a.lev else m) 0
def ordL (tr : List As) (c : List Int) : List Int := ordF tr c (topT tr).toNat ((topT tr).toNat + 1)
theorem topT_aux : ∀ (tr : List As) (m : Int), m ≤ tr.foldl (fun m a => if a.lev > m then a.lev else m) m ∧ ∀ a ∈ tr, a.lev ≤ tr.foldl (fun m a => if a.lev > m then a.lev else m) m
  | [], m => ⟨Int.le_refl _, by simp⟩
  | b :: t, m => by
    rw [List.foldl_cons]
    generalize hX : (if b.lev > m then b.lev else m) = X
    have hm : m ≤ X ∧ b.lev ≤ X := by rw [← hX]; split <;> omega
    obtain ⟨h1, h2⟩ := topT_aux t X
    refine ⟨by omega, fun a ha => ?_⟩
    rcases List.mem_cons.1 ha with e | e
    · subst e; omega
    · exact h2 a e
theorem topT_nn (tr : List As) : 0 ≤ topT tr := (topT_aux tr 0).1
theorem topT_le {tr : List As} {i : Nat} (h : i < tr.length) : (nth tr i).lev ≤ topT tr := (topT_aux tr 0).2 _ (by simp [nth, List.getD, h])
theorem ordF_mem {tr : List As} {c : List Int} {M : Nat} : ∀ {j : Nat} {x : Int}, x ∈ ordF tr c M j ↔ x ∈ c ∧ lv tr x ≤ M ∧ (M : Int) - j < lv tr x
  | 0, x => by
    unfold ordF
    simp
  | j + 1, x => by
    unfold ordF
    rw [List.mem_append, ordF_mem, List.mem_filter, (norm_isN c).mem, beq_iff_eq]
    constructor
    · rintro (⟨h1, h2, h3⟩ | ⟨h1, h2⟩)
      · exact ⟨h1, h2, by omega⟩
      · exact ⟨h1, by omega, by omega⟩
    · rintro ⟨h1, h2, h3⟩
      by_cases e : lv tr x = (M : Int) - j
      · exact .inr ⟨h1, e⟩
      · exact .inl ⟨h1, h2, by omega⟩
theorem ordF_strict {tr : List As} {c : List Int} {M : Nat} (hb : ∀ x ∈ c, Br1 tr x) : ∀ j, StrictO tr (ordF tr c M j)
  | 0 => List.Pairwise.nil
  | j + 1 => by
    unfold ordF
    rw [StrictO, List.pairwise_append]
    refine ⟨ordF_strict hb j, ?_, fun x hx y hy => ?_⟩
    · have h1 : Strict ((norm c).filter fun x => lv tr x == (M : Int) - j) := List.Pairwise.filter _ (norm_isN c).st
      rw [List.pairwise_iff_getElem]
      intro a b ha hb' hab
      have h2 := List.pairwise_iff_getElem.1 h1 a b ha hb' hab
      have ma := List.mem_filter.1 (List.getElem_mem ha)
      have mb := List.mem_filter.1 (List.getElem_mem hb')
      have la : lv tr _ = (M : Int) - j := beq_iff_eq.1 ma.2
      have lb : lv tr _ = (M : Int) - j := beq_iff_eq.1 mb.2
      have bra := hb _ (((norm_isN c).mem _).1 ma.1)
      have brb := hb _ (((norm_isN c).mem _).1 mb.1)
      generalize ((norm c).filter fun x => lv tr x == (M : Int) - j)[a] = u at *
      generalize ((norm c).filter fun x => lv tr x == (M : Int) - j)[b] = v at *
      have hne : am u ≠ am v := fun e => by
        have := bra.am brb e
        subst this
        exact bef_irr _ h2
      unfold cmpO
      rw [if_neg (by omega)]
      unfold bef at h2
      rw [if_pos hne] at h2
      exact h2
    · have h1 := ordF_mem.1 hx
      have h2 := List.mem_filter.1 hy
      have h3 : lv tr y = (M : Int) - j := beq_iff_eq.1 h2.2
      unfold cmpO
      rw [if_pos (by omega)]
      omega
theorem ordL_mem {tr : List As} (ok : TrOk tr) {c : List Int} (hb : ∀ x ∈ c, Br1 tr x) {x : Int} : x ∈ ordL tr c ↔ x ∈ c := by
  unfold ordL
  rw [ordF_mem]
  refine ⟨fun h => h.1, fun h => ⟨h, ?_, ?_⟩⟩
  · have := topT_le (hb x h).lt
    have := topT_nn tr
    unfold lv; omega
  · have := ok.nn (hb x h).lt
    unfold lv; omega
theorem ordL_strict {tr : List As} {c : List Int} (hb : ∀ x ∈ c, Br1 tr x) : StrictO tr (ordL tr c) := ordF_strict hb _
/-- A sorted list of all that is in is the document's. -/
theorem ordL_uniq {tr : List As} (ok : TrOk tr) {c m : List Int} (hb : ∀ x ∈ c, Br1 tr x) (hm : ∀ x, x ∈ m ↔ x ∈ c) (nd : m.Nodup) (hs : SortedR (cmpO tr) m 0 m.length) : m = ordL tr c := by
  refine strictO_eq ?_ (ordL_strict hb) fun x => (hm x).trans (ordL_mem ok hb).symm
  rw [StrictO, List.pairwise_iff_getElem]
  intro i j hi hj hij
  have h := hs i j (Nat.zero_le _) hij hj
  simp only [List.getD, List.getElem?_eq_getElem hi, List.getElem?_eq_getElem hj, Option.getD_some] at h
  have hne : m[i] ≠ m[j] := fun e => by have := (List.getElem_inj nd).1 e; omega
  have h1 := hb _ ((hm _).1 (List.getElem_mem hi))
  have h2 := hb _ ((hm _).1 (List.getElem_mem hj))
  have ha : am m[i] ≠ am m[j] := fun e => hne (h1.am h2 e)
  unfold Le cmpO at h
  unfold cmpO
  split at h <;> split <;> omega

/-! ## What is idle -/
def idl (tr : List As) (ld : List Int) : Nat → Int → Bool
  | 0, _ => false
  | f + 1, l => !(nth tr (atN tr (am l))).rs.isEmpty && (nth tr (atN tr (am l))).rs.all fun x => x == (nth tr (atN tr (am l))).lit || decide (lv tr x ≤ 0) || decide (x ∈ ld) || idl tr ld f x
def idle (tr : List As) (ld : List Int) (l : Int) : Bool := idl tr ld (atN tr (am l) + 1) l
theorem idl_fuel {tr : List As} (ok : TrOk tr) {ld : List Int} : ∀ (f : Nat) {l : Int}, atN tr (am l) < tr.length → atN tr (am l) < f → idl tr ld f l = idle tr ld l := by
  have key : ∀ (f g : Nat) {l : Int}, atN tr (am l) < tr.length → atN tr (am l) < f → atN tr (am l) < g → idl tr ld f l = idl tr ld g l := by
    intro f
    induction f with
    | zero => intro g l _ h; omega
    | succ f ih =>
      intro g l hl hf hg
      cases g with
      | zero => omega
      | succ g =>
        unfold idl
        by_cases hr : (nth tr (atN tr (am l))).rs = []
        · rw [hr]; rfl
        · obtain ⟨_, _, r3⟩ := ok.reason hl hr
          have hcong : ∀ x ∈ (nth tr (atN tr (am l))).rs, (x == (nth tr (atN tr (am l))).lit || decide (lv tr x ≤ 0) || decide (x ∈ ld) || idl tr ld f x) = (x == (nth tr (atN tr (am l))).lit || decide (lv tr x ≤ 0) || decide (x ∈ ld) || idl tr ld g x) := by
            intro x hx
            by_cases e : x = (nth tr (atN tr (am l))).lit
            · simp [e]
            · obtain ⟨b1, b2⟩ := r3 x hx e
              rw [ih g b1.lt (by omega) (by omega)]
          congr 1
          rw [Bool.eq_iff_iff, List.all_eq_true, List.all_eq_true]
          constructor
          · intro h x hx; rw [← hcong x hx]; exact h x hx
          · intro h x hx; rw [hcong x hx]; exact h x hx
  intro f l hl hf
  exact key f (atN tr (am l) + 1) hl hf (by omega)
/-- What idle is, one step. -/
theorem idle_eq {tr : List As} (ok : TrOk tr) {ld : List Int} {l : Int} (hl : atN tr (am l) < tr.length) :
    idle tr ld l = (!(nth tr (atN tr (am l))).rs.isEmpty && (nth tr (atN tr (am l))).rs.all fun x => x == (nth tr (atN tr (am l))).lit || decide (lv tr x ≤ 0) || decide (x ∈ ld) || idle tr ld x) := by
  unfold idle
  rw [idl]
  by_cases hr : (nth tr (atN tr (am l))).rs = []
  · rw [hr]; rfl
  · obtain ⟨_, _, r3⟩ := ok.reason hl hr
    have hcong : ∀ x ∈ (nth tr (atN tr (am l))).rs, (x == (nth tr (atN tr (am l))).lit || decide (lv tr x ≤ 0) || decide (x ∈ ld) || idl tr ld (atN tr (am l)) x) = (x == (nth tr (atN tr (am l))).lit || decide (lv tr x ≤ 0) || decide (x ∈ ld) || idl tr ld (atN tr (am x) + 1) x) := by
      intro x hx
      by_cases e : x = (nth tr (atN tr (am l))).lit
      · simp [e]
      · obtain ⟨b1, b2⟩ := r3 x hx e
        rw [idl_fuel ok _ b1.lt b2]; rfl
    congr 1
    rw [Bool.eq_iff_iff, List.all_eq_true, List.all_eq_true]
    constructor
    · intro h x hx; rw [← hcong x hx]; exact h x hx
    · intro h x hx; rw [hcong x hx]; exact h x hx

def shr (tr : List As) (ld : List Int) : List Int :=
  match ld with
  | [] => []
  | x :: t => x :: t.filter fun y => decide (0 < lv tr y) && !idle tr ld y
theorem shr_mem {tr : List As} {ld : List Int} {x : Int} (h : x ∈ shr tr ld) : x ∈ ld := by
  cases ld with
  | nil => exact h
  | cons y t =>
    rcases List.mem_cons.1 h with e | e
    · rw [e]; simp
    · exact List.mem_cons_of_mem _ (List.mem_filter.1 e).1
theorem shr_len (tr : List As) (ld : List Int) : (shr tr ld).length ≤ ld.length := by
  cases ld with
  | nil => exact Nat.le_refl _
  | cons y t => simp [shr]; exact List.length_filter_le _ _

/-! ## What it means -/
/-- A clause is true by values. -/
def Tr1 (v : Int → Int) (c : List Int) : Prop := ∃ l ∈ c, v l = 1
/-- Values by which a trail's reasons hold. -/
structure Vals (tr : List As) (v : Int → Int) : Prop where
  neg : ∀ l, isL l = true → v (-l) = -v l
  val : ∀ l, v l = 0 ∨ v l = 1 ∨ v l = -1
  set : ∀ i, i < tr.length → v (nth tr i).lit ≠ 0
  rea : ∀ i, i < tr.length → (nth tr i).rs ≠ [] → Tr1 v (nth tr i).rs

theorem step_true {tr : List As} {v : Int → Int} (ok : TrOk tr) (V : Vals tr v) {c : List Int} {p : Nat} (hp : p < tr.length) (hr : (nth tr p).rs ≠ []) (h : Tr1 v c) : Tr1 v (stepN tr p c) := by
  obtain ⟨x, hx, ex⟩ := h
  by_cases e : x = -(nth tr p).lit
  · obtain ⟨y, hy, ey⟩ := V.rea p hp hr
    refine ⟨y, stepN_mem.2 (.inr ⟨hy, ?_⟩), ey⟩
    intro e2
    have := V.neg _ (ok.isl p hp)
    rw [← e, ← e2] at this
    omega
  · exact ⟨x, stepN_mem.2 (.inl ⟨hx, e⟩), ex⟩
theorem lrn_true {tr : List As} {v : Int → Int} (ok : TrOk tr) (V : Vals tr v) {L : Int} : ∀ {k : Nat} {c : List Int}, In tr L c k → k ≤ tr.length → Tr1 v c → Tr1 v (lrn tr L k c)
  | 0, _, _, _, h => h
  | k + 1, c, h, hk, ht => by
    by_cases hn : cntL tr c L = 0 ∨ cntL tr c L = 1 ∧ 0 < L
    · rw [lrn_stop hn]; exact ht
    · by_cases e : (nth tr k).lev = L ∧ -(nth tr k).lit ∈ c
      · obtain ⟨h1, h2, h3, _⟩ := h.step ok hn (p := k) (by omega) e.1 e.2 fun x hx hl => by have := h.pl x hx hl; omega
        rw [h2]
        exact lrn_true ok V h1 (by omega) (step_true ok V (by omega) h3 ht)
      · have h' : In tr L c k := ⟨h.br, h.le, fun x hx hl => by
          have := h.pl x hx hl
          rcases Nat.lt_or_ge (atN tr (am x)) k with e2 | e2
          · exact e2
          · have ek : atN tr (am x) = k := by omega
            refine absurd ⟨?_, ?_⟩ e
            · rw [← ek]; exact hl
            · rw [← ek, (h.br x hx).eq, Int.neg_neg]; exact hx, h.top, h.nn, h.nd⟩
        rw [lrn, if_neg hn, if_neg e]
        exact lrn_true ok V h' (by omega) ht

/-- Literals of level 0 are true. -/
theorem zero_true {tr : List As} {v : Int → Int} (ok : TrOk tr) (V : Vals tr v) : ∀ (i : Nat), i < tr.length → (nth tr i).lev ≤ 0 → v (nth tr i).lit = 1 := by
  intro i
  induction i using Nat.strongRecOn with
  | _ i ih =>
    intro hi hl
    have hr : (nth tr i).rs ≠ [] := fun e => by have := (ok.first hi e).1; omega
    obtain ⟨y, hy, ey⟩ := V.rea i hi hr
    by_cases e : y = (nth tr i).lit
    · rw [← e]; exact ey
    · obtain ⟨b1, b2⟩ := (ok.reason hi hr).2.2 y hy e
      have hlt := b1.lt
      have := ok.mono (i := atN tr (am y)) (j := i) (by omega) hi
      have h1 := ih _ b2 hlt (by omega)
      rw [b1.eq, V.neg _ b1.isl] at h1
      omega
theorem zero_false {tr : List As} {v : Int → Int} (ok : TrOk tr) (V : Vals tr v) {l : Int} (h : Br1 tr l) (hl : lv tr l ≤ 0) : v l = -1 := by
  have h1 := zero_true ok V _ h.lt hl
  rw [h.eq, V.neg _ h.isl] at h1
  omega
/-- A true literal that is idle: one of what was learned, that stands ahead, is true. -/
theorem idle_true {tr : List As} {v : Int → Int} (ok : TrOk tr) (V : Vals tr v) {ld : List Int} : ∀ (n : Nat) {l : Int}, Br1 tr l → atN tr (am l) = n → v l = 1 → idle tr ld l = true → ∃ y ∈ ld, v y = 1 ∧ atN tr (am y) < n := by
  intro n
  induction n using Nat.strongRecOn with
  | _ n ih =>
    intro l hb hn hv hi
    subst hn
    rw [idle_eq ok hb.lt] at hi
    simp only [Bool.and_eq_true, Bool.not_eq_true', List.isEmpty_eq_false_iff, List.all_eq_true, Bool.or_eq_true, beq_iff_eq, decide_eq_true_eq] at hi
    obtain ⟨hr, ha⟩ := hi
    obtain ⟨y, hy, ey⟩ := V.rea _ hb.lt hr
    by_cases e : y = (nth tr (atN tr (am l))).lit
    · rw [hb.eq] at e
      have := V.neg _ hb.isl
      rw [← e, ey] at this
      omega
    · obtain ⟨b1, b2⟩ := (ok.reason hb.lt hr).2.2 y hy e
      rcases ha y hy with ((h | h) | h) | h
      · exact absurd h e
      · have := zero_false ok V b1 h
        omega
      · exact ⟨y, h, ey, b2⟩
      · obtain ⟨z, z1, z2, z3⟩ := ih _ b2 b1 rfl ey h
        exact ⟨z, z1, z2, by omega⟩
theorem shr_true {tr : List As} {v : Int → Int} (ok : TrOk tr) (V : Vals tr v) {ld : List Int} (hb : ∀ x ∈ ld, Br1 tr x) (h : Tr1 v ld) : Tr1 v (shr tr ld) := by
  -- the true one that stands first
  have key : ∀ (n : Nat) {x : Int}, x ∈ ld → v x = 1 → atN tr (am x) = n → Tr1 v (shr tr ld) := by
    intro n
    induction n using Nat.strongRecOn with
    | _ n ih =>
      intro x hx hv hn
      by_cases hs : x ∈ shr tr ld
      · exact ⟨x, hs, hv⟩
      · have hp : ¬ lv tr x ≤ 0 := fun e => by have := zero_false ok V (hb x hx) e; omega
        have hi : idle tr ld x = true := by
          cases ld with
          | nil => simp at hx
          | cons y t =>
            rcases List.mem_cons.1 hx with e | e
            · exact absurd (by rw [e]; simp [shr]) hs
            · cases hi : idle tr (y :: t) x with
              | true => rfl
              | false => exact absurd (List.mem_cons_of_mem _ (List.mem_filter.2 ⟨e, by rw [hi]; simp; omega⟩)) hs
        obtain ⟨z, z1, z2, z3⟩ := idle_true ok V n (hb x hx) hn hv hi
        exact ih _ z3 z1 z2 rfl
  obtain ⟨x, hx, hv⟩ := h
  exact key _ hx hv rfl

/-! ## The point -/
/-- What was learned: its first literal alone is of the level. -/
structure Point (tr : List As) (L : Int) (ld : List Int) : Prop where
  br : ∀ x ∈ ld, Br1 tr x
  zero : L = 0 → ld = []
  one : ∀ i, i < ld.length → (lv tr (ld.getD i 0) = L ↔ i = 0)
  le : ∀ x ∈ ld, lv tr x ≤ L
  nn : 0 ≤ L
theorem two_of {tr : List As} {c : List Int} {L x y : Int} (hx : x ∈ c) (hy : y ∈ c) (hne : x ≠ y) (h1 : lv tr x = L) (h2 : lv tr y = L) : 1 < cntL tr c L := by
  unfold cntL
  rw [List.countP_eq_length_filter]
  have mx : x ∈ c.filter fun z => lv tr z == L := List.mem_filter.2 ⟨hx, by simpa using h1⟩
  have my : y ∈ c.filter fun z => lv tr z == L := List.mem_filter.2 ⟨hy, by simpa using h2⟩
  obtain ⟨s, t, e⟩ := List.append_of_mem mx
  rw [e] at my ⊢
  rw [List.length_append, List.length_cons]
  rcases List.mem_append.1 my with h | h
  · have := List.length_pos_of_mem h; omega
  · rcases List.mem_cons.1 h with h | h
    · exact absurd h.symm hne
    · have := List.length_pos_of_mem h; omega
theorem point_of {tr : List As} (ok : TrOk tr) {L : Int} {c : List Int} {k : Nat} (h : In tr L c k) (he : c = [] ∧ (L = 0 ∨ c = []) ∨ cntL tr c L = 1 ∧ 0 < L) : Point tr L (ordL tr c) := by
  have hb : ∀ x ∈ ordL tr c, Br1 tr x := fun x hx => h.br x ((ordL_mem ok h.br).1 hx)
  have hle : ∀ x ∈ ordL tr c, lv tr x ≤ L := fun x hx => h.le x ((ordL_mem ok h.br).1 hx)
  have nil : c = [] → ordL tr c = [] := fun e => by
    rw [List.eq_nil_iff_forall_not_mem]
    intro x hx
    have := (ordL_mem ok h.br).1 hx
    rw [e] at this; simp at this
  refine ⟨hb, fun e => ?_, fun i hi => ?_, hle, h.nn⟩
  · rcases he with ⟨a, _⟩ | ⟨_, b⟩
    · exact nil a
    · omega
  · rcases he with ⟨a, _⟩ | ⟨h1, hL⟩
    · rw [nil a] at hi; simp at hi
    · have st := ordL_strict h.br
      have mem : ∀ j, j < (ordL tr c).length → (ordL tr c).getD j 0 ∈ ordL tr c := fun j hj => by simp [List.getD, hj]
      have fall : ∀ a b, a < b → b < (ordL tr c).length → lv tr ((ordL tr c).getD b 0) ≤ lv tr ((ordL tr c).getD a 0) := by
        intro a b hab hb'
        have := List.pairwise_iff_getElem.1 st a b (by omega) hb' hab
        have e1 : (ordL tr c).getD a 0 = (ordL tr c)[a]'(by omega) := by simp [List.getD, show a < (ordL tr c).length by omega]
        have e2 : (ordL tr c).getD b 0 = (ordL tr c)[b] := by simp [List.getD, hb']
        rw [e1, e2]
        unfold cmpO at this
        split at this <;> omega
      obtain ⟨y, hy, hly⟩ := cnt_pos.1 (show 0 < cntL tr c L by omega)
      obtain ⟨j, hj, ej⟩ := List.mem_iff_getElem.1 ((ordL_mem ok h.br).2 hy)
      have ej' : (ordL tr c).getD j 0 = y := by simp [List.getD, hj, ej]
      have h0 : lv tr ((ordL tr c).getD 0 0) = L := by
        rcases Nat.eq_zero_or_pos j with e | e
        · subst e; rw [ej']; exact hly
        · have h2 := fall 0 j e hj
          have h3 := hle _ (mem 0 (by omega))
          rw [ej', hly] at h2
          omega
      constructor
      · intro hl
        refine Classical.byContradiction fun hne => ?_
        have hd : (ordL tr c).getD i 0 ≠ (ordL tr c).getD 0 0 := by
          intro e
          have := List.pairwise_iff_getElem.1 st 0 i (by omega) hi (by omega)
          simp only [List.getD, List.getElem?_eq_getElem hi, List.getElem?_eq_getElem (show 0 < (ordL tr c).length by omega), Option.getD_some] at e
          rw [e] at this
          exact cmpO_irr _ _ this
        have two : 1 < cntL tr c L := two_of ((ordL_mem ok h.br).1 (mem 0 (by omega))) ((ordL_mem ok h.br).1 (mem i hi)) (fun e => hd e.symm) h0 hl
        omega
      · rintro rfl; exact h0
/-- What is shortened has the same point. -/
theorem Point.shr {tr : List As} {L : Int} {ld : List Int} (h : Point tr L ld) : Point tr L (shr tr ld) := by
  refine ⟨fun x hx => h.br x (shr_mem hx), fun e => by rw [h.zero e]; rfl, fun i hi => ?_, fun x hx => h.le x (shr_mem hx), h.nn⟩
  cases ld with
  | nil => simp [LeP.shr] at hi
  | cons y t =>
    have h0 := (h.one 0 (by simp)).2 rfl
    have e0 : (y :: t).getD 0 0 = y := rfl
    rw [e0] at h0
    cases i with
    | zero => exact ⟨fun _ => rfl, fun _ => h0⟩
    | succ i =>
      refine ⟨fun hl => ?_, fun e => by omega⟩
      have hi' : i < (t.filter fun z => decide (0 < lv tr z) && !idle tr (y :: t) z).length := by simpa [LeP.shr] using hi
      have em : (LeP.shr tr (y :: t)).getD (i + 1) 0 = (t.filter fun z => decide (0 < lv tr z) && !idle tr (y :: t) z)[i] := by simp [LeP.shr, List.getD, hi']
      rw [em] at hl
      have hm := (List.mem_filter.1 (List.getElem_mem hi')).1
      obtain ⟨j, hj, ej⟩ := List.mem_iff_getElem.1 hm
      have := (h.one (j + 1) (by simpa using hj)).1 (by rw [← hl, ← ej]; simp [List.getD, hj])
      omega
end Go.LeP
/- Trails, piece by piece. -/
namespace Go.LeP
open Go.SoP Go.LiP

theorem okT_take {tr : List As} {t i : Nat} (hi : i < t) : okT (tr.take t) i = okT tr i := by
  have h1 : (tr.take t).take i = tr.take i := by rw [List.take_take, Nat.min_eq_left (by omega)]
  have h2 : prev (tr.take t) i = prev tr i := by
    unfold prev
    split
    · rfl
    · rw [nth_take (by omega)]
  unfold okT
  rw [h1, h2, nth_take hi]
theorem mayT_take {tr : List As} {t : Nat} (ht : t ≤ tr.length) (hl : t ≤ 4096) (h : (List.range t).all (okT tr) = true) : TrOk (tr.take t) := by
  refine (mayT_ok (tr := tr.take t) ?_).1
  have hlen : (tr.take t).length = t := by rw [List.length_take]; omega
  unfold mayT
  rw [hlen, decide_eq_true hl, Bool.true_and, List.all_eq_true]
  intro i hi
  rw [List.mem_range] at hi
  rw [okT_take hi]
  exact List.all_eq_true.1 h i (List.mem_range.2 hi)
theorem range_succ_all {f : Nat → Bool} {t : Nat} (h : (List.range t).all f = true) (hf : f t = true) : (List.range (t + 1)).all f = true := by
  rw [List.range_succ, List.all_append, h]; simp [hf]
theorem range_bad {f : Nat → Bool} {t n : Nat} (ht : t < n) (hf : f t = false) : (List.range n).all f = false := by
  cases h : (List.range n).all f with
  | false => rfl
  | true => have := List.all_eq_true.1 h t (List.mem_range.2 ht); rw [hf] at this; exact this.symm

/-- Of a variable its place, and one more; 0: nowhere. -/
def atM (tr : List As) (u : Int) : Int := if atN tr u < tr.length then (atN tr u : Int) + 1 else 0
theorem atM_nil (u : Int) : atM [] u = 0 := by unfold atM; simp
theorem len_take {tr : List As} {t : Nat} (h : t ≤ tr.length) : (tr.take t).length = t := by rw [List.length_take]; omega
theorem atM_succ {tr : List As} {t : Nat} (ht : t < tr.length) (h : ¬ atN (tr.take t) (am (nth tr t).lit) < t) (u : Int) : atM (tr.take (t + 1)) u = if u = am (nth tr t).lit then (t : Int) + 1 else atM (tr.take t) u := by
  have e1 := atN_take (tr := tr) (v := u) (i := t) (by omega)
  have e2 := atN_take (tr := tr) (v := u) (i := t + 1) (by omega)
  have l1 := len_take (tr := tr) (t := t) (by omega)
  have l2 := len_take (tr := tr) (t := t + 1) (by omega)
  unfold atM
  rw [l1, l2]
  by_cases hu : u = am (nth tr t).lit
  · rw [if_pos hu]
    have h0 : atN tr u = t := by
      subst hu
      rw [(atN_take (by omega)).1] at h
      refine atN_eq ht rfl fun j hj => atN_miss (by omega)
    rw [if_pos (e2.1.2 (by omega)), e2.2 (by omega), h0]
  · rw [if_neg hu]
    by_cases hl : atN tr u < t
    · rw [if_pos (e2.1.2 (by omega)), if_pos (e1.1.2 hl), e2.2 (by omega), e1.2 hl]
    · rw [if_neg (fun h2 => ?_), if_neg (fun h2 => hl (e1.1.1 h2))]
      have h3 := e2.1.1 h2
      have h4 : atN tr u = t := by omega
      have := atN_hit (tr := tr) (v := u) (by omega)
      rw [h4] at this
      exact hu this.symm
theorem atM_pos {tr : List As} {u : Int} : atM tr u = 0 ↔ ¬ atN tr u < tr.length := by
  unfold atM
  split <;> omega
/-- A trail that is one, told by its parts. -/
theorem mayT_true {tr : List As} (hl : tr.length ≤ 4096) (h : (List.range tr.length).all (okT tr) = true) : mayT tr = true := by
  unfold mayT; rw [decide_eq_true hl, h]; rfl
theorem mayT_false {tr : List As} {i : Nat} (hi : i < tr.length) (h : okT tr i = false) : mayT tr = false := by
  unfold mayT; rw [range_bad hi h, Bool.and_false]
def reaB (tr : List As) (i : Nat) : Bool := decide ((nth tr i).rs.length ≤ 256) && decide ((nth tr i).lit ∈ (nth tr i).rs) && brk (tr.take i) (wo (nth tr i).rs (nth tr i).lit)
end Go.LeP
