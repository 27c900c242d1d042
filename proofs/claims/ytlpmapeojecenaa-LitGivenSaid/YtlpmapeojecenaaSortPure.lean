/- Sorting by swaps, plain. -/
namespace Go.SoP

def swp (l : List Int) (i j : Nat) : List Int := (l.set i (l.getD j 0)).set j (l.getD i 0)
theorem swp_len (l : List Int) (i j : Nat) : (swp l i j).length = l.length := by simp [swp]
theorem getD_setN {l : List Int} {i j : Nat} {x : Int} (hi : i < l.length) : (l.set i x).getD j 0 = if j = i then x else l.getD j 0 := by
  simp only [List.getD_eq_getElem?_getD, List.getElem?_set]
  by_cases h : j = i
  · subst h; simp [hi]
  · rw [if_neg (fun e => h e.symm), if_neg h]
theorem swp_get {l : List Int} {i j : Nat} (hi : i < l.length) (hj : j < l.length) (k : Nat) : (swp l i j).getD k 0 = if k = j then l.getD i 0 else if k = i then l.getD j 0 else l.getD k 0 := by
  unfold swp
  rw [getD_setN (by simpa using hj), getD_setN hi]

/-- Swaps of a range. -/
inductive Sw (a b : Nat) : List Int → List Int → Prop
  | refl (l : List Int) : Sw a b l l
  | step {l l' : List Int} {i j : Nat} : Sw a b l l' → a ≤ i → i < b → a ≤ j → j < b → b ≤ l'.length → Sw a b l (swp l' i j)

theorem Sw.trans {a b : Nat} {l m n : List Int} (h : Sw a b l m) (k : Sw a b m n) : Sw a b l n := by
  induction k with
  | refl => exact h
  | step _ h1 h2 h3 h4 h5 ih => exact .step ih h1 h2 h3 h4 h5
theorem Sw.mono {a b a' b' : Nat} {l m : List Int} (h : Sw a b l m) (h1 : a' ≤ a) (h2 : b ≤ b') (h3 : b' ≤ l.length) : Sw a' b' l m ∧ m.length = l.length := by
  induction h with
  | refl => exact ⟨.refl _, rfl⟩
  | step _ k1 k2 k3 k4 k5 ih =>
    obtain ⟨i1, i2⟩ := ih
    exact ⟨.step i1 (by omega) (by omega) (by omega) (by omega) (by omega), by rw [swp_len]; exact i2⟩
theorem Sw.len {a b : Nat} {l m : List Int} (h : Sw a b l m) : m.length = l.length := by
  induction h with
  | refl => rfl
  | step _ _ _ _ _ _ ih => rw [swp_len]; exact ih
theorem Sw.one {a b : Nat} {l : List Int} {i j : Nat} (h1 : a ≤ i) (h2 : i < b) (h3 : a ≤ j) (h4 : j < b) (h5 : b ≤ l.length) : Sw a b l (swp l i j) := .step (.refl l) h1 h2 h3 h4 h5
theorem Sw.out {a b : Nat} {l m : List Int} (h : Sw a b l m) {k : Nat} (hk : k < a ∨ b ≤ k) : m.getD k 0 = l.getD k 0 := by
  induction h with
  | refl => rfl
  | step _ h1 h2 h3 h4 h5 ih => rw [swp_get (by omega) (by omega), if_neg (by omega), if_neg (by omega), ih]
/-- What all of a range are, they stay. -/
theorem Sw.all {a b : Nat} {l m : List Int} (h : Sw a b l m) {P : Int → Prop} (hP : ∀ k, a ≤ k → k < b → P (l.getD k 0)) : ∀ k, a ≤ k → k < b → P (m.getD k 0) := by
  induction h with
  | refl => exact hP
  | step _ h1 h2 h3 h4 h5 ih =>
    intro k k1 k2
    rw [swp_get (by omega) (by omega)]
    split
    · exact ih _ h1 h2
    · split
      · exact ih _ h3 h4
      · exact ih _ k1 k2

theorem set_self {l : List Int} {i : Nat} (h : i < l.length) : l.set i (l.getD i 0) = l := by
  apply List.ext_getElem?
  intro j
  rw [List.getElem?_set]
  by_cases e : i = j
  · subst e; simp [h]
  · rw [if_neg e]

theorem perm_swp {l : List Int} {i j : Nat} (hi : i < l.length) (hj : j < l.length) : (swp l i j).Perm l := by
  rw [List.perm_iff_count]
  intro x
  unfold swp
  rw [List.count_set (by simpa using hj), List.count_set hi]
  have e1 : l[i] = l.getD i 0 := by simp [List.getD, hi]
  have e2 : (l.set i (l.getD j 0))[j]'(by simpa using hj) = if i = j then l.getD j 0 else l.getD j 0 := by
    rw [List.getElem_set]
    split
    · rfl
    · simp [List.getD, hj]
  rw [e1, e2]
  have c1 : l.getD i 0 = x → 0 < List.count x l := fun h => List.count_pos_iff.2 (by rw [← h]; simp [List.getD, hi])
  have c2 : l.getD j 0 = x → 0 < List.count x l := fun h => List.count_pos_iff.2 (by rw [← h]; simp [List.getD, hj])
  simp only [ite_self]
  by_cases h1 : l.getD i 0 = x <;> by_cases h2 : l.getD j 0 = x <;> simp only [h1, h2, beq_self_eq_true, if_true, beq_iff_eq, if_false] <;> (first | omega | (have := c1 h1; omega) | (have := c2 h2; omega))
theorem Sw.perm {a b : Nat} {l m : List Int} (h : Sw a b l m) : m.Perm l := by
  induction h with
  | refl => exact List.Perm.refl _
  | step h' h1 h2 h3 h4 h5 ih => exact (perm_swp (by omega) (by omega)).trans ih

section
variable (c : Int → Int → Int)
/-- One is not behind the other. -/
def Le (x y : Int) : Prop := ¬ c y x < 0
/-- An order that a comparison tells. -/
structure Ord : Prop where
  asym : ∀ {x y}, c x y < 0 → ¬ c y x < 0
  trans : ∀ {x y z}, Le c x y → Le c y z → Le c x z

def SortedR (l : List Int) (a b : Nat) : Prop := ∀ i j, a ≤ i → i < j → j < b → Le c (l.getD i 0) (l.getD j 0)
/-- All else of a range is in order with all. -/
def DoneR (l : List Int) (a0 b0 a b : Nat) : Prop := ∀ i j, a0 ≤ i → i < j → j < b0 → ¬ (a ≤ i ∧ j < b) → Le c (l.getD i 0) (l.getD j 0)
end

variable {c : Int → Int → Int}
theorem DoneR.sw {l m : List Int} {a0 b0 a b : Nat} (h : DoneR c l a0 b0 a b) (s : Sw a b l m) (_ : a0 ≤ a) (_ : b ≤ b0) : DoneR c m a0 b0 a b := by
  intro i j h1 h2 h3 h4
  by_cases ci : a ≤ i ∧ i < b
  · have hj : b ≤ j := by omega
    rw [s.out (k := j) (.inr hj)]
    exact s.all (P := fun x => Le c x (l.getD j 0)) (fun k k1 k2 => h k j (by omega) (by omega) h3 (by omega)) i ci.1 ci.2
  · rw [s.out (k := i) (by omega)]
    by_cases cj : a ≤ j ∧ j < b
    · exact s.all (P := fun x => Le c (l.getD i 0) x) (fun k k1 k2 => h i k h1 (by omega) (by omega) (by omega)) j cj.1 cj.2
    · rw [s.out (k := j) (by omega)]
      exact h i j h1 h2 h3 h4
theorem SortedR.out {l m : List Int} {a b a' b' : Nat} (h : SortedR c l a b) (s : Sw a' b' l m) (hd : b ≤ a' ∨ b' ≤ a) : SortedR c m a b := by
  intro i j h1 h2 h3
  rw [s.out (k := i) (by omega), s.out (k := j) (by omega)]
  exact h i j h1 h2 h3
theorem DoneR.full {l : List Int} {a0 b0 a b : Nat} (h : DoneR c l a0 b0 a b) (k : SortedR c l a b) : SortedR c l a0 b0 := by
  intro i j h1 h2 h3
  by_cases e : a ≤ i ∧ j < b
  · exact k i j e.1 h2 e.2
  · exact h i j h1 h2 h3 e

theorem Ord.lt {x y : Int} (o : Ord c) (h : c x y < 0) : Le c x y := o.asym h
theorem Ord.rfl {x : Int} (o : Ord c) : Le c x x := fun h => o.asym h h
theorem Ord.lt_le {x y z : Int} (o : Ord c) (h : c x y < 0) (k : Le c y z) : c x z < 0 := by
  by_cases e : c x z < 0
  · exact e
  · exact absurd h (o.trans k e)
theorem Ord.le_lt {x y z : Int} (o : Ord c) (h : Le c x y) (k : c y z < 0) : c x z < 0 := by
  by_cases e : c x z < 0
  · exact e
  · exact absurd k (o.trans e h)

/-! ## Insertion -/
def InsI (c : Int → Int → Int) (l : List Int) (a i j : Nat) : Prop := ∀ x y, a ≤ x → x < y → y ≤ i → y ≠ j → Le c (l.getD x 0) (l.getD y 0)
theorem InsI.start {l : List Int} {a i : Nat} (h : SortedR c l a i) : InsI c l a i i := fun x y h1 h2 h3 h4 => h x y h1 h2 (by omega)
theorem InsI.step (o : Ord c) {l : List Int} {a i j : Nat} (h : InsI c l a i j) (h1 : a < j) (h2 : j ≤ i) (hi : i < l.length) (hc : c (l.getD j 0) (l.getD (j - 1) 0) < 0) : InsI c (swp l j (j - 1)) a i (j - 1) := by
  intro x y k1 k2 k3 k4
  rw [swp_get (by omega) (by omega), swp_get (by omega) (by omega)]
  by_cases ey : y = j
  · subst ey
    rw [if_neg (show ¬ y = y - 1 by omega), if_pos (Eq.refl y)]
    by_cases ex : x = y - 1
    · rw [if_pos ex]; exact o.lt hc
    · rw [if_neg ex, if_neg (by omega)]
      exact h x (y - 1) k1 (by omega) (by omega) (by omega)
  · rw [if_neg k4, if_neg ey]
    by_cases ex : x = j - 1
    · rw [if_pos ex]; exact h j y (by omega) (by omega) k3 ey
    · rw [if_neg ex]
      by_cases ex2 : x = j
      · rw [if_pos ex2]; exact h (j - 1) y (by omega) (by omega) k3 ey
      · rw [if_neg ex2]; exact h x y k1 k2 k3 ey
theorem InsI.done (o : Ord c) {l : List Int} {a i j : Nat} (h : InsI c l a i j) (h2 : j ≤ i) (hj : j ≤ a ∨ ¬ c (l.getD j 0) (l.getD (j - 1) 0) < 0) : SortedR c l a (i + 1) := by
  intro x y k1 k2 k3
  by_cases ey : y = j
  · subst ey
    rcases hj with hj | hj
    · omega
    · by_cases ex : x = y - 1
      · subst ex; exact hj
      · exact o.trans (h x (y - 1) k1 (by omega) (by omega) (by omega)) hj
  · exact h x y k1 k2 (by omega) ey

/-! ## Heaps -/
def kidOf (r ch : Nat) : Prop := ch = 2 * r + 1 ∨ ch = 2 * r + 2
def HeapR (c : Int → Int → Int) (l : List Int) (f n lo : Nat) : Prop := ∀ r ch, lo ≤ r → kidOf r ch → ch < n → Le c (l.getD (f + ch) 0) (l.getD (f + r) 0)
structure SI (c : Int → Int → Int) (l : List Int) (f n lo r : Nat) : Prop where
  ge : lo ≤ r
  all : ∀ q ch, lo ≤ q → q ≠ r → kidOf q ch → ch < n → Le c (l.getD (f + ch) 0) (l.getD (f + q) 0)
  up : ∀ q ch, lo ≤ q → kidOf q r → kidOf r ch → ch < n → Le c (l.getD (f + ch) 0) (l.getD (f + q) 0)
theorem SI.start {l : List Int} {f n lo : Nat} (h : HeapR c l f n (lo + 1)) : SI c l f n lo lo :=
  ⟨Nat.le_refl _, fun q ch h1 h2 h3 h4 => h q ch (by omega) h3 h4, fun q ch h1 h2 _ _ => by unfold kidOf at h2; omega⟩
theorem SI.step (o : Ord c) {l : List Int} {f n lo r ch : Nat} (h : SI c l f n lo r) (hk : kidOf r ch) (hn : ch < n) (hf : f + n ≤ l.length) (hc : c (l.getD (f + r) 0) (l.getD (f + ch) 0) < 0) (hs : ∀ s, kidOf r s → s < n → Le c (l.getD (f + s) 0) (l.getD (f + ch) 0)) : SI c (swp l (f + r) (f + ch)) f n lo ch := by
  have hr : r < ch := by unfold kidOf at hk; omega
  have g := fun k => swp_get (l := l) (i := f + r) (j := f + ch) (by omega) (by omega) k
  have hge := h.ge
  refine ⟨by omega, fun q s h1 h2 h3 h4 => ?_, fun q s h1 h2 h3 h4 => ?_⟩
  · rw [g, g]
    by_cases eq : q = r
    · subst eq
      rw [if_neg (show ¬ f + q = f + ch by omega), if_pos (Eq.refl (f + q))]
      by_cases es : s = ch
      · subst es
        rw [if_pos (Eq.refl (f + s))]; exact o.lt hc
      · rw [if_neg (by omega), if_neg (show ¬ f + s = f + q by unfold kidOf at h3; omega)]
        exact hs s h3 h4
    · rw [if_neg (show ¬ f + q = f + ch by omega), if_neg (show ¬ f + q = f + r by omega)]
      have es : s ≠ ch := fun e => by subst e; unfold kidOf at h3 hk; omega
      rw [if_neg (show ¬ f + s = f + ch by omega)]
      by_cases er : s = r
      · subst er
        rw [if_pos (Eq.refl (f + s))]
        exact h.up q ch h1 h3 hk hn
      · rw [if_neg (by omega)]
        exact h.all q s h1 eq h3 h4
  · have eq : q = r := by unfold kidOf at h2 hk; omega
    subst eq
    rw [g, g, if_neg (show ¬ f + q = f + ch by omega), if_pos (Eq.refl (f + q)), if_neg (show ¬ f + s = f + ch by unfold kidOf at h3; omega), if_neg (show ¬ f + s = f + q by unfold kidOf at h3; omega)]
    exact h.all ch s (by omega) (by omega) h3 h4
theorem SI.done {l : List Int} {f n lo r : Nat} (h : SI c l f n lo r) (hd : ∀ s, kidOf r s → s < n → Le c (l.getD (f + s) 0) (l.getD (f + r) 0)) : HeapR c l f n lo := by
  intro q ch h1 h2 h3
  by_cases e : q = r
  · subst e; exact hd ch h2 h3
  · exact h.all q ch h1 e h2 h3
theorem HeapR.top (o : Ord c) {l : List Int} {f n : Nat} (h : HeapR c l f n 0) : ∀ k, k < n → Le c (l.getD (f + k) 0) (l.getD f 0) := by
  intro k
  induction k using Nat.strongRecOn with
  | _ k ih =>
    intro hk
    rcases Nat.eq_zero_or_pos k with e | e
    · subst e; exact o.rfl
    · exact o.trans (h ((k - 1) / 2) k (Nat.zero_le _) (by unfold kidOf; omega) hk) (ih ((k - 1) / 2) (by omega) (by omega))
theorem HeapR.zero {l : List Int} {f n lo : Nat} (h : n ≤ 2 * lo + 1) : HeapR c l f n lo := fun r ch h1 h2 h3 => by unfold kidOf at h2; omega

/-- The tail of a range is in order with all. -/
def TailR (c : Int → Int → Int) (l : List Int) (f n i : Nat) : Prop := ∀ x y, f ≤ x → x < y → y < f + n → f + i ≤ y → Le c (l.getD x 0) (l.getD y 0)
theorem TailR.sw {l m : List Int} {f n i : Nat} (h : TailR c l f n i) (s : Sw f (f + i) l m) : TailR c m f n i := by
  intro x y h1 h2 h3 h4
  rw [s.out (k := y) (.inr h4)]
  by_cases e : x < f + i
  · exact s.all (P := fun z => Le c z (l.getD y 0)) (fun k k1 k2 => h k y k1 (by omega) h3 h4) x h1 e
  · rw [s.out (k := x) (.inr (by omega))]
    exact h x y h1 h2 h3 h4
/-- The greatest is put ahead of the tail. -/
theorem heap_pop (o : Ord c) {l : List Int} {f n i : Nat} (h : HeapR c l f (i + 1) 0) (t : TailR c l f n (i + 1)) (hi : i < n) (hf : f + n ≤ l.length) : HeapR c (swp l f (f + i)) f i 1 ∧ TailR c (swp l f (f + i)) f n i := by
  have g := fun k => swp_get (l := l) (i := f) (j := f + i) (by omega) (by omega) k
  have top := h.top o
  refine ⟨fun r ch h1 h2 h3 => ?_, fun x y h1 h2 h3 h4 => ?_⟩
  · have : r < ch := by unfold kidOf at h2; omega
    rw [g, g, if_neg (by omega), if_neg (by omega), if_neg (by omega), if_neg (by omega)]
    exact h r ch (Nat.zero_le _) h2 (by omega)
  · by_cases e : y = f + i
    · subst e
      rw [g, g, if_neg (by omega), if_pos (Eq.refl (f + i))]
      by_cases ex : x = f
      · subst ex
        rw [if_pos (Eq.refl x)]
        exact top i (by omega)
      · rw [if_neg ex]
        have := top (x - f) (by omega)
        rwa [show f + (x - f) = x by omega] at this
    · rw [g, g, if_neg (show ¬ y = f + i by omega), if_neg (show ¬ y = f by omega)]
      by_cases ex : x = f + i
      · rw [if_pos ex]; exact t f y (Nat.le_refl _) (by omega) h3 (by omega)
      · rw [if_neg ex]
        by_cases ex2 : x = f
        · rw [if_pos ex2]; exact t (f + i) y (by omega) (by omega) h3 (by omega)
        · rw [if_neg ex2]; exact t x y h1 h2 h3 (by omega)
theorem TailR.full {l : List Int} {f n : Nat} (h : TailR c l f n 0) : SortedR c l f (f + n) := fun i j h1 h2 h3 => h i j h1 h2 h3 (by omega)

/-! ## Partitions -/
structure PartI (c : Int → Int → Int) (l : List Int) (a b i j : Nat) : Prop where
  lo : ∀ k, a < k → k < i → c (l.getD k 0) (l.getD a 0) < 0
  hi : ∀ k, j < k → k < b → ¬ c (l.getD k 0) (l.getD a 0) < 0
theorem PartI.swap {l : List Int} {a b i j : Nat} (h : PartI c l a b i j) (ha : a < i) (hij : i < j) (hb : j < b) (hl : b ≤ l.length) (h1 : ¬ c (l.getD i 0) (l.getD a 0) < 0) (h2 : c (l.getD j 0) (l.getD a 0) < 0) : PartI c (swp l i j) a b (i + 1) (j - 1) := by
  have g := fun k => swp_get (l := l) (i := i) (j := j) (by omega) (by omega) k
  refine ⟨fun k k1 k2 => ?_, fun k k1 k2 => ?_⟩ <;> rw [g, g, if_neg (show ¬ a = j by omega), if_neg (show ¬ a = i by omega)]
  · rw [if_neg (show ¬ k = j by omega)]
    by_cases e : k = i
    · rw [if_pos e]; exact h2
    · rw [if_neg e]; exact h.lo k k1 (by omega)
  · by_cases e : k = j
    · rw [if_pos e]; exact h1
    · rw [if_neg e, if_neg (by omega)]; exact h.hi k (by omega) k2
theorem PartI.done {l : List Int} {a b j : Nat} (h : PartI c l a b (j + 1) j) (ha : a ≤ j) (hb : j < b) (hl : b ≤ l.length) : (∀ k, a ≤ k → k < j → c ((swp l j a).getD k 0) ((swp l j a).getD j 0) < 0) ∧ (∀ k, j < k → k < b → ¬ c ((swp l j a).getD k 0) ((swp l j a).getD j 0) < 0) := by
  have g := fun k => swp_get (l := l) (i := j) (j := a) (by omega) (by omega) k
  have ej : (swp l j a).getD j 0 = l.getD a 0 := by
    rw [g]
    by_cases e : j = a
    · rw [if_pos e, e]
    · rw [if_neg e, if_pos (Eq.refl j)]
  rw [ej]
  refine ⟨fun k k1 k2 => ?_, fun k k1 k2 => ?_⟩ <;> rw [g]
  · by_cases e : k = a
    · rw [if_pos e]; exact h.lo j (by omega) (by omega)
    · rw [if_neg e, if_neg (by omega)]; exact h.lo k (by omega) (by omega)
  · rw [if_neg (by omega), if_neg (by omega)]; exact h.hi k k1 k2

structure PartE (c : Int → Int → Int) (l : List Int) (a b i j : Nat) : Prop where
  lo : ∀ k, a < k → k < i → ¬ c (l.getD a 0) (l.getD k 0) < 0
  hi : ∀ k, j < k → k < b → c (l.getD a 0) (l.getD k 0) < 0
theorem PartE.swap {l : List Int} {a b i j : Nat} (h : PartE c l a b i j) (ha : a < i) (hij : i < j) (hb : j < b) (hl : b ≤ l.length) (h1 : c (l.getD a 0) (l.getD i 0) < 0) (h2 : ¬ c (l.getD a 0) (l.getD j 0) < 0) : PartE c (swp l i j) a b (i + 1) (j - 1) := by
  have g := fun k => swp_get (l := l) (i := i) (j := j) (by omega) (by omega) k
  refine ⟨fun k k1 k2 => ?_, fun k k1 k2 => ?_⟩ <;> rw [g, g, if_neg (show ¬ a = j by omega), if_neg (show ¬ a = i by omega)]
  · rw [if_neg (show ¬ k = j by omega)]
    by_cases e : k = i
    · rw [if_pos e]; exact h2
    · rw [if_neg e]; exact h.lo k k1 (by omega)
  · by_cases e : k = j
    · rw [if_pos e]; exact h1
    · rw [if_neg e, if_neg (by omega)]; exact h.hi k (by omega) k2

/-- Behind a partition of equal ones. -/
theorem done_equal (o : Ord c) {l : List Int} {a0 b0 a b m : Nat} (h : DoneR c l a0 b0 a b) (ha0 : a0 ≤ a) (hm : a < m) (_ : m ≤ b) (lo : ∀ k, a < k → k < m → ¬ c (l.getD a 0) (l.getD k 0) < 0) (hi : ∀ k, m ≤ k → k < b → c (l.getD a 0) (l.getD k 0) < 0) (least : ∀ k, a ≤ k → k < b → Le c (l.getD a 0) (l.getD k 0)) : DoneR c l a0 b0 m b := by
  have low : ∀ k, a ≤ k → k < m → Le c (l.getD k 0) (l.getD a 0) := fun k k1 k2 => by
    by_cases e : k = a
    · subst e; exact o.rfl
    · exact lo k (by omega) k2
  intro i j h1 h2 h3 h4
  by_cases e : a ≤ i ∧ j < b
  · exact o.trans (low i e.1 (by omega)) (least j (by omega) e.2)
  · exact h i j h1 h2 h3 e
/-- Behind a partition, one side sorted. -/
theorem done_left (o : Ord c) {l : List Int} {a0 b0 a b m : Nat} (h : DoneR c l a0 b0 a b) (ha : a ≤ m) (hmb : m < b) (lo : ∀ k, a ≤ k → k < m → c (l.getD k 0) (l.getD m 0) < 0) (hi : ∀ k, m < k → k < b → ¬ c (l.getD k 0) (l.getD m 0) < 0) (s : SortedR c l a m) : DoneR c l a0 b0 (m + 1) b := by
  intro i j h1 h2 h3 h4
  by_cases e : a ≤ i ∧ j < b
  · by_cases ei : i < m
    · by_cases ej : j < m
      · exact s i j e.1 h2 ej
      · by_cases ejm : j = m
        · subst ejm; exact o.lt (lo i e.1 ei)
        · exact o.trans (o.lt (lo i e.1 ei)) (hi j (by omega) e.2)
    · have : i = m := by omega
      subst this
      exact hi j h2 e.2
  · exact h i j h1 h2 h3 e
theorem done_right (o : Ord c) {l : List Int} {a0 b0 a b m : Nat} (h : DoneR c l a0 b0 a b) (ha : a ≤ m) (hmb : m < b) (lo : ∀ k, a ≤ k → k < m → c (l.getD k 0) (l.getD m 0) < 0) (hi : ∀ k, m < k → k < b → ¬ c (l.getD k 0) (l.getD m 0) < 0) (s : SortedR c l (m + 1) b) : DoneR c l a0 b0 a m := by
  intro i j h1 h2 h3 h4
  by_cases e : a ≤ i ∧ j < b
  · by_cases ei : i < m
    · by_cases ejm : j = m
      · subst ejm; exact o.lt (lo i e.1 ei)
      · exact o.trans (o.lt (lo i e.1 ei)) (hi j (by omega) e.2)
    · by_cases eim : i = m
      · subst eim; exact hi j h2 e.2
      · exact s i j (by omega) h2 e.2
  · exact h i j h1 h2 h3 e

/-- Lists in order of the same elements are the same, where no two are alike. -/
theorem sorted_adj {l : List Int} {a b : Nat} (o : Ord c) (h : ∀ k, a < k → k < b → ¬ c (l.getD k 0) (l.getD (k - 1) 0) < 0) : SortedR c l a b := by
  intro i j h1 h2 h3
  induction j with
  | zero => omega
  | succ j ih =>
    by_cases e : i = j
    · subst e
      have := h (i + 1) (by omega) h3
      rwa [Nat.add_sub_cancel] at this
    · refine o.trans (ih (by omega) (by omega)) ?_
      have := h (j + 1) (by omega) h3
      rwa [Nat.add_sub_cancel] at this
end Go.SoP
