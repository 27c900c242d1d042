/- Which learned clauses stay, plain. -/
import Derived.Test.YtlpmapeojecenaaSortPure
namespace Go.RedP
open Go.SoP

abbrev Lr := Int × Int × Bool
def nth (l : List Lr) (x : Int) : Lr := l.getD x.toNat (0, 0, false)
def okL (x : Lr) : Bool := decide (0 ≤ x.2.1 ∧ x.2.1 ≤ 4096 ∧ 0 ≤ x.1 ∧ x.1 ≤ x.2.1)
def must (x : Lr) : Bool := x.2.2 || decide (x.1 ≤ 2)
def cmp (l : List Lr) (a b : Int) : Int :=
  if (nth l a).1 ≠ (nth l b).1 then (nth l a).1 - (nth l b).1 else if (nth l a).2.1 ≠ (nth l b).2.1 then (nth l a).2.1 - (nth l b).2.1 else b - a
def better (l : List Lr) (a b : Int) : Bool :=
  if (nth l a).1 ≠ (nth l b).1 then decide ((nth l a).1 < (nth l b).1) else if (nth l a).2.1 ≠ (nth l b).2.1 then decide ((nth l a).2.1 < (nth l b).2.1) else decide (a > b)
theorem better_eq (l : List Lr) (a b : Int) : better l a b = decide (cmp l a b < 0) := by
  unfold better cmp
  split
  · exact decide_eq_decide.2 (by omega)
  · split
    · exact decide_eq_decide.2 (by omega)
    · exact decide_eq_decide.2 (by omega)
theorem cmp_ord (l : List Lr) : Ord (cmp l) := by
  constructor
  · intro x y h
    unfold cmp at *
    split at h <;> split <;> (try split at h) <;> (try split) <;> omega
  · intro x y z h1 h2
    unfold Le cmp at *
    generalize nth l x = a at *
    generalize nth l y = b at *
    generalize nth l z = d at *
    split at h1 <;> split at h2 <;> split <;> (try split at h1) <;> (try split at h2) <;> (try split) <;> omega
theorem cmp_lt {l : List Lr} {a b : Int} (h : Le (cmp l) a b) (hne : a ≠ b) : cmp l a b < 0 := by
  unfold Le cmp at h
  unfold cmp
  split at h <;> split <;> (try split at h) <;> (try split) <;> omega

def idx (n : Nat) : List Int := (List.range n).map Int.ofNat
theorem idx_len (n : Nat) : (idx n).length = n := by simp [idx]
theorem idx_mem {n : Nat} {x : Int} : x ∈ idx n ↔ 0 ≤ x ∧ x < n := by
  simp only [idx, List.mem_map, List.mem_range]
  constructor
  · rintro ⟨i, h, rfl⟩; exact ⟨Int.natCast_nonneg i, by simpa using h⟩
  · intro h; exact ⟨x.toNat, by omega, by show ((x.toNat : Nat) : Int) = x; omega⟩
theorem idx_nodup (n : Nat) : (idx n).Nodup := by
  unfold idx
  exact List.Pairwise.map _ (fun a b h e => h (Int.ofNat.inj e)) List.nodup_range

def rank (l : List Lr) (x : Int) (all : Bool) : Nat := (idx l.length).countP fun i => i != x && (all || !must (nth l i)) && better l i x
def freeN (l : List Lr) : Nat := (idx l.length).countP fun i => !must (nth l i)
def keep (l : List Lr) (x : Int) : Bool := must (nth l x) || decide (rank l x false < freeN l / 2)
def cnt (l : List Lr) (o : List Int) (t : Nat) : Nat := (o.take t).countP fun i => !must (nth l i)

/-- An order of all places. -/
structure IsO (l : List Lr) (o : List Int) : Prop where
  pm : o.Perm (idx l.length)
  so : SortedR (cmp l) o 0 o.length

theorem IsO.len {l : List Lr} {o : List Int} (h : IsO l o) : o.length = l.length := by rw [h.pm.length_eq, idx_len]
theorem IsO.nd {l : List Lr} {o : List Int} (h : IsO l o) : o.Nodup := h.pm.nodup_iff.2 (idx_nodup _)
theorem IsO.rng {l : List Lr} {o : List Int} (h : IsO l o) {t : Nat} (ht : t < o.length) : 0 ≤ o.getD t 0 ∧ o.getD t 0 < l.length := by
  have : o.getD t 0 ∈ o := by simp [List.getD, ht]
  exact idx_mem.1 (h.pm.mem_iff.1 this)
theorem getD_inj {o : List Int} (h : o.Nodup) {i j : Nat} (hi : i < o.length) (hj : j < o.length) (e : o.getD i 0 = o.getD j 0) : i = j := by
  simp only [List.getD, List.getElem?_eq_getElem hi, List.getElem?_eq_getElem hj, Option.getD_some] at e
  exact (List.getElem_inj h).1 e
theorem IsO.find {l : List Lr} {o : List Int} (h : IsO l o) {x : Int} (h0 : 0 ≤ x) (h1 : x < l.length) : ∃ t, t < o.length ∧ o.getD t 0 = x := by
  have : x ∈ o := h.pm.mem_iff.2 (idx_mem.2 ⟨h0, h1⟩)
  obtain ⟨t, ht, e⟩ := List.mem_iff_getElem.1 this
  exact ⟨t, ht, by simp [List.getD, ht, e]⟩
theorem IsO.lt {l : List Lr} {o : List Int} (h : IsO l o) {i j : Nat} (hij : i < j) (hj : j < o.length) : better l (o.getD i 0) (o.getD j 0) = true ∧ better l (o.getD j 0) (o.getD i 0) = false := by
  have hs := h.so i j (Nat.zero_le _) hij hj
  rw [better_eq, better_eq]
  refine ⟨decide_eq_true (cmp_lt hs fun e => ?_), decide_eq_false hs⟩
  have := getD_inj h.nd (by omega) hj e
  omega
theorem getD_of {o : List Int} {i : Nat} (hi : i < o.length) : o[i] = o.getD i 0 := by simp [List.getD, hi]

theorem IsO.rank {l : List Lr} {o : List Int} (h : IsO l o) {t : Nat} (ht : t < o.length) (all : Bool) :
    rank l (o.getD t 0) all = (o.take t).countP fun i => all || !must (nth l i) := by
  unfold RedP.rank
  rw [← h.pm.countP_eq]
  have e1 : ∀ q : Int → Bool, o.countP q = (o.take t).countP q + (o.drop t).countP q := fun q => by rw [← List.countP_append, List.take_append_drop]
  rw [e1]
  have e2 : (o.drop t).countP (fun i => i != o.getD t 0 && (all || !must (nth l i)) && better l i (o.getD t 0)) = 0 := by
    rw [List.countP_eq_zero]
    intro x hx
    obtain ⟨j, hj, rfl⟩ := List.mem_iff_getElem.1 hx
    rw [List.getElem_drop, getD_of]
    rw [List.length_drop] at hj
    rcases Nat.eq_zero_or_pos j with e | e
    · subst e; simp
    · rw [(h.lt (i := t) (j := t + j) (by omega) (by omega)).2]; simp
  rw [e2, Nat.add_zero]
  refine List.countP_congr fun x hx => ?_
  obtain ⟨j, hj, rfl⟩ := List.mem_iff_getElem.1 hx
  rw [List.length_take] at hj
  rw [List.getElem_take, getD_of]
  have hne : o.getD j 0 ≠ o.getD t 0 := fun e => by have := getD_inj h.nd (by omega) ht e; omega
  rw [(h.lt (i := j) (j := t) (by omega) ht).1, show (o.getD j 0 != o.getD t 0) = true from bne_iff_ne.2 hne]
  simp
theorem IsO.rank_all {l : List Lr} {o : List Int} (h : IsO l o) {t : Nat} (ht : t < o.length) : RedP.rank l (o.getD t 0) true = t := by
  rw [h.rank ht true]
  simp
  omega
theorem IsO.keep {l : List Lr} {o : List Int} (h : IsO l o) {t : Nat} (ht : t < o.length) : keep l (o.getD t 0) = (must (nth l (o.getD t 0)) || decide (cnt l o t < freeN l / 2)) := by
  unfold RedP.keep
  rw [h.rank ht false]
  simp only [Bool.false_or]
  rfl
theorem cnt_succ {l : List Lr} {o : List Int} {t : Nat} (ht : t < o.length) : cnt l o (t + 1) = cnt l o t + (if must (nth l (o.getD t 0)) then 0 else 1) := by
  unfold cnt
  rw [List.take_add_one, List.countP_append]
  have : o[t]? = some (o.getD t 0) := by simp [List.getD, ht]
  rw [this]
  simp only [Option.toList_some, List.countP_cons, List.countP_nil]
  cases must (nth l (o.getD t 0)) <;> simp
theorem IsO.cnt_all {l : List Lr} {o : List Int} (h : IsO l o) : cnt l o o.length = freeN l := by
  unfold cnt freeN
  rw [List.take_length, h.pm.countP_eq]
theorem cnt_mono {l : List Lr} {o : List Int} {s t : Nat} (h : s ≤ t) (ht : t ≤ o.length) : cnt l o s ≤ cnt l o t := by
  induction t with
  | zero => rw [show s = 0 by omega]; exact Nat.le_refl _
  | succ t ih =>
    by_cases e : s = t + 1
    · rw [e]; exact Nat.le_refl _
    · rw [cnt_succ (by omega)]
      exact Nat.le_trans (ih (by omega) (by omega)) (Nat.le_add_right _ _)

/-- How many of those that need not stay do stay. -/
theorem IsO.stays {l : List Lr} {o : List Int} (h : IsO l o) : (idx l.length).countP (fun x => !must (nth l x) && RedP.keep l x) = freeN l / 2 := by
  rw [← h.pm.countP_eq]
  have H : ∀ t, t ≤ o.length → (o.take t).countP (fun x => !must (nth l x) && RedP.keep l x) = min (freeN l / 2) (cnt l o t) := by
    intro t
    induction t with
    | zero => intro _; simp [cnt]
    | succ t ih =>
      intro ht
      have ht' : t < o.length := by omega
      rw [List.take_add_one, List.countP_append, ih (by omega), cnt_succ ht']
      have : o[t]? = some (o.getD t 0) := by simp [List.getD, ht']
      rw [this]
      simp only [Option.toList_some, List.countP_cons, List.countP_nil, h.keep ht']
      cases must (nth l (o.getD t 0))
      · by_cases e : cnt l o t < freeN l / 2
        · simp [e]; omega
        · simp [e]; omega
      · simp
  have := H o.length (Nat.le_refl _)
  rw [List.take_length, h.cnt_all] at this
  rw [this]
  omega
/-- None that goes is better than one that stays, of those that need not. -/
theorem IsO.fair {l : List Lr} {o : List Int} (h : IsO l o) {i j : Int} (hi : 0 ≤ i ∧ i < l.length) (hj : 0 ≤ j ∧ j < l.length) (mi : must (nth l i) = false) (mj : must (nth l j) = false) (ki : RedP.keep l i = true) (kj : RedP.keep l j = false) : better l j i = false := by
  obtain ⟨s, hs, rfl⟩ := h.find hi.1 hi.2
  obtain ⟨t, ht, rfl⟩ := h.find hj.1 hj.2
  rw [h.keep hs, mi, Bool.false_or, decide_eq_true_eq] at ki
  rw [h.keep ht, mj, Bool.false_or, decide_eq_false_iff_not] at kj
  have : s < t := by
    rcases Nat.lt_or_ge s t with e | e
    · exact e
    · have := cnt_mono (l := l) (o := o) e (by omega)
      omega
  exact (h.lt this ht).2
theorem le_total (l : List Lr) (a b : Int) : Le (cmp l) a b ∨ Le (cmp l) b a := by
  by_cases h : cmp l b a < 0
  · exact .inr ((cmp_ord l).asym h)
  · exact .inl h
/-- There is an order of all places. -/
theorem isO_ex (l : List Lr) : ∃ o, IsO l o := by
  refine ⟨(idx l.length).mergeSort (fun a b => decide (¬ cmp l b a < 0)), List.mergeSort_perm _ _, ?_⟩
  have hp := List.pairwise_mergeSort (le := fun a b => decide (¬ cmp l b a < 0)) (fun a b c h1 h2 => by simp only [decide_eq_true_eq] at h1 h2 ⊢; exact (cmp_ord l).trans h1 h2)
    (fun a b => by rcases le_total l a b with h | h <;> simp [Le] at h ⊢ <;> omega) (idx l.length)
  intro i j _ hij hj
  have := List.pairwise_iff_getElem.1 hp i j (by omega) hj hij
  rw [getD_of, getD_of] at this
  simp only [decide_eq_true_eq] at this
  exact this
end Go.RedP
