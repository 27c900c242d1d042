/- Layer 19: what an order's literals tell. -/
import Derived.Test.YtambabpklfeaoaaVec5
import Derived.Test.YtambabpklfeaoaaPureA
namespace Go.Proofs.Ytambabpklfeaoaa.W
open Go Go.Fw Go.RowKit Go.TsP Go.AgP

/-- A square of bools that is so. -/
def rowsB (n : Nat) (rows : List (List Bool)) (M : Nat → Nat → Bool) : Prop := rows.length = n ∧ ∀ i, i < n → (rows.getD i []).length = n ∧ ∀ j, j < n → (rows.getD i []).getD j false = M i j
theorem rowsB.set {n : Nat} {rows : List (List Bool)} {M : Nat → Nat → Bool} (h : rowsB n rows M) {i j : Nat} (hi : i < n) (hj : j < n) (x : Bool) : rowsB n (rows.set i ((rows.getD i []).set j x)) (fun a b => if a = i ∧ b = j then x else M a b) := by
  obtain ⟨h1, h2⟩ := h
  refine ⟨by rw [List.length_set]; exact h1, fun a ha => ?_⟩
  rw [getD_set (by omega)]
  by_cases e : a = i
  · subst e
    rw [if_pos rfl]
    refine ⟨by rw [List.length_set]; exact (h2 a ha).1, fun b hb => ?_⟩
    rw [getD_set (by rw [(h2 a ha).1]; exact hj)]
    by_cases e2 : b = j
    · simp [e2]
    · simp only [e2, if_false, and_false]; exact (h2 a ha).2 b hb
  · rw [if_neg e]
    refine ⟨(h2 a ha).1, fun b hb => ?_⟩
    simp only [e, false_and, if_false]; exact (h2 a ha).2 b hb
theorem rowsB.congr {n : Nat} {rows : List (List Bool)} {M N : Nat → Nat → Bool} (h : rowsB n rows M) (e : ∀ i j, i < n → j < n → M i j = N i j) : rowsB n rows N :=
  ⟨h.1, fun i hi => ⟨(h.2 i hi).1, fun j hj => ((h.2 i hi).2 j hj).trans (e i j hi hj)⟩⟩

/-- What of a square is told by the first inputs. -/
def sM (n : Nat) (ins : List Bool) (t i j : Nat) : Bool := if i < j then (if pidx n i j < t then ins.getD (pidx n i j) false else false) else if j < i then (if pidx n j i < t then !ins.getD (pidx n j i) false else false) else false
theorem sM_step {n i j : Nat} {ins : List Bool} (h1 : i < j) (h2 : j < n) (a b : Nat) (ha : a < n) (hb : b < n) :
    (if a = j ∧ b = i then !ins.getD (pidx n i j) false else if a = i ∧ b = j then ins.getD (pidx n i j) false else sM n ins (pidx n i j) a b) = sM n ins (pidx n i j + 1) a b := by
  unfold sM
  by_cases e1 : a = j ∧ b = i
  · obtain ⟨rfl, rfl⟩ := e1
    rw [if_pos ⟨rfl, rfl⟩, if_neg (by omega), if_pos h1, if_pos (by omega)]
  · rw [if_neg e1]
    by_cases e2 : a = i ∧ b = j
    · obtain ⟨rfl, rfl⟩ := e2
      rw [if_pos ⟨rfl, rfl⟩, if_pos h1, if_pos (by omega)]
    · rw [if_neg e2]
      by_cases c1 : a < b
      · rw [if_pos c1, if_pos c1]
        have : pidx n a b ≠ pidx n i j := fun e => e2 (pidx_inj h1 h2 c1 hb e)
        by_cases c2 : pidx n a b < pidx n i j
        · rw [if_pos c2, if_pos (by omega)]
        · rw [if_neg c2, if_neg (by omega)]
      · rw [if_neg c1, if_neg c1]
        by_cases c3 : b < a
        · rw [if_pos c3, if_pos c3]
          have : pidx n b a ≠ pidx n i j := fun e => e1 (by have := pidx_inj h1 h2 c3 ha e; omega)
          by_cases c2 : pidx n b a < pidx n i j
          · rw [if_pos c2, if_pos (by omega)]
          · rw [if_neg c2, if_neg (by omega)]
        · rw [if_neg c3, if_neg c3]

/-- What inputs tell of a square. -/
def sF (n : Nat) (ins : List Bool) (i j : Nat) : Bool := if i < j then ins.getD (pidx n i j) false else if j < i then !ins.getD (pidx n j i) false else false
theorem sM_full {n i j : Nat} {ins : List Bool} (hi : i < n) (hj : j < n) : sM n ins (pst n n) i j = sF n ins i j := by
  unfold sM sF
  by_cases c1 : i < j
  · rw [if_pos c1, if_pos c1, if_pos (pidx_lt c1 hj)]
  · rw [if_neg c1, if_neg c1]
    by_cases c2 : j < i
    · rw [if_pos c2, if_pos c2, if_pos (pidx_lt c2 hi)]
    · rw [if_neg c2, if_neg c2]
theorem sF_irr (n : Nat) (ins : List Bool) (i : Nat) : sF n ins i i = false := by unfold sF; rw [if_neg (by omega), if_neg (by omega)]
theorem sF_flip {n : Nat} {ins : List Bool} {i j : Nat} (h : i ≠ j) : sF n ins j i = !sF n ins i j := by
  unfold sF
  by_cases c : i < j
  · rw [if_neg (by omega), if_pos c, if_pos c]
  · rw [if_pos (by omega), if_neg c, if_pos (by omega), Bool.not_not]
theorem ord_truth {n : Nat} (hN : pst n n ≤ 1048576) (ins : List Bool) {i j : Nat} (hi : i < n) (hj : j < n) : truth (List.replicate (pst n n) (-1, -1)) ins (ordM n 0 (pst n n) i j) = sF n ins i j := by
  unfold ordM sF
  by_cases c1 : i < j
  · have hp := pidx_lt c1 hj
    rw [if_pos c1, if_pos c1, if_pos hp, Nat.zero_add]
    exact (truth_rep hN ins hp).1
  · rw [if_neg c1, if_neg c1]
    by_cases c2 : j < i
    · have hp := pidx_lt c2 hi
      rw [if_pos c2, if_pos c2, if_pos hp, Nat.zero_add]
      exact (truth_rep hN ins hp).2
    · rw [if_neg c2, if_neg c2]
      exact truth_lt (by omega)

theorem asked_order {n : Nat} (hN : pst n n ≤ 1048576) (ins : List Bool) : askedP (List.replicate (pst n n) (-1, -1)) (mustO (ordM n 0 (pst n n)) n n) ins = true ↔ ∀ i j k, i < n → j < n → k < n → sF n ins i j = true → sF n ins j k = true → sF n ins i k = true := by
  have tf : ∀ i j, i < n → j < n → truth (List.replicate (pst n n) (-1, -1)) ins (flip (ordM n 0 (pst n n) i j)) = !sF n ins i j := fun i j hi hj => by
    rw [flip_eq, truth_flip (ordM_bd i j).1, ord_truth hN ins hi hj]
  have any3 : ∀ i j k, i < n → j < n → k < n → ([flip (ordM n 0 (pst n n) i j), flip (ordM n 0 (pst n n) j k), ordM n 0 (pst n n) i k].any (truth (List.replicate (pst n n) (-1, -1)) ins)) = (!sF n ins i j || (!sF n ins j k || sF n ins i k)) := fun i j k hi hj hk => by
    simp only [List.any_cons, List.any_nil, Bool.or_false, tf i j hi hj, tf j k hj hk, ord_truth hN ins hi hk]
  unfold askedP
  rw [List.all_eq_true]
  constructor
  · intro h i j k hi hj hk h1 h2
    by_cases e1 : i = j
    · subst e1; rw [sF_irr] at h1; cases h1
    · by_cases e2 : j = k
      · subst e2; rw [sF_irr] at h2; cases h2
      · by_cases e3 : i = k
        · subst e3; rw [sF_flip e1, h1] at h2; cases h2
        · have := h [flip (ordM n 0 (pst n n) i j), flip (ordM n 0 (pst n n) j k), ordM n 0 (pst n n) i k] (by
            refine List.mem_flatMap.2 ⟨i, List.mem_range.2 hi, List.mem_flatMap.2 ⟨j, List.mem_range.2 hj, List.mem_flatMap.2 ⟨k, List.mem_range.2 hk, ?_⟩⟩⟩
            unfold mustK
            rw [if_pos ⟨e1, e2, e3⟩]; exact List.mem_singleton.2 rfl)
          rw [any3 i j k hi hj hk, h1, h2] at this
          simpa using this
  · intro h c hc
    obtain ⟨i, hi, hc⟩ := List.mem_flatMap.1 hc
    obtain ⟨j, hj, hc⟩ := List.mem_flatMap.1 hc
    obtain ⟨k, hk, hc⟩ := List.mem_flatMap.1 hc
    have hi := List.mem_range.1 hi
    have hj := List.mem_range.1 hj
    have hk := List.mem_range.1 hk
    unfold mustK at hc
    split at hc
    · have := List.mem_singleton.1 hc
      subst this
      rw [any3 i j k hi hj hk]
      have := h i j k hi hj hk
      cases h1 : sF n ins i j <;> cases h2 : sF n ins j k <;> simp
      exact this h1 h2
    · cases hc
theorem isOrd_iff {n : Nat} {rows : List (List Bool)} {ins : List Bool} (h : rowsB n rows (sF n ins)) : IsOrd rows n ↔ ∀ i j k, i < n → j < n → k < n → sF n ins i j = true → sF n ins j k = true → sF n ins i k = true := by
  have m : ∀ i j, i < n → j < n → mB rows i j = sF n ins i j := fun i j hi hj => (h.2 i hi).2 j hj
  constructor
  · intro ho i j k hi hj hk h1 h2
    have := (ho i j hi hj).2 k hk
    unfold Tri at this
    rw [m i j hi hj, m j k hj hk, m i k hi hk] at this
    exact this h1 h2
  · intro ho i j hi hj
    refine ⟨⟨fun e => ?_, fun e => ?_⟩, fun k hk => ?_⟩
    · rw [m i j hi hj, e, sF_irr]
    · rw [m i j hi hj, m j i hj hi, sF_flip e]
      cases sF n ins i j <;> simp
    · unfold Tri
      rw [m i j hi hj, m j k hj hk, m i k hi hk]
      exact ho i j k hi hj hk
theorem mustO_len (A : Nat → Nat → Int) (n m : Nat) : (mustO A n m).length ≤ m * (n * n) := by
  have h3 : ∀ i j, (mustJ A i j n).length ≤ n := fun i j => by
    have := flat_le (f := mustK A i j) (b := 1) (fun k => by unfold mustK; split <;> simp) (List.range n)
    rwa [List.length_range, Nat.mul_one] at this
  have h2 : ∀ i, (mustI A n i n).length ≤ n * n := fun i => by
    have := flat_le (f := fun j => mustJ A i j n) (b := n) (h3 i) (List.range n)
    rwa [List.length_range] at this
  have := flat_le (f := fun i => mustI A n i n) (b := n * n) h2 (List.range m)
  rwa [List.length_range] at this
theorem mustO_bd {n g0 : Nat} {m : Nat} : ∀ c ∈ mustO (ordM n g0 (pst n n)) n m, ∀ l ∈ c, -1073741824 ≤ l ∧ l ≤ 2 * ((g0 + pst n n : Nat) : Int) + 1 := by
  intro c hc l hl
  obtain ⟨i, _, hc⟩ := List.mem_flatMap.1 hc
  obtain ⟨j, _, hc⟩ := List.mem_flatMap.1 hc
  obtain ⟨k, _, hc⟩ := List.mem_flatMap.1 hc
  have fb : ∀ a b, 0 ≤ flip (ordM n g0 (pst n n) a b) ∧ flip (ordM n g0 (pst n n) a b) ≤ 2 * ((g0 + pst n n : Nat) : Int) + 1 := fun a b => by
    have := ordM_bd (n := n) (g0 := g0) (t := pst n n) a b
    unfold flip
    split <;> omega
  unfold mustK at hc
  split at hc
  · have := List.mem_singleton.1 hc
    subst this
    simp only [List.mem_cons, List.not_mem_nil, or_false] at hl
    rcases hl with rfl | rfl | rfl
    · have := fb i j; omega
    · have := fb j k; omega
    · have := ordM_bd (n := n) (g0 := g0) (t := pst n n) i k; omega
  · cases hc
/-- How many literals ahead of a thing are true. -/
theorem cnt_col {n : Nat} (hN : pst n n ≤ 1048576) {ins : List Bool} {rows : List (List Int)} (h : rowsAre n rows (ordM n 0 (pst n n))) {i : Nat} (hi : i < n) :
    cntT (List.replicate (pst n n) (-1, -1)) ins (col rows i n) = (List.range n).countP fun k => k != i && sF n ins k i := by
  unfold cntT col
  rw [List.countP_map, List.countP_filter]
  refine List.countP_congr fun k hk => ?_
  have hk := List.mem_range.1 hk
  show ((truth _ ins ((rows.getD k []).getD i 0)) && (k != i)) = true ↔ _
  rw [(h.2 k hk).2 i hi, ord_truth hN ins hk hi, Bool.and_comm]
end Go.Proofs.Ytambabpklfeaoaa.W
