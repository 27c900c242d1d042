/- Layer 19: what an order's square and clauses are. -/
import Derived.Test.YtambabpklfeaoaaFwMore
namespace Go.Proofs.Ytambabpklfeaoaa.W
open Go Go.Fw Go.RowKit

theorem xor_even (m : Nat) : (2 * m) ^^^ 1 = 2 * m + 1 := by
  have h := Nat.div_add_mod ((2 * m) ^^^ 1) 2
  have h2 := Nat.xor_mod_two_pow (a := 2 * m) (b := 1) (n := 1)
  have h3 : 2 * m / 2 = m := by omega
  rw [Nat.xor_div_two, h3] at h
  have h4 : 2 * m % 2 = 0 := by omega
  have h5 : (2 * m ^^^ 1) % 2 = 1 := by
    have : (2 * m ^^^ 1) % 2 ^ 1 = (2 * m ^^^ 1) % 2 := rfl
    rw [← this, h2]
    show (2 * m % 2) ^^^ 1 = 1
    rw [h4]
    rfl
  have h6 : m ^^^ 1 / 2 = m := by simp
  rw [h5, h6] at h
  omega
theorem xor_odd (m : Nat) : (2 * m + 1) ^^^ 1 = 2 * m := by
  have h := Nat.div_add_mod ((2 * m + 1) ^^^ 1) 2
  have h2 := Nat.xor_mod_two_pow (a := 2 * m + 1) (b := 1) (n := 1)
  have h3 : (2 * m + 1) / 2 = m := by omega
  rw [Nat.xor_div_two, h3] at h
  have h4 : (2 * m + 1) % 2 = 1 := by omega
  simp [h4] at h h2
  omega

/-- The other literal of a variable. -/
def flip (x : Int) : Int := if x % 2 = 0 then x + 1 else x - 1
theorem xor1 {x : Int} (h0 : 0 ≤ x) (h1 : x < 4611686018427387904) : IntKind.i64.wrap ((BitVec.ofInt (IntKind.bits .i64) x ^^^ BitVec.ofInt (IntKind.bits .i64) (1 : Int)).toNat) = flip x := by
  show IntKind.i64.wrap ((BitVec.ofInt 64 x ^^^ BitVec.ofInt 64 (1 : Int)).toNat) = flip x
  rw [BitVec.toNat_xor, BitVec.toNat_ofInt, BitVec.toNat_ofInt]
  obtain ⟨n, rfl⟩ : ∃ n : Nat, x = n := ⟨x.toNat, by omega⟩
  have e1 : ((n : Int) % ((2 ^ 64 : Nat) : Int)).toNat = n := by omega
  have e2 : ((1 : Int) % ((2 ^ 64 : Nat) : Int)).toNat = 1 := by decide
  rw [e1, e2]
  unfold flip
  rcases Nat.mod_two_eq_zero_or_one n with h | h
  · obtain ⟨m, rfl⟩ : ∃ m, n = 2 * m := ⟨n / 2, by omega⟩
    rw [xor_even, if_pos (by omega), wrap64_of (by omega) (by omega)]
    omega
  · obtain ⟨m, rfl⟩ : ∃ m, n = 2 * m + 1 := ⟨n / 2, by omega⟩
    rw [xor_odd, if_neg (by omega), wrap64_of (by omega) (by omega)]
    omega

/-- How many pairs stand ahead of a row's. -/
def pst (n : Nat) : Nat → Nat
  | 0 => 0
  | i + 1 => pst n i + (n - 1 - i)
/-- A pair's place. -/
def pidx (n i j : Nat) : Nat := pst n i + (j - i - 1)
theorem pst_le (n : Nat) : ∀ i, i ≤ n → 2 * pst n i + (n - i) * (n - i - 1) = n * (n - 1)
  | 0, _ => by simp [pst]
  | i + 1, h => by
    have ih := pst_le n i (by omega)
    obtain ⟨m, rfl⟩ : ∃ m, n = i + 1 + m := ⟨n - (i + 1), by omega⟩
    simp only [pst]
    have e1 : i + 1 + m - i = m + 1 := by omega
    have e2 : i + 1 + m - i - 1 = m := by omega
    have e3 : i + 1 + m - (i + 1) = m := by omega
    have e4 : i + 1 + m - 1 - i = m := by omega
    have e5 : i + 1 + m - (i + 1) - 1 = m - 1 := by omega
    rw [e2, e1] at ih
    rw [e4, e3]
    have : m * (m - 1) + 2 * m = (m + 1) * m := by
      cases m with
      | zero => rfl
      | succ m =>
        simp only [Nat.add_sub_cancel]
        have : (m + 1 + 1) * (m + 1) = (m + 1) * (m + 1) + (m + 1) := by rw [Nat.add_mul, Nat.one_mul]
        have : (m + 1) * (m + 1) = (m + 1) * m + (m + 1) := by rw [Nat.mul_add, Nat.mul_one]
        omega
    omega

/-- An order's square behind so many pairs, above so many nodes. -/
def ordM (n g0 t i j : Nat) : Int := if i < j then (if pidx n i j < t then 2 * (g0 + pidx n i j + 1 : Nat) else 0) else if j < i then (if pidx n j i < t then 2 * (g0 + pidx n j i + 1 : Nat) + 1 else 0) else 0

def rowsAre (n : Nat) (rows : List (List Int)) (M : Nat → Nat → Int) : Prop := rows.length = n ∧ ∀ i, i < n → (rows.getD i []).length = n ∧ ∀ j, j < n → (rows.getD i []).getD j 0 = M i j

theorem rowsAre.set {n : Nat} {rows : List (List Int)} {M : Nat → Nat → Int} (h : rowsAre n rows M) {i j : Nat} (hi : i < n) (hj : j < n) (x : Int) : rowsAre n (rows.set i ((rows.getD i []).set j x)) (fun a b => if a = i ∧ b = j then x else M a b) := by
  obtain ⟨h1, h2⟩ := h
  refine ⟨by rw [List.length_set]; exact h1, fun a ha => ?_⟩
  rw [getD_set (by omega)]
  by_cases e : a = i
  · subst e
    rw [if_pos rfl]
    refine ⟨by rw [List.length_set]; exact (h2 a ha).1, fun b hb => ?_⟩
    rw [getD_set (by rw [(h2 a ha).1]; exact hj)]
    by_cases e2 : b = j
    · simp [e2]
    · simp only [e2, if_false, and_false]; exact (h2 a ha).2 b hb
  · rw [if_neg e]
    refine ⟨(h2 a ha).1, fun b hb => ?_⟩
    simp only [e, false_and, if_false]; exact (h2 a ha).2 b hb

/-- The clauses of an order. -/
def mustK (A : Nat → Nat → Int) (i j k : Nat) : List (List Int) := if i ≠ j ∧ j ≠ k ∧ i ≠ k then [[flip (A i j), flip (A j k), A i k]] else []
def mustJ (A : Nat → Nat → Int) (i j m : Nat) : List (List Int) := (List.range m).flatMap (mustK A i j)
def mustI (A : Nat → Nat → Int) (n i m : Nat) : List (List Int) := (List.range m).flatMap fun j => mustJ A i j n
def mustO (A : Nat → Nat → Int) (n m : Nat) : List (List Int) := (List.range m).flatMap fun i => mustI A n i n
theorem mustJ_succ (A : Nat → Nat → Int) (i j m : Nat) : mustJ A i j (m + 1) = mustJ A i j m ++ mustK A i j m := by simp [mustJ, List.range_succ]
theorem mustI_succ (A : Nat → Nat → Int) (n i m : Nat) : mustI A n i (m + 1) = mustI A n i m ++ mustJ A i m n := by simp [mustI, List.range_succ]
theorem mustO_succ (A : Nat → Nat → Int) (n m : Nat) : mustO A n (m + 1) = mustO A n m ++ mustI A n m n := by simp [mustO, List.range_succ]

end Go.Proofs.Ytambabpklfeaoaa.W
