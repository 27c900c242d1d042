/- The row of layer 10 in plain numbers. -/
namespace Go.Luby

def bl (n : Nat) : Nat := if n = 0 then 0 else n.log2 + 1

theorem bl_lt (n : Nat) : n < 2 ^ bl n := by
  unfold bl
  split
  · subst_vars; decide
  · exact Nat.lt_log2_self

theorem bl_le {n : Nat} (h : 0 < n) : 1 ≤ bl n ∧ 2 ^ (bl n - 1) ≤ n := by
  unfold bl
  rw [if_neg (by omega)]
  exact ⟨by omega, by simpa using Nat.log2_self_le (by omega)⟩

theorem bl_uniq {n k : Nat} (h1 : n < 2 ^ k) (h2 : k = 0 ∨ 2 ^ (k - 1) ≤ n) : bl n = k := by
  rcases Nat.eq_zero_or_pos n with h0 | h0
  · subst h0
    rcases h2 with h2 | h2
    · subst h2; rfl
    · have := Nat.two_pow_pos (k - 1); omega
  · obtain ⟨g1, g2⟩ := bl_le h0
    have g3 := bl_lt n
    rcases Nat.lt_trichotomy (bl n) k with h | h | h
    · have : 2 ^ bl n ≤ 2 ^ (k - 1) := Nat.pow_le_pow_right (by omega) (by omega)
      omega
    · exact h
    · have : 2 ^ k ≤ 2 ^ (bl n - 1) := Nat.pow_le_pow_right (by omega) (by omega)
      omega

theorem bl_bound {n k : Nat} (h : n < 2 ^ k) : bl n ≤ k := by
  rcases Nat.eq_zero_or_pos n with h0 | h0
  · subst h0; exact Nat.zero_le _
  · obtain ⟨g1, g2⟩ := bl_le h0
    rcases Nat.lt_or_ge k (bl n) with h' | h'
    · have : 2 ^ k ≤ 2 ^ (bl n - 1) := Nat.pow_le_pow_right (by omega) (by omega)
      omega
    · exact h'

theorem two_pow_succ (k : Nat) : 2 ^ (k + 1) = 2 * 2 ^ k := by rw [Nat.pow_succ, Nat.mul_comm]

theorem bl_pos2 {n : Nat} (h : 0 < n) (hf : n + 1 ≠ 2 ^ bl n) : 2 ≤ bl n ∧ 1 ≤ 2 ^ (bl n - 1) - 1 ∧ 2 ^ (bl n - 1) - 1 < n := by
  obtain ⟨g1, g2⟩ := bl_le h
  have h2 : 2 ≤ bl n := by
    rcases Nat.lt_or_ge (bl n) 2 with h' | h'
    · have e : bl n = 1 := by omega
      have := bl_lt n
      rw [e] at this hf
      omega
    · exact h'
  obtain ⟨j, hj⟩ : ∃ j, bl n = j + 2 := ⟨bl n - 2, by omega⟩
  rw [hj] at g2 ⊢
  have e : j + 2 - 1 = j + 1 := by omega
  rw [e] at g2 ⊢
  have := two_pow_succ j
  have := Nat.two_pow_pos j
  omega

/-- A number of the row. -/
def lub (i : Nat) : Nat := if h : i + 1 = 2 ^ bl i then 2 ^ (bl i - 1) else lub (i - (2 ^ (bl i - 1) - 1))
termination_by i
decreasing_by
  have h0 : 0 < i := by
    rcases Nat.eq_zero_or_pos i with h0 | h0
    · subst h0; exact absurd rfl h
    · exact h0
  have := bl_pos2 h0 h
  omega

theorem lub_full {i : Nat} (h : i + 1 = 2 ^ bl i) : lub i = 2 ^ (bl i - 1) := by rw [lub, dif_pos h]
theorem lub_rest {i : Nat} (h : i + 1 ≠ 2 ^ bl i) : lub i = lub (i - (2 ^ (bl i - 1) - 1)) := by rw [lub, dif_neg h]

theorem bl_of_full (k : Nat) : bl (2 ^ (k + 1) - 1) = k + 1 := by
  have := Nat.two_pow_pos k
  have := two_pow_succ k
  refine bl_uniq (by omega) (.inr ?_)
  simp
  omega

theorem lub_at_full (k : Nat) : lub (2 ^ (k + 1) - 1) = 2 ^ k := by
  have := Nat.two_pow_pos (k + 1)
  rw [lub_full (by rw [bl_of_full]; omega), bl_of_full]
  simp

/-- Behind a full part stands what stands at the beginning. -/
theorem lub_behind {k i : Nat} (h1 : 1 ≤ i) (h2 : i ≤ 2 ^ k - 1) : lub (2 ^ k - 1 + i) = lub i := by
  have := Nat.two_pow_pos k
  have hb : bl (2 ^ k - 1 + i) = k + 1 := by
    have := two_pow_succ k
    exact bl_uniq (by omega) (.inr (by simp; omega))
  have hs := two_pow_succ k
  rw [lub_rest (by rw [hb]; omega), hb]
  simp only [Nat.add_sub_cancel]
  congr 1
  omega

theorem lub_pow : ∀ i : Nat, ∃ j, lub i = 2 ^ j := by
  intro i
  induction i using Nat.strongRecOn with
  | _ i ih =>
    by_cases h : i + 1 = 2 ^ bl i
    · exact ⟨_, lub_full h⟩
    · rw [lub_rest h]
      have h0 : 0 < i := by
        rcases Nat.eq_zero_or_pos i with h0 | h0
        · subst h0; exact absurd rfl h
        · exact h0
      have := bl_pos2 h0 h
      exact ih _ (by omega)

theorem lub_le : ∀ i : Nat, 1 ≤ i → lub i ≤ i := by
  intro i
  induction i using Nat.strongRecOn with
  | _ i ih =>
    intro h0
    by_cases h : i + 1 = 2 ^ bl i
    · rw [lub_full h]
      exact (bl_le h0).2
    · rw [lub_rest h]
      have := bl_pos2 h0 h
      have := ih (i - (2 ^ (bl i - 1) - 1)) (by omega) (by omega)
      omega

theorem lub_ge (i : Nat) : 1 ≤ lub i := by
  obtain ⟨j, hj⟩ := lub_pow i
  rw [hj]
  exact Nat.two_pow_pos j

/-- The first numbers, together. -/
def sum : Nat → Nat
  | 0 => 0
  | n + 1 => sum n + lub (n + 1)

theorem sum_behind (k : Nat) : ∀ i : Nat, i ≤ 2 ^ k - 1 → sum (2 ^ k - 1 + i) = sum (2 ^ k - 1) + sum i
  | 0, _ => by simp [sum]
  | i + 1, h => by
    have ih := sum_behind k i (by omega)
    show sum (2 ^ k - 1 + i + 1) = _
    simp only [sum]
    rw [ih, Nat.add_assoc (2 ^ k - 1) i 1, lub_behind (by omega) h]
    omega

theorem sum_full : ∀ k : Nat, sum (2 ^ k - 1) = k * 2 ^ k / 2
  | 0 => by simp [sum]
  | k + 1 => by
    have ih := sum_full k
    have hp := Nat.two_pow_pos k
    have hs := two_pow_succ k
    have h1 := sum_behind k (2 ^ k - 1) (Nat.le_refl _)
    have e : 2 ^ (k + 1) - 1 = (2 ^ k - 1 + (2 ^ k - 1)) + 1 := by omega
    rw [e]
    simp only [sum]
    rw [h1, ← e, lub_at_full, ih, hs]
    have : (k + 1) * (2 * 2 ^ k) = 2 * ((k + 1) * 2 ^ k) := by rw [Nat.mul_left_comm]
    rw [this, Nat.mul_div_cancel_left _ (by omega)]
    rcases k with _ | k
    · simp
    · have e2 : (k + 1) * 2 ^ (k + 1) / 2 = (k + 1) * 2 ^ k := by
        rw [two_pow_succ, Nat.mul_left_comm, Nat.mul_div_cancel_left _ (by omega)]
      rw [e2, two_pow_succ]
      have : (k + 1 + 1) * (2 * 2 ^ k) = 2 * ((k + 1) * 2 ^ k) + 2 * 2 ^ k := by
        rw [Nat.add_mul, Nat.one_mul, Nat.mul_left_comm]
      omega

/-- One full part at once. -/
theorem sum_step {n k : Nat} (hk : bl (n + 1) = k + 1) : 2 ^ k - 1 ≤ n ∧ sum n = k * 2 ^ k / 2 + sum (n - (2 ^ k - 1)) := by
  have h1 := bl_lt (n + 1)
  have h2 := (bl_le (n := n + 1) (by omega)).2
  rw [hk] at h1 h2
  simp at h2
  have hs := two_pow_succ k
  have hp := Nat.two_pow_pos k
  refine ⟨by omega, ?_⟩
  have := sum_behind k (n - (2 ^ k - 1)) (by omega)
  rw [← sum_full, ← this]
  congr 1
  omega

theorem sum_ge : ∀ n, n ≤ sum n
  | 0 => Nat.zero_le _
  | n + 1 => by have := sum_ge n; have := lub_ge (n + 1); simp only [sum]; omega

theorem sum_le : ∀ n, n < 2 ^ 31 → sum n ≤ 31 * n := by
  intro n
  induction n using Nat.strongRecOn with
  | _ n ih =>
    intro hn
    rcases Nat.eq_zero_or_pos n with h0 | h0
    · subst h0; simp [sum]
    · have hb : 1 ≤ bl (n + 1) := (bl_le (by omega)).1
      obtain ⟨k, hk⟩ : ∃ k, bl (n + 1) = k + 1 := ⟨bl (n + 1) - 1, by omega⟩
      have hk31 : k ≤ 31 := by
        have := bl_bound (n := n + 1) (k := 32) (by omega)
        omega
      obtain ⟨g1, g2⟩ := sum_step hk
      have hk1 : 1 ≤ k := by
        rcases Nat.eq_zero_or_pos k with h | h
        · subst h
          have := bl_lt (n + 1)
          rw [hk] at this
          omega
        · exact h
      obtain ⟨j, rfl⟩ : ∃ j, k = j + 1 := ⟨k - 1, by omega⟩
      have hs := two_pow_succ j
      have hp := Nat.two_pow_pos j
      have e : (j + 1) * 2 ^ (j + 1) / 2 = (j + 1) * 2 ^ j := by
        rw [hs, Nat.mul_left_comm, Nat.mul_div_cancel_left _ (by omega)]
      rw [e] at g2
      have := ih (n - (2 ^ (j + 1) - 1)) (by omega) (by omega)
      have : (j + 1) * 2 ^ j ≤ 31 * 2 ^ j := Nat.mul_le_mul_right _ hk31
      omega

end Go.Luby
