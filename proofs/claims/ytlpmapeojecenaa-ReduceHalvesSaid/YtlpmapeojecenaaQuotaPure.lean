/- Quotas, plain. -/
namespace Go.QuP
def quo (first : Nat) : Nat → Nat
  | 0 => first
  | t + 1 => quo first t + quo first t / 10 + 1
theorem quo_le {a b : Nat} (h : a ≤ b) : ∀ t, quo a t ≤ quo b t
  | 0 => h
  | t + 1 => by
    have := quo_le h t
    unfold quo
    omega
theorem quo_mono (a : Nat) : ∀ s t, s ≤ t → quo a s ≤ quo a t := by
  intro s t h
  induction t with
  | zero => rw [show s = 0 by omega]; exact Nat.le_refl _
  | succ t ih =>
    by_cases e : s = t + 1
    · rw [e]; exact Nat.le_refl _
    · have := ih (by omega)
      have : quo a t ≤ quo a (t + 1) := by simp only [quo]; omega
      omega
theorem quo_top : quo 1048576 101 < 1000000000000 := by decide +kernel
theorem quo_bd {a t : Nat} (h : a ≤ 1048576) (ht : t ≤ 101) : quo a t < 1000000000000 :=
  Nat.lt_of_le_of_lt (Nat.le_trans (quo_le h t) (quo_mono _ t 101 ht)) quo_top
end Go.QuP
