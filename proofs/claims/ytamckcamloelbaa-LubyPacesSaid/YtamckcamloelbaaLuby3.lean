/- Layer 10: the laws of powers. -/
import Derived.Test.YtamckcamloelbaaLuby2
import Derived.Test.YtamckcamloelbaaFwEq
namespace Go.Proofs.Ytamckcamloelbaa.W
open Go Go.Fw Go.RowKit Go.Luby

theorem pow_and : ∀ j : Nat, j ≤ 62 → BitVec.ofInt 64 ((2 ^ j : Nat) : Int) &&& BitVec.ofInt 64 (((2 ^ j : Nat) : Int) - 1) = 0#64 := by decide +kernel

theorem LubyPowers_calls (k i : Int) (hk : 0 ≤ k ∧ k < 256) (w : World) : Calls Try.prog fathomlaw10_LubyPowers.id #[.int .u8 k, .int .i64 i] w fun e w' => e = .returned (.bool true) ∧ Same w w' := by
  refine fathomlaw10_LubyPowers.calls ?_
  unfold fathomlaw10_LubyPowers.w
  obtain ⟨n, hn, hn2⟩ : ∃ n : Nat, IntKind.i64.wrap (1 + IntKind.i64.wrap (k.tmod 29)) = ((n + 1 : Nat) : Int) ∧ n ≤ 28 := by
    refine ⟨(k % 29).toNat, ?_, by omega⟩
    have : k.tmod 29 = k % 29 := by rw [Int.tmod_eq_emod_of_nonneg (by omega)]
    rw [this, wrap64_of (x := k % 29) (by omega) (by omega), wrap64_of (by omega) (by omega)]
    omega
  have hn3 : IntKind.i64.wrap (((n + 1 : Nat) : Int) - 1) = (n : Int) := by rw [wrap64_of (by omega) (by omega)]; omega
  have hp := Nat.two_pow_pos n
  have p1 : 2 ^ n ≤ 2 ^ 28 := Nat.pow_le_pow_right (by omega) hn2
  have hs := two_pow_succ n
  have hf : IntKind.i64.wrap (((2 ^ (n + 1) : Nat) : Int) - 1) = ((2 ^ (n + 1) - 1 : Nat) : Int) := by rw [wrap64_of (by omega) (by omega)]; omega
  rw [hn, hn3, shl1 _ (by omega), shl1 _ (by omega), hf]
  refine ⟨by decide, by omega, ?_⟩
  refine (Number_ok (2 ^ (n + 1) - 1) (by omega) (by omega) w).mono ?_
  rintro e w1 ⟨rfl, hw1⟩
  refine ⟨_, _, rfl, ?_⟩
  refine (Sum_ok (2 ^ (n + 1) - 1) (by omega) w1).mono ?_
  rintro e w2 ⟨rfl, hw2⟩
  rw [lub_at_full]
  refine ⟨_, _, rfl, by omega, cnd_f (by simp) (cnd_f rfl ⟨by omega, cnd_f ?_ ?_⟩)⟩
  · rw [sum_full, ← Int.natCast_mul]
    have e1 : (n + 1) * 2 ^ (n + 1) / 2 = (n + 1) * 2 ^ n := by
      rw [hs, ← Nat.mul_assoc, Nat.mul_comm _ 2, Nat.mul_assoc]
      omega
    have e2 : (n + 1) * 2 ^ n ≤ 29 * 2 ^ 28 := Nat.mul_le_mul (by omega) p1
    rw [e1, wrap64_of (by omega) (by omega)]
    simp
  have fin : ∀ w4, Same w w4 → Calls Try.prog fathomlaw10_awake.id #[] w4 fun e w' => ∃ b : Bool, e = .returned (.bool b) ∧ (Ending.returned (.bool b) = .returned (.bool true) ∧ Same w w') := fun w4 h4 =>
    (awake10 w4).mono fun e w' ⟨he, hw⟩ => ⟨true, he, rfl, h4.trans hw⟩
  refine cnd_i (fun h => fin _ (hw1.trans hw2)) (fun h => cnd_i (fun h' => fin _ (hw1.trans hw2)) (fun h' => ?_))
  simp only [decide_eq_false_iff_not, gt_iff_lt] at h h'
  obtain ⟨m, rfl⟩ : ∃ m : Nat, i = m := ⟨i.toNat, by omega⟩
  refine (Number_ok m (by omega) (by omega) w2).mono ?_
  rintro e w3 ⟨rfl, hw3⟩
  refine ⟨_, _, rfl, ?_⟩
  have hsum : IntKind.i64.wrap (((2 ^ (n + 1) - 1 : Nat) : Int) + (m : Int)) = ((2 ^ (n + 1) - 1 + m : Nat) : Int) := by rw [wrap64_of (by omega) (by omega)]; omega
  rw [hsum]
  refine (Number_ok (2 ^ (n + 1) - 1 + m) (by omega) (by omega) w3).mono ?_
  rintro e w4 ⟨rfl, hw4⟩
  rw [lub_behind (by omega) (by omega)]
  have hl := lub_ge m
  refine ⟨_, _, rfl, cnd_f rfl (cnd_f (by simp) (cnd_t (decide_eq_true (by omega)) (cnd_t ?_ (fin _ (((hw1.trans hw2).trans hw3).trans hw4)))))⟩
  obtain ⟨j, hj⟩ := lub_pow m
  have hlm := lub_le m (by omega)
  have hj62 : j ≤ 62 := by
    rcases Nat.lt_or_ge 62 j with h | h
    · have : 2 ^ 63 ≤ 2 ^ j := Nat.pow_le_pow_right (by omega) h
      omega
    · exact h
  have hw : IntKind.i64.wrap ((lub m : Int) - 1) = (lub m : Int) - 1 := wrap64_of (by omega) (by omega)
  rw [hw, hj]
  show (IntKind.i64.wrap ((BitVec.ofInt 64 ((2 ^ j : Nat) : Int) &&& BitVec.ofInt 64 (((2 ^ j : Nat) : Int) - 1)).toNat) == 0) = true
  rw [pow_and j hj62]
  rfl
end Go.Proofs.Ytamckcamloelbaa.W
