/- math/bits.Len. -/
import Derived.Test.YtambabpklfeaoaaGenRef
import Derived.Test.YtambabpklfeaoaaFwLib
import Derived.Test.YtambabpklfeaoaaPureA
namespace Go.Proofs.Ytambabpklfeaoaa.W
open Go Go.Fw Go.RowKit Go.Luby

/-! ## math/bits.Len -/
theorem tab_at : ∀ j : Nat, j < 256 → strtab0[j]? = some (UInt8.ofNat (bl j)) := by
  decide +kernel

theorem bl_div (n s : Nat) (h : 2 ^ s ≤ n) : bl n = s + bl (n / 2 ^ s) := by
  have hp := Nat.two_pow_pos s
  have hq : 0 < n / 2 ^ s := Nat.div_pos h hp
  obtain ⟨g1, g2⟩ := bl_le hq
  have g3 := bl_lt (n / 2 ^ s)
  refine bl_uniq ?_ (.inr ?_)
  · rw [Nat.pow_add]
    have := (Nat.div_lt_iff_lt_mul hp).1 g3
    rwa [Nat.mul_comm] at this
  · have : s + bl (n / 2 ^ s) - 1 = s + (bl (n / 2 ^ s) - 1) := by omega
    rw [this, Nat.pow_add]
    have := (Nat.le_div_iff_mul_le hp).1 g2
    rwa [Nat.mul_comm] at this

theorem bl_small {n : Nat} (h : n < 256) : bl n ≤ 8 := by
  rcases Nat.eq_zero_or_pos n with h0 | h0
  · subst h0; decide
  · obtain ⟨g1, g2⟩ := bl_le h0
    rcases Nat.lt_or_ge 8 (bl n) with h' | h'
    · have : 2 ^ 8 ≤ 2 ^ (bl n - 1) := Nat.pow_le_pow_right (by omega) (by omega)
      omega
    · exact h'

theorem fd32 (n : Nat) : (n : Int).fdiv (2 ^ (min (32 : Int).toNat (IntKind.bits .u64))) = ((n / 4294967296 : Nat) : Int) := by
  show (n : Int).fdiv 4294967296 = _
  rw [Int.fdiv_eq_ediv_of_nonneg _ (by omega)]
  omega
theorem fd16 (n : Nat) : (n : Int).fdiv (2 ^ (min (16 : Int).toNat (IntKind.bits .u64))) = ((n / 65536 : Nat) : Int) := by
  show (n : Int).fdiv 65536 = _
  rw [Int.fdiv_eq_ediv_of_nonneg _ (by omega)]
  omega
theorem fd8 (n : Nat) : (n : Int).fdiv (2 ^ (min (8 : Int).toNat (IntKind.bits .u64))) = ((n / 256 : Nat) : Int) := by
  show (n : Int).fdiv 256 = _
  rw [Int.fdiv_eq_ediv_of_nonneg _ (by omega)]
  omega

theorem tab_i {m : Nat} (hm : m < 256) {K : UInt8 → Prop} (hk : ∀ b : UInt8, (b.toNat : Int) = (bl m : Int) → K b) :
    ∃ b, 0 ≤ (IntKind.u8.wrap (m : Int)) ∧ strtab0[(IntKind.u8.wrap (m : Int)).toNat]? = some b ∧ K b := by
  rw [wrapU8_of (by omega) (by omega)]
  refine ⟨UInt8.ofNat (bl m), by omega, ?_, hk _ ?_⟩
  · rw [Int.toNat_natCast]; exact tab_at m hm
  · have := bl_small hm
    simp
    omega

theorem len64 (n : Nat) (hn : n < 18446744073709551616) (w : World) : Calls Try.prog bits_Len64.id #[.int .u64 n] w fun e w' => e = .returned (.int .i64 (bl n)) ∧ Same w w' := by
  refine bits_Len64.calls ?_
  unfold bits_Len64.w
  simp only [fd32, fd16, fd8, ge_iff_le]
  have fin : ∀ (x : Int), x = (bl n : Int) → (Ending.returned (.int .i64 x) = .returned (.int .i64 (bl n)) ∧ Same w w) := fun x hx => ⟨by rw [hx], Same.refl w⟩
  have d32 : 4294967296 ≤ n → bl n = 32 + bl (n / 4294967296) := fun h => bl_div n 32 h
  have d16 : ∀ m, 65536 ≤ m → bl m = 16 + bl (m / 65536) := fun m h => bl_div m 16 h
  have d8 : ∀ m, 256 ≤ m → bl m = 8 + bl (m / 256) := fun m h => bl_div m 8 h
  have w1 : ∀ {x : Int}, 0 ≤ x → x < 1000 → IntKind.i64.wrap x = x := fun h1 h2 => wrap64_of (by omega) (by omega)
  refine cnd_i (fun h1 => ?_) (fun h1 => ?_) <;> simp only [decide_eq_true_eq, decide_eq_false_iff_not] at h1
  · refine ⟨by decide, cnd_i (fun h2 => ?_) (fun h2 => ?_)⟩ <;> simp only [decide_eq_true_eq, decide_eq_false_iff_not] at h2
    · refine ⟨by decide, cnd_i (fun h3 => ?_) (fun h3 => ?_)⟩ <;> simp only [decide_eq_true_eq, decide_eq_false_iff_not] at h3
      · refine ⟨by decide, tab_i (by omega) fun b hb => fin _ ?_⟩
        have e1 := d32 (by omega); have e2 := d16 (n / 4294967296) (by omega); have e3 := d8 (n / 4294967296 / 65536) (by omega)
        have := bl_small (n := n / 4294967296 / 65536 / 256) (by omega)
        rw [hb, w1 (x := 32 + 16) (by omega) (by omega), w1 (x := 32 + 16 + 8) (by omega) (by omega), w1 (x := (bl _ : Int)) (by omega) (by omega), w1 (by omega) (by omega)]
        omega
      · refine tab_i (by omega) fun b hb => fin _ ?_
        have e1 := d32 (by omega); have e2 := d16 (n / 4294967296) (by omega)
        have := bl_small (n := n / 4294967296 / 65536) (by omega)
        rw [hb, w1 (x := 32 + 16) (by omega) (by omega), w1 (x := (bl _ : Int)) (by omega) (by omega), w1 (by omega) (by omega)]
        omega
    · refine cnd_i (fun h3 => ?_) (fun h3 => ?_) <;> simp only [decide_eq_true_eq, decide_eq_false_iff_not] at h3
      · refine ⟨by decide, tab_i (by omega) fun b hb => fin _ ?_⟩
        have e1 := d32 (by omega); have e3 := d8 (n / 4294967296) (by omega)
        have := bl_small (n := n / 4294967296 / 256) (by omega)
        rw [hb, w1 (x := 32 + 8) (by omega) (by omega), w1 (x := (bl _ : Int)) (by omega) (by omega), w1 (by omega) (by omega)]
        omega
      · refine tab_i (by omega) fun b hb => fin _ ?_
        have e1 := d32 (by omega)
        have := bl_small (n := n / 4294967296) (by omega)
        rw [hb, w1 (x := (bl _ : Int)) (by omega) (by omega), w1 (by omega) (by omega)]
        omega
  · refine cnd_i (fun h2 => ?_) (fun h2 => ?_) <;> simp only [decide_eq_true_eq, decide_eq_false_iff_not] at h2
    · refine ⟨by decide, cnd_i (fun h3 => ?_) (fun h3 => ?_)⟩ <;> simp only [decide_eq_true_eq, decide_eq_false_iff_not] at h3
      · refine ⟨by decide, tab_i (by omega) fun b hb => fin _ ?_⟩
        have e2 := d16 n (by omega); have e3 := d8 (n / 65536) (by omega)
        have := bl_small (n := n / 65536 / 256) (by omega)
        rw [hb, w1 (x := 0 + 16) (by omega) (by omega), w1 (x := 0 + 16 + 8) (by omega) (by omega), w1 (x := (bl _ : Int)) (by omega) (by omega), w1 (by omega) (by omega)]
        omega
      · refine tab_i (by omega) fun b hb => fin _ ?_
        have e2 := d16 n (by omega)
        have := bl_small (n := n / 65536) (by omega)
        rw [hb, w1 (x := 0 + 16) (by omega) (by omega), w1 (x := (bl _ : Int)) (by omega) (by omega), w1 (by omega) (by omega)]
        omega
    · refine cnd_i (fun h3 => ?_) (fun h3 => ?_) <;> simp only [decide_eq_true_eq, decide_eq_false_iff_not] at h3
      · refine ⟨by decide, tab_i (by omega) fun b hb => fin _ ?_⟩
        have e3 := d8 n (by omega)
        have := bl_small (n := n / 256) (by omega)
        rw [hb, w1 (x := 0 + 8) (by omega) (by omega), w1 (x := (bl _ : Int)) (by omega) (by omega), w1 (by omega) (by omega)]
        omega
      · refine tab_i (by omega) fun b hb => fin _ ?_
        have := bl_small (n := n) (by omega)
        rw [hb, w1 (x := (bl _ : Int)) (by omega) (by omega), w1 (by omega) (by omega)]
        omega

theorem len_spec (n : Nat) (hn : n < 18446744073709551616) (w : World) : Calls Try.prog bits_Len.id #[.int .u64 n] w fun e w' => e = .returned (.int .i64 (bl n)) ∧ Same w w' := by
  refine bits_Len.calls ?_
  unfold bits_Len.w
  refine (len64 n hn w).mono ?_
  rintro e w' ⟨rfl, hw⟩
  exact ⟨_, rfl, rfl, hw⟩

end Go.Proofs.Ytambabpklfeaoaa.W
