/- Layer 10: what the functions come to. -/
import Derived.Test.YtamckcamloelbaaGenLuby
import Derived.Test.YtamckcamloelbaaFwLib
import Derived.Test.YtamckcamloelbaaLubyPure
namespace Go.Proofs.Ytamckcamloelbaa.W
open Go Go.Fw Go.RowKit Go.Luby

/-! ## math/bits.Len -/
theorem tab_at : ∀ j : Nat, j < 256 → strtab0[j]? = some (UInt8.ofNat (bl j)) := by
  decide +kernel

theorem bl_div (n s : Nat) (h : 2 ^ s ≤ n) : bl n = s + bl (n / 2 ^ s) := by
  have hp := Nat.two_pow_pos s
  have hq : 0 < n / 2 ^ s := Nat.div_pos h hp
  obtain ⟨g1, g2⟩ := bl_le hq
  have g3 := bl_lt (n / 2 ^ s)
  refine bl_uniq ?_ (.inr ?_)
  · rw [Nat.pow_add]
    have := (Nat.div_lt_iff_lt_mul hp).1 g3
    rwa [Nat.mul_comm] at this
  · have : s + bl (n / 2 ^ s) - 1 = s + (bl (n / 2 ^ s) - 1) := by omega
    rw [this, Nat.pow_add]
    have := (Nat.le_div_iff_mul_le hp).1 g2
    rwa [Nat.mul_comm] at this

theorem bl_small {n : Nat} (h : n < 256) : bl n ≤ 8 := by
  rcases Nat.eq_zero_or_pos n with h0 | h0
  · subst h0; decide
  · obtain ⟨g1, g2⟩ := bl_le h0
    rcases Nat.lt_or_ge 8 (bl n) with h' | h'
    · have : 2 ^ 8 ≤ 2 ^ (bl n - 1) := Nat.pow_le_pow_right (by omega) (by omega)
      omega
    · exact h'

theorem fd32 (n : Nat) : (n : Int).fdiv (2 ^ (min (32 : Int).toNat (IntKind.bits .u64))) = ((n / 4294967296 : Nat) : Int) := by
  show (n : Int).fdiv 4294967296 = _
  rw [Int.fdiv_eq_ediv_of_nonneg _ (by omega)]
  omega
theorem fd16 (n : Nat) : (n : Int).fdiv (2 ^ (min (16 : Int).toNat (IntKind.bits .u64))) = ((n / 65536 : Nat) : Int) := by
  show (n : Int).fdiv 65536 = _
  rw [Int.fdiv_eq_ediv_of_nonneg _ (by omega)]
  omega
theorem fd8 (n : Nat) : (n : Int).fdiv (2 ^ (min (8 : Int).toNat (IntKind.bits .u64))) = ((n / 256 : Nat) : Int) := by
  show (n : Int).fdiv 256 = _
  rw [Int.fdiv_eq_ediv_of_nonneg _ (by omega)]
  omega

theorem tab_i {m : Nat} (hm : m < 256) {K : UInt8 → Prop} (hk : ∀ b : UInt8, (b.toNat : Int) = (bl m : Int) → K b) :
    ∃ b, 0 ≤ (IntKind.u8.wrap (m : Int)) ∧ strtab0[(IntKind.u8.wrap (m : Int)).toNat]? = some b ∧ K b := by
  rw [wrapU8_of (by omega) (by omega)]
  refine ⟨UInt8.ofNat (bl m), by omega, ?_, hk _ ?_⟩
  · rw [Int.toNat_natCast]; exact tab_at m hm
  · have := bl_small hm
    simp
    omega

theorem len64 (n : Nat) (hn : n < 18446744073709551616) (w : World) : Calls Try.prog bits_Len64.id #[.int .u64 n] w fun e w' => e = .returned (.int .i64 (bl n)) ∧ Same w w' := by
  refine bits_Len64.calls ?_
  unfold bits_Len64.w
  simp only [fd32, fd16, fd8, ge_iff_le]
  have fin : ∀ (x : Int), x = (bl n : Int) → (Ending.returned (.int .i64 x) = .returned (.int .i64 (bl n)) ∧ Same w w) := fun x hx => ⟨by rw [hx], Same.refl w⟩
  have d32 : 4294967296 ≤ n → bl n = 32 + bl (n / 4294967296) := fun h => bl_div n 32 h
  have d16 : ∀ m, 65536 ≤ m → bl m = 16 + bl (m / 65536) := fun m h => bl_div m 16 h
  have d8 : ∀ m, 256 ≤ m → bl m = 8 + bl (m / 256) := fun m h => bl_div m 8 h
  have w1 : ∀ {x : Int}, 0 ≤ x → x < 1000 → IntKind.i64.wrap x = x := fun h1 h2 => wrap64_of (by omega) (by omega)
  refine cnd_i (fun h1 => ?_) (fun h1 => ?_) <;> simp only [decide_eq_true_eq, decide_eq_false_iff_not] at h1
  · refine ⟨by decide, cnd_i (fun h2 => ?_) (fun h2 => ?_)⟩ <;> simp only [decide_eq_true_eq, decide_eq_false_iff_not] at h2
    · refine ⟨by decide, cnd_i (fun h3 => ?_) (fun h3 => ?_)⟩ <;> simp only [decide_eq_true_eq, decide_eq_false_iff_not] at h3
      · refine ⟨by decide, tab_i (by omega) fun b hb => fin _ ?_⟩
        have e1 := d32 (by omega); have e2 := d16 (n / 4294967296) (by omega); have e3 := d8 (n / 4294967296 / 65536) (by omega)
        have := bl_small (n := n / 4294967296 / 65536 / 256) (by omega)
        rw [hb, w1 (x := 32 + 16) (by omega) (by omega), w1 (x := 32 + 16 + 8) (by omega) (by omega), w1 (x := (bl _ : Int)) (by omega) (by omega), w1 (by omega) (by omega)]
        omega
      · refine tab_i (by omega) fun b hb => fin _ ?_
        have e1 := d32 (by omega); have e2 := d16 (n / 4294967296) (by omega)
        have := bl_small (n := n / 4294967296 / 65536) (by omega)
        rw [hb, w1 (x := 32 + 16) (by omega) (by omega), w1 (x := (bl _ : Int)) (by omega) (by omega), w1 (by omega) (by omega)]
        omega
    · refine cnd_i (fun h3 => ?_) (fun h3 => ?_) <;> simp only [decide_eq_true_eq, decide_eq_false_iff_not] at h3
      · refine ⟨by decide, tab_i (by omega) fun b hb => fin _ ?_⟩
        have e1 := d32 (by omega); have e3 := d8 (n / 4294967296) (by omega)
        have := bl_small (n := n / 4294967296 / 256) (by omega)
        rw [hb, w1 (x := 32 + 8) (by omega) (by omega), w1 (x := (bl _ : Int)) (by omega) (by omega), w1 (by omega) (by omega)]
        omega
      · refine tab_i (by omega) fun b hb => fin _ ?_
        have e1 := d32 (by omega)
        have := bl_small (n := n / 4294967296) (by omega)
        rw [hb, w1 (x := (bl _ : Int)) (by omega) (by omega), w1 (by omega) (by omega)]
        omega
  · refine cnd_i (fun h2 => ?_) (fun h2 => ?_) <;> simp only [decide_eq_true_eq, decide_eq_false_iff_not] at h2
    · refine ⟨by decide, cnd_i (fun h3 => ?_) (fun h3 => ?_)⟩ <;> simp only [decide_eq_true_eq, decide_eq_false_iff_not] at h3
      · refine ⟨by decide, tab_i (by omega) fun b hb => fin _ ?_⟩
        have e2 := d16 n (by omega); have e3 := d8 (n / 65536) (by omega)
        have := bl_small (n := n / 65536 / 256) (by omega)
        rw [hb, w1 (x := 0 + 16) (by omega) (by omega), w1 (x := 0 + 16 + 8) (by omega) (by omega), w1 (x := (bl _ : Int)) (by omega) (by omega), w1 (by omega) (by omega)]
        omega
      · refine tab_i (by omega) fun b hb => fin _ ?_
        have e2 := d16 n (by omega)
        have := bl_small (n := n / 65536) (by omega)
        rw [hb, w1 (x := 0 + 16) (by omega) (by omega), w1 (x := (bl _ : Int)) (by omega) (by omega), w1 (by omega) (by omega)]
        omega
    · refine cnd_i (fun h3 => ?_) (fun h3 => ?_) <;> simp only [decide_eq_true_eq, decide_eq_false_iff_not] at h3
      · refine ⟨by decide, tab_i (by omega) fun b hb => fin _ ?_⟩
        have e3 := d8 n (by omega)
        have := bl_small (n := n / 256) (by omega)
        rw [hb, w1 (x := 0 + 8) (by omega) (by omega), w1 (x := (bl _ : Int)) (by omega) (by omega), w1 (by omega) (by omega)]
        omega
      · refine tab_i (by omega) fun b hb => fin _ ?_
        have := bl_small (n := n) (by omega)
        rw [hb, w1 (x := (bl _ : Int)) (by omega) (by omega), w1 (by omega) (by omega)]
        omega

theorem len_spec (n : Nat) (hn : n < 18446744073709551616) (w : World) : Calls Try.prog bits_Len.id #[.int .u64 n] w fun e w' => e = .returned (.int .i64 (bl n)) ∧ Same w w' := by
  refine bits_Len.calls ?_
  unfold bits_Len.w
  refine (len64 n hn w).mono ?_
  rintro e w' ⟨rfl, hw⟩
  exact ⟨_, rfl, rfl, hw⟩

/-! ## The functions of the layer -/
theorem shl1 (k : Nat) (h : k ≤ 62) : IntKind.i64.wrap ((1 : Int) * 2 ^ (min (k : Int).toNat (IntKind.bits .i64))) = ((2 ^ k : Nat) : Int) := by
  have e : min (k : Int).toNat (IntKind.bits .i64) = k := by
    show min (k : Int).toNat 64 = k
    omega
  have : 2 ^ k ≤ 2 ^ 62 := Nat.pow_le_pow_right (by omega) h
  rw [e, Int.one_mul]
  have e2 : (2 : Int) ^ k = ((2 ^ k : Nat) : Int) := by simp
  rw [e2]
  generalize 2 ^ k = x at *
  exact wrap64_of (by omega) (by omega)

theorem number_spec (n : Nat) (h1 : 1 ≤ n) (h2 : n < 2147483648) (w : World) : Calls Try.prog luby_number.id #[.int .i64 n] w fun e w' => e = .returned (.int .i64 (lub n)) ∧ Same w w' := by
  refine luby_number.calls ?_
  refine ⟨fun i w' k => ∃ m : Nat, i = m ∧ 1 ≤ m ∧ m < 2147483648 ∧ lub m = lub n ∧ Same w w' ∧ k = m, ⟨n, n, rfl, h1, h2, rfl, Same.refl w, rfl⟩, ?_⟩
  rintro i w' k _ ⟨m, rfl, g1, g2, g3, g4, hk⟩
  rw [wrapU64_of (by omega) (by omega)]
  refine (len_spec m (by omega) w').mono ?_
  rintro e w2 ⟨rfl, hw⟩
  obtain ⟨b1, b2⟩ := bl_le (n := m) (by omega)
  have b3 := bl_bound (n := m) (k := 31) (by omega)
  have b4 := bl_lt m
  have p1 : 2 ^ bl m ≤ 2 ^ 31 := Nat.pow_le_pow_right (by omega) b3
  have e1 : IntKind.i64.wrap ((bl m : Int) - 1) = ((bl m - 1 : Nat) : Int) := by rw [wrap64_of (by omega) (by omega)]; omega
  refine ⟨_, rfl, by omega, ?_⟩
  rw [e1, shl1 _ (by omega), shl1 _ (by omega), wrap64_of (x := ((2 ^ bl m : Nat) : Int) - 1) (by omega) (by omega)]
  refine cnd_i (fun h => ⟨by omega, ?_, g4.trans hw⟩) (fun h => ?_)
  · have hf : m + 1 = 2 ^ bl m := by have := beq_iff_eq.1 h; omega
    rw [← g3, lub_full hf]
  · have hf : m + 1 ≠ 2 ^ bl m := by have := beq_eq_false_iff_ne.1 h; omega
    have hp := bl_pos2 (by omega) hf
    refine ⟨by omega, m - (2 ^ (bl m - 1) - 1), by omega, m - (2 ^ (bl m - 1) - 1), ?_, by omega, by omega, by rw [← lub_rest hf]; exact g3, g4.trans hw, rfl⟩
    rw [wrap64_of (x := ((2 ^ (bl m - 1) : Nat) : Int) - 1) (by omega) (by omega), wrap64_of (by omega) (by omega)]
    omega

theorem Number_bad (i : Int) (h : i < 1 ∨ 1073741824 < i) (w : World) : Calls Try.prog luby_Number.id #[.int .i64 i] w fun e w' => e = .returned (.tuple #[.int .i64 0, .int .i64 1]) ∧ Same w w' := by
  refine luby_Number.calls ?_
  refine cnd_i (fun h1 => ⟨rfl, Same.refl w⟩) (fun h1 => cnd_i (fun h2 => ⟨rfl, Same.refl w⟩) (fun h2 => ?_))
  simp at h1 h2
  omega

theorem Number_ok (n : Nat) (h1 : 1 ≤ n) (h2 : n ≤ 1073741824) (w : World) : Calls Try.prog luby_Number.id #[.int .i64 n] w fun e w' => e = .returned (.tuple #[.int .i64 (lub n), .int .i64 0]) ∧ Same w w' := by
  refine luby_Number.calls ?_
  refine cnd_f (decide_eq_false (by omega)) (cnd_f (decide_eq_false (by omega)) ?_)
  refine (number_spec n h1 (by omega) w).mono ?_
  rintro e w' ⟨rfl, hw⟩
  exact ⟨_, rfl, rfl, hw⟩

theorem refNumber (n : Nat) : 1 ≤ n → n < 2147483648 → ∀ w : World, Calls Try.prog fathomref10_Number.id #[.int .i64 n] w fun e w' => e = .returned (.int .i64 (lub n)) ∧ Same w w' := by
  induction n using Nat.strongRecOn with
  | _ n ih =>
    intro h1 h2 w
    refine fathomref10_Number.calls ?_
    refine ⟨fun full power w' k => ∃ j : Nat, j ≤ 31 ∧ full = ((2 ^ (j + 1) - 1 : Nat) : Int) ∧ power = ((2 ^ j : Nat) : Int) ∧ 2 ^ j ≤ n ∧ Same w w' ∧ k + j = 32, ⟨32, 0, by omega, rfl, rfl, h1, Same.refl w, rfl⟩, ?_⟩
    rintro full power w' k _ ⟨j, hj, rfl, rfl, hlo, hw, hk⟩
    have hp := Nat.two_pow_pos j
    have hs := two_pow_succ j
    have hj30 : j ≤ 30 := by
      rcases Nat.lt_or_ge 30 j with h | h
      · have : 2 ^ 31 ≤ 2 ^ j := Nat.pow_le_pow_right (by omega) h
        omega
      · exact h
    have hs2 := two_pow_succ (j + 1)
    have hp31 : 2 ^ j ≤ 2 ^ 30 := Nat.pow_le_pow_right (by omega) hj30
    refine cnd_i (fun h => ?_) (fun h => ?_) <;> simp only [decide_eq_true_eq, decide_eq_false_iff_not] at h
    · refine ⟨k - 1, by omega, j + 1, by omega, ?_, ?_, by omega, hw, by omega⟩
      · rw [wrap64_of (x := 2 * ((2 ^ (j + 1) - 1 : Nat) : Int)) (by omega) (by omega), wrap64_of (by omega) (by omega)]
        omega
      · rw [wrap64_of (by omega) (by omega)]
        omega
    · have hb : bl n = j + 1 := bl_uniq (by omega) (.inr (by simpa using hlo))
      refine cnd_i (fun he => ⟨?_, hw⟩) (fun he => ⟨by omega, ?_⟩)
      · have he := beq_iff_eq.1 he
        rw [lub_full (by rw [hb]; omega), hb]
        simp
      · have he := beq_eq_false_iff_ne.1 he
        have hr := lub_rest (i := n) (by rw [hb]; omega)
        rw [hb] at hr
        simp only [Nat.add_sub_cancel] at hr
        have hj1 : 1 ≤ j := by
          rcases Nat.eq_zero_or_pos j with h0 | h0
          · subst h0; simp at h he; omega
          · exact h0
        obtain ⟨i, rfl⟩ : ∃ i, j = i + 1 := ⟨j - 1, by omega⟩
        have hs3 := two_pow_succ i
        have hp3 := Nat.two_pow_pos i
        have e1 : IntKind.i64.wrap ((n : Int) - IntKind.i64.wrap ((IntKind.i64.wrap (((2 ^ (i + 1 + 1) - 1 : Nat) : Int) - 1)).tdiv 2)) = ((n - (2 ^ (i + 1) - 1) : Nat) : Int) := by
          rw [wrap64_of (x := ((2 ^ (i + 1 + 1) - 1 : Nat) : Int) - 1) (by omega) (by omega)]
          have : (((2 ^ (i + 1 + 1) - 1 : Nat) : Int) - 1).tdiv 2 = ((2 ^ (i + 1) - 1 : Nat) : Int) := by
            rw [Int.tdiv_eq_ediv_of_nonneg (by omega)]
            omega
          rw [this, wrap64_of (x := ((2 ^ (i + 1) - 1 : Nat) : Int)) (by omega) (by omega), wrap64_of (by omega) (by omega)]
          omega
        rw [e1]
        refine (ih (n - (2 ^ (i + 1) - 1)) (by omega) (by omega) (by omega) w').mono ?_
        rintro e w2 ⟨rfl, hw2⟩
        exact ⟨_, rfl, by rw [hr], hw.trans hw2⟩

theorem Sum_bad (i : Int) (h : i < 0 ∨ 1073741824 < i) (w : World) : Calls Try.prog luby_Sum.id #[.int .i64 i] w fun e w' => e = .returned (.tuple #[.int .i64 0, .int .i64 1]) ∧ Same w w' := by
  refine luby_Sum.calls ?_
  refine cnd_i (fun h1 => ⟨rfl, Same.refl w⟩) (fun h1 => cnd_i (fun h2 => ⟨rfl, Same.refl w⟩) (fun h2 => ?_))
  simp at h1 h2
  omega

theorem Sum_ok (n : Nat) (h2 : n ≤ 1073741824) (w : World) : Calls Try.prog luby_Sum.id #[.int .i64 n] w fun e w' => e = .returned (.tuple #[.int .i64 (sum n), .int .i64 0]) ∧ Same w w' := by
  refine luby_Sum.calls ?_
  refine cnd_f (decide_eq_false (by omega)) (cnd_f (decide_eq_false (by omega)) ?_)
  refine ⟨fun i s w' k => ∃ m t : Nat, i = m ∧ s = t ∧ m ≤ n ∧ t + sum m = sum n ∧ Same w w' ∧ k = m, ⟨n, n, 0, rfl, rfl, Nat.le_refl _, by omega, Same.refl w, rfl⟩, ?_⟩
  rintro i s w' k _ ⟨m, t, rfl, rfl, g1, g2, hw, hk⟩
  have hsn := sum_le n (by omega)
  refine cnd_i (fun h => ?_) (fun h => ?_) <;> simp only [decide_eq_true_eq, decide_eq_false_iff_not] at h
  · have e0 : IntKind.u64.wrap (IntKind.i64.wrap ((m : Int) + 1)) = ((m + 1 : Nat) : Int) := by
      rw [wrap64_of (by omega) (by omega), wrapU64_of (by omega) (by omega)]
      omega
    rw [e0]
    refine (len_spec (m + 1) (by omega) w').mono ?_
    rintro e w2 ⟨rfl, hw2⟩
    obtain ⟨b1, b2⟩ := bl_le (n := m + 1) (by omega)
    have b3 := bl_bound (n := m + 1) (k := 31) (by omega)
    obtain ⟨j, hj⟩ : ∃ j, bl (m + 1) = j + 1 := ⟨bl (m + 1) - 1, by omega⟩
    obtain ⟨s1, s2⟩ := sum_step hj
    rw [hj] at b3
    have e1 : IntKind.i64.wrap ((bl (m + 1) : Int) - 1) = (j : Int) := by rw [wrap64_of (by omega) (by omega)]; omega
    have hp := Nat.two_pow_pos j
    have p1 : 2 ^ j ≤ 2 ^ 30 := Nat.pow_le_pow_right (by omega) (by omega)
    have p2 : j * 2 ^ j ≤ 30 * 2 ^ 30 := Nat.mul_le_mul (by omega) p1
    have hj1 : 1 ≤ 2 ^ j - 1 := by
      rcases Nat.eq_zero_or_pos j with h0 | h0
      · subst h0
        have := bl_lt (m + 1)
        rw [hj] at this
        omega
      · have : 2 ^ 1 ≤ 2 ^ j := Nat.pow_le_pow_right (by omega) h0
        omega
    refine ⟨_, rfl, ?_⟩
    rw [e1, shl1 _ (by omega)]
    have e2 : IntKind.i64.wrap ((j : Int) * ((2 ^ j : Nat) : Int)) = ((j * 2 ^ j : Nat) : Int) := by
      rw [← Int.natCast_mul]
      exact wrap64_of (by omega) (by omega)
    rw [e2]
    have e3 : ((j * 2 ^ j : Nat) : Int).tdiv 2 = ((j * 2 ^ j / 2 : Nat) : Int) := by
      rw [Int.tdiv_eq_ediv_of_nonneg (by omega)]
      omega
    refine ⟨by omega, by omega, by omega, m - (2 ^ j - 1), by omega, m - (2 ^ j - 1), t + j * 2 ^ j / 2, ?_, ?_, by omega, by omega, hw.trans hw2, rfl⟩
    · rw [wrap64_of (x := ((2 ^ j : Nat) : Int) - 1) (by omega) (by omega), wrap64_of (by omega) (by omega)]
      omega
    · rw [e3, wrap64_of (x := ((j * 2 ^ j / 2 : Nat) : Int)) (by omega) (by omega), wrap64_of (by omega) (by omega)]
      omega
  · have : m = 0 := by omega
    subst this
    have : t = sum n := by simpa [sum] using g2
    exact ⟨by rw [this], hw⟩

theorem refSum (n : Nat) (h2 : n ≤ 3000) (w : World) : Calls Try.prog fathomref10_Sum.id #[.int .i64 n] w fun e w' => e = .returned (.int .i64 (sum n)) ∧ Same w w' := by
  refine fathomref10_Sum.calls ?_
  refine ⟨fun s i w' k => ∃ m : Nat, m ≤ n ∧ i = ((m + 1 : Nat) : Int) ∧ s = sum m ∧ Same w w' ∧ k + m = n, ⟨n, 0, by omega, rfl, rfl, Same.refl w, rfl⟩, ?_⟩
  rintro s i w' k _ ⟨m, hm, rfl, rfl, hw, hk⟩
  refine cnd_i (fun h => ?_) (fun h => ?_) <;> simp only [decide_eq_true_eq, decide_eq_false_iff_not] at h
  · refine (refNumber (m + 1) (by omega) (by omega) w').mono ?_
    rintro e w2 ⟨rfl, hw2⟩
    have := sum_le (m + 1) (by omega)
    have hl := lub_le (m + 1) (by omega)
    have hsm := sum_le m (by omega)
    refine ⟨_, rfl, k - 1, by omega, m + 1, by omega, ?_, ?_, hw.trans hw2, by omega⟩
    · rw [wrap64_of (by omega) (by omega)]; omega
    · rw [wrap64_of (by omega) (by omega)]; simp only [sum]; omega
  · have : m = n := by omega
    subst this
    exact ⟨rfl, hw⟩

theorem awake10 (w : World) : Calls Try.prog fathomlaw10_awake.id #[] w fun e w' => e = .returned (.bool true) ∧ Same w w' := by
  refine fathomlaw10_awake.calls ?_
  refine (Number_ok 7 (by omega) (by omega) w).mono ?_
  rintro e w' ⟨rfl, hw⟩
  refine ⟨_, _, rfl, ?_⟩
  refine (Sum_ok 7 (by omega) w').mono ?_
  rintro e w2 ⟨rfl, hw2⟩
  refine ⟨_, _, rfl, ?_⟩
  have l7 : lub 7 = 4 := lub_at_full 2
  have s7 : sum 7 = 12 := sum_full 3
  rw [l7, s7]
  exact ⟨rfl, hw.trans hw2⟩

theorem LubyNumbers_calls (i n : Int) (hi : -9223372036854775808 ≤ i ∧ i < 9223372036854775808) (w : World) : Calls Try.prog fathomlaw10_LubyNumbers.id #[.int .i64 i, .int .i64 n] w fun e w' => e = .returned (.bool true) ∧ Same w w' := by
  refine fathomlaw10_LubyNumbers.calls ?_
  have num : Calls Try.prog luby_Number.id #[.int .i64 i] w fun e w' => (∃ r t : Int, e = .returned (.tuple #[.int .i64 r, .int .i64 t]) ∧ Same w w' ∧ ((i < 1 ∨ 1073741824 < i) ∧ r = 0 ∧ t = 1 ∨ (1 ≤ i ∧ i ≤ 1073741824) ∧ r = (lub i.toNat : Int) ∧ t = 0)) := by
    by_cases h : i < 1 ∨ 1073741824 < i
    · exact (Number_bad i h w).mono fun e w' ⟨he, hw⟩ => ⟨_, _, he, hw, .inl ⟨h, rfl, rfl⟩⟩
    · obtain ⟨m, rfl⟩ : ∃ m : Nat, i = m := ⟨i.toNat, by omega⟩
      exact (Number_ok m (by omega) (by omega) w).mono fun e w' ⟨he, hw⟩ => ⟨_, _, he, hw, .inr ⟨by omega, by simp, rfl⟩⟩
  refine num.mono ?_
  rintro e w1 ⟨r, t, rfl, hw1, hr⟩
  refine ⟨_, _, rfl, fun w' => Same w w', ?_, ?_⟩
  · refine cnd_i (fun h => ?_) (fun h => cnd_i (fun h' => ?_) (fun h' => ?_)) <;> simp at h
    · obtain ⟨_, rfl, rfl⟩ := hr.resolve_right (by omega)
      exact hw1
    · simp at h'
      obtain ⟨_, rfl, rfl⟩ := hr.resolve_right (by omega)
      exact hw1
    · simp at h'
      obtain ⟨_, rfl, rfl⟩ := hr.resolve_left (by omega)
      refine cnd_f rfl ?_
      obtain ⟨m, rfl⟩ : ∃ m : Nat, i = m := ⟨i.toNat, by omega⟩
      refine (refNumber m (by omega) (by omega) w1).mono ?_
      rintro e w2 ⟨rfl, hw2⟩
      refine ⟨_, rfl, cnd_f (by simp) (hw1.trans hw2)⟩
  · intro w2 _ hw2
    have sm : Calls Try.prog luby_Sum.id #[.int .i64 n] w2 fun e w' => (∃ r t : Int, e = .returned (.tuple #[.int .i64 r, .int .i64 t]) ∧ Same w2 w' ∧ ((n < 0 ∨ 1073741824 < n) ∧ r = 0 ∧ t = 1 ∨ (0 ≤ n ∧ n ≤ 1073741824) ∧ r = (sum n.toNat : Int) ∧ t = 0)) := by
      by_cases h : n < 0 ∨ 1073741824 < n
      · exact (Sum_bad n h w2).mono fun e w' ⟨he, hw⟩ => ⟨_, _, he, hw, .inl ⟨h, rfl, rfl⟩⟩
      · obtain ⟨m, rfl⟩ : ∃ m : Nat, n = m := ⟨n.toNat, by omega⟩
        exact (Sum_ok m (by omega) w2).mono fun e w' ⟨he, hw⟩ => ⟨_, _, he, hw, .inr ⟨by omega, by simp, rfl⟩⟩
    refine sm.mono ?_
    rintro e w3 ⟨r', t', rfl, hw3, hr'⟩
    refine ⟨_, _, rfl, ?_⟩
    have fin : ∀ w4, Same w w4 → Calls Try.prog fathomlaw10_awake.id #[] w4 fun e w' => ∃ b : Bool, e = .returned (.bool b) ∧ (Ending.returned (.bool b) = .returned (.bool true) ∧ Same w w') := fun w4 h4 =>
      (awake10 w4).mono fun e w' ⟨he, hw⟩ => ⟨true, he, rfl, h4.trans hw⟩
    refine cnd_i (fun h => ?_) (fun h => cnd_i (fun h' => ?_) (fun h' => ?_)) <;> simp at h
    · obtain ⟨_, rfl, rfl⟩ := hr'.resolve_right (by omega)
      exact fin _ (hw2.trans hw3)
    · simp at h'
      obtain ⟨_, rfl, rfl⟩ := hr'.resolve_right (by omega)
      exact fin _ (hw2.trans hw3)
    · simp at h'
      obtain ⟨_, rfl, rfl⟩ := hr'.resolve_left (by omega)
      obtain ⟨m, rfl⟩ : ∃ m : Nat, n = m := ⟨n.toNat, by omega⟩
      refine cnd_i (fun hb => ?_) (fun hb => ?_) <;> simp at hb
      · refine cnd_t rfl (cnd_t ?_ (fin _ (hw2.trans hw3)))
        have := sum_ge m
        simpa using this
      · refine cnd_t rfl ?_
        refine (refSum m (by omega) w3).mono ?_
        rintro e w4 ⟨rfl, hw4⟩
        exact ⟨_, rfl, cnd_t (by simp) (fin _ ((hw2.trans hw3).trans hw4))⟩

end Go.Proofs.Ytamckcamloelbaa.W
