/- slices.SortFunc over ints: pivots and patterns. -/
import Derived.Test.YtlpmapeojecenaaSort3
import Derived.Test.YtlpmapeojecenaaBits
import Derived.Test.YtlpmapeojecenaaFwNil
namespace Go.Proofs.Ytlpmapeojecenaa.W
open Go Go.Fw Go.RowKit Go.SoP Go.Luby
variable {w0 w : World} {p : Option Addr} {n c : Nat} {l0 l : List Int} {fid : FuncId} {fv : Array Value} {cf : Int → Int → Int}

/-- slices.reverseRange -/
theorem reverseRange_ok (X : Cx w0 p n l0 fid fv cf) (s : St w0 p c l0 w l) (a b : Nat) (hab : a < b) (hb : b ≤ n) :
    Calls Try.prog slices_reverseRangeCmpFunc_int.id #[.slice p n c, .int .i64 a, .int .i64 b, .func (.func fid) #[] fv] w fun e w' => e = .returned (.tuple #[]) ∧ ∃ l', St w0 p c l0 w' l' ∧ Sw a b l l' := by
  refine slices_reverseRangeCmpFunc_int.calls ?_
  have hbd := X.bd
  refine ⟨fun I J w' k => ∃ (i j : Nat) (l1 : List Int), I = i ∧ J = j ∧ a ≤ i ∧ i ≤ j + 1 ∧ j < b ∧ k = j ∧ St w0 p c l0 w' l1 ∧ Sw a b l l1, ⟨_, a, b - 1, l, rfl, wN (by omega) (by omega), by omega, by omega, by omega, rfl, s, .refl l⟩, ?_⟩
  rintro I J w1 k _ ⟨i, j, l1, rfl, rfl, g1, g2, g3, hk, s1, k1⟩
  have hn1 := X.len s1
  refine cnd_i (fun q => ?_) (fun q => ⟨rfl, l1, s1, k1⟩)
  have q : i < j := by simpa using q
  refine X.swap s1.drew j i rfl rfl (by omega) (by omega) fun w2 s2 _ => ?_
  refine ⟨_, ?_, i + 1, j - 1, _, wN (by omega) (by omega), wN (by omega) (by omega), by omega, by omega, by omega, rfl, s2, .step k1 (by omega) (by omega) (by omega) (by omega) (by omega)⟩
  omega

/-- A state beside a counter of one's own. -/
structure StN (w0 : World) (p : Option Addr) (c : Nat) (l0 : List Int) (nb : Nat) (w : World) (l : List Int) : Prop where
  s : St w0 p c l0 w l
  h : ∃ x : Int, Has w nb #[.int .i64 x]
  ne : blk p ≠ some nb
  ge : w0.heap.size ≤ nb

theorem StN.grow {nb : Nat} {w' : World} (t : StN w0 p c l0 nb w l) (g : Grow w w') : StN w0 p c l0 nb w' l :=
  ⟨t.s.grow g, by obtain ⟨x, h⟩ := t.h; exact ⟨x, h.grow g⟩, t.ne, t.ge⟩

theorem order2_ok (X : Cx w0 p n l0 fid fv cf) {nb : Nat} (t : StN w0 p c l0 nb w l) (x y : Nat) (hx : x < n) (hy : y < n) :
    Calls Try.prog slices_order2CmpFunc_int.id #[.slice p n c, .int .i64 x, .int .i64 y, .pointer (some ⟨nb, 0, none⟩), .func (.func fid) #[] fv] w fun e w' => ∃ u v : Nat, e = .returned (.tuple #[.int .i64 u, .int .i64 v]) ∧ (u = x ∧ v = y ∨ u = y ∧ v = x) ∧ StN w0 p c l0 nb w' l := by
  refine slices_order2CmpFunc_int.calls ?_
  refine X.cmp t.s.drew y x rfl rfl hy hx fun w1 s1 g1 => ?_
  have t1 : StN w0 p c l0 nb w1 l := t.grow (Mod.trans (Mod.refl w).drew g1)
  refine cnd_i (fun _ => ?_) (fun _ => ⟨x, y, rfl, .inl ⟨rfl, rfl⟩, t1⟩)
  obtain ⟨z, hz⟩ := t1.h
  refine ⟨_, rfl, z, cell_of hz rfl, _, rfl, ?_⟩
  refine store_i hz rfl rfl fun w2 h2 m2 => ⟨y, x, rfl, .inr ⟨rfl, rfl⟩, ⟨t1.s.o.keep m2 fun b hb e => t1.ne (by rw [hb, e]), t1.s.m.then m2 fun b hb e => by have := t1.ge; omega, t1.s.pm⟩, ⟨_, h2⟩, t1.ne, t1.ge⟩

theorem median_ok (X : Cx w0 p n l0 fid fv cf) {nb : Nat} (t : StN w0 p c l0 nb w l) (x y z : Nat) (hx : x < n) (hy : y < n) (hz : z < n) :
    Calls Try.prog slices_medianCmpFunc_int.id #[.slice p n c, .int .i64 x, .int .i64 y, .int .i64 z, .pointer (some ⟨nb, 0, none⟩), .func (.func fid) #[] fv] w fun e w' => ∃ u : Nat, e = .returned (.int .i64 u) ∧ (u = x ∨ u = y ∨ u = z) ∧ StN w0 p c l0 nb w' l := by
  refine slices_medianCmpFunc_int.calls ?_
  refine (order2_ok X t x y hx hy).mono ?_
  rintro e w1 ⟨u1, v1, rfl, h1, t1⟩
  refine ⟨_, _, rfl, (order2_ok X t1 v1 z (by omega) hz).mono ?_⟩
  rintro e w2 ⟨u2, v2, rfl, h2, t2⟩
  refine ⟨_, _, rfl, (order2_ok X t2 u1 u2 (by omega) (by omega)).mono ?_⟩
  rintro e w3 ⟨u3, v3, rfl, h3, t3⟩
  exact ⟨_, _, rfl, v3, rfl, by omega, t3⟩

theorem medianAdjacent_ok (X : Cx w0 p n l0 fid fv cf) {nb : Nat} (t : StN w0 p c l0 nb w l) (x : Nat) (hx : 1 ≤ x) (hx2 : x + 1 < n) :
    Calls Try.prog slices_medianAdjacentCmpFunc_int.id #[.slice p n c, .int .i64 x, .pointer (some ⟨nb, 0, none⟩), .func (.func fid) #[] fv] w fun e w' => ∃ u : Nat, e = .returned (.int .i64 u) ∧ x ≤ u + 1 ∧ u ≤ x + 1 ∧ StN w0 p c l0 nb w' l := by
  refine slices_medianAdjacentCmpFunc_int.calls ?_
  have hbd := X.bd
  unfold slices_medianAdjacentCmpFunc_int.w
  have e1 : IntKind.i64.wrap ((x : Int) - 1) = ((x - 1 : Nat) : Int) := wN (by omega) (by omega)
  have e2 : IntKind.i64.wrap ((x : Int) + 1) = ((x + 1 : Nat) : Int) := wN (by omega) (by omega)
  rw [e1, e2]
  refine (median_ok X t (x - 1) x (x + 1) (by omega) (by omega) hx2).mono ?_
  rintro e w1 ⟨u, rfl, h1, t1⟩
  exact ⟨_, rfl, u, rfl, by omega, by omega, t1⟩

/-- slices.choosePivot -/
theorem choosePivot_ok (X : Cx w0 p n l0 fid fv cf) (s : St w0 p c l0 w l) (a b : Nat) (hab : a + 8 ≤ b) (hb : b ≤ n) :
    Calls Try.prog slices_choosePivotCmpFunc_int.id #[.slice p n c, .int .i64 a, .int .i64 b, .func (.func fid) #[] fv] w fun e w' => ∃ (pv : Nat) (h : Int), e = .returned (.tuple #[.int .i64 pv, .int .i64 h]) ∧ a ≤ pv ∧ pv < b ∧ St w0 p c l0 w' l := by
  refine slices_choosePivotCmpFunc_int.calls ?_
  have hbd := X.bd
  intro nb w1 hw1
  have hlt := s.o.lt
  have t1 : StN w0 p c l0 nb w1 l := ⟨s.grow hw1.mod, ⟨0, hw1.has⟩, fun e => by have := hlt nb e; have := hw1.num; omega, by have := s.m.size; have := hw1.num; omega⟩
  have e0 : IntKind.i64.wrap ((b : Int) - a) = ((b - a : Nat) : Int) := wN (by omega) (by omega)
  have e1 : IntKind.i64.wrap ((((b - a : Nat) : Int)).tdiv 4) = (((b - a) / 4 : Nat) : Int) := wN (by rw [Int.tdiv_eq_ediv_of_nonneg (by omega)]; omega) (by omega)
  have e2 : ∀ k : Nat, k ≤ 3 → IntKind.i64.wrap ((((b - a) / 4 : Nat) : Int) * (k : Int)) = (((b - a) / 4 * k : Nat) : Int) := fun k hk => wN (by rw [Int.natCast_mul]) (by have : (b - a) / 4 * k ≤ (b - a) / 4 * 3 := Nat.mul_le_mul_left _ hk; omega)
  have e3 : ∀ k : Nat, k ≤ 3 → IntKind.i64.wrap ((a : Int) + (((b - a) / 4 * k : Nat) : Int)) = ((a + (b - a) / 4 * k : Nat) : Int) := fun k hk => wN (by omega) (by have : (b - a) / 4 * k ≤ (b - a) / 4 * 3 := Nat.mul_le_mul_left _ hk; omega)
  have a1 := e2 1 (by omega); have a2 := e2 2 (by omega); have a3 := e2 3 (by omega)
  have b1 := e3 1 (by omega); have b2 := e3 2 (by omega); have b3 := e3 3 (by omega)
  simp only [Int.cast_ofNat_Int] at a1 a2 a3
  simp only [e0, e1, a1, a2, a3, b1, b2, b3]
  refine ⟨by decide, by decide, by decide, cnd_i (fun q => cnd_i (fun q2 => ?_) (fun q2 => ?_)) (fun q => by simp at q; omega)⟩
  · have q2 : 50 ≤ b - a := by simp at q2; omega
    refine (medianAdjacent_ok X t1 _ (by omega) (by omega)).mono ?_
    rintro e w2 ⟨u1, rfl, h1, h2, t2⟩
    refine ⟨_, rfl, (medianAdjacent_ok X t2 _ (by omega) (by omega)).mono ?_⟩
    rintro e w3 ⟨u2, rfl, h3, h4, t3⟩
    refine ⟨_, rfl, (medianAdjacent_ok X t3 _ (by omega) (by omega)).mono ?_⟩
    rintro e w4 ⟨u3, rfl, h5, h6, t4⟩
    refine ⟨_, rfl, (median_ok X t4 u1 u2 u3 (by omega) (by omega) (by omega)).mono ?_⟩
    rintro e w5 ⟨u, rfl, h7, t5⟩
    obtain ⟨z, hz⟩ := t5.h
    refine ⟨_, rfl, z, cell_of hz rfl, cnd_i (fun _ => ?_) (fun _ => cnd_i (fun _ => ?_) (fun _ => ?_))⟩ <;> exact ⟨u, _, rfl, by omega, by omega, t5.s⟩
  · refine (median_ok X t1 _ _ _ (by omega) (by omega) (by omega)).mono ?_
    rintro e w5 ⟨u, rfl, h7, t5⟩
    obtain ⟨z, hz⟩ := t5.h
    refine ⟨_, rfl, z, cell_of hz rfl, cnd_i (fun _ => ?_) (fun _ => cnd_i (fun _ => ?_) (fun _ => ?_))⟩ <;> exact ⟨u, _, rfl, by omega, by omega, t5.s⟩

theorem next_ok {nb : Nat} {x : Int} (h : Has w nb #[.int .u64 x]) : Calls Try.prog slices_xorshift_Next.id #[.pointer (some ⟨nb, 0, none⟩)] w fun e w' => ∃ r : Int, e = .returned (.int .u64 r) ∧ Has w' nb #[.int .u64 r] ∧ Mod (· = nb) w w' := by
  refine slices_xorshift_Next.calls ?_
  refine ⟨_, rfl, x, cell_of h.drew rfl, _, rfl, x, cell_of h.drew rfl, by decide, _, rfl, ?_⟩
  refine store_i h.drew rfl rfl fun w1 h1 m1 => ?_
  refine ⟨_, rfl, _, cell_of h1.drew rfl, _, rfl, _, cell_of h1.drew rfl, by decide, _, rfl, ?_⟩
  refine store_i h1.drew rfl rfl fun w2 h2 m2 => ?_
  refine ⟨_, rfl, _, cell_of h2.drew rfl, _, rfl, _, cell_of h2.drew rfl, by decide, _, rfl, ?_⟩
  refine store_i h2.drew rfl rfl fun w3 h3 m3 => ?_
  refine ⟨_, rfl, _, cell_of h3 rfl, _, rfl, h3, ?_⟩
  exact (((Mod.refl w).drew.trans m1).drew.trans m2).drew.trans m3

theorem nextPow_ok (k : Nat) (hk : 1 ≤ k) (hk2 : k ≤ 1152921504606846976) : Calls Try.prog slices_nextPowerOfTwo.id #[.int .i64 k] w fun e w' => ∃ r : Nat, e = .returned (.int .u64 r) ∧ 1 ≤ r ∧ r ≤ 2 * k ∧ Grow w w' := by
  refine slices_nextPowerOfTwo.calls ?_
  unfold slices_nextPowerOfTwo.w
  rw [wrapU64_of (by omega) (by omega)]
  refine (len_spec k (by omega) w).mono ?_
  rintro e w1 ⟨rfl, h1⟩
  obtain ⟨b1, b2⟩ := bl_le (n := k) (by omega)
  have b3 := bl_bound (n := k) (k := 61) (by omega)
  refine ⟨_, rfl, by omega, 2 ^ bl k, ?_, Nat.one_le_two_pow, ?_, h1.mod⟩
  · have e1 : min ((bl k : Int)).toNat (IntKind.bits .u64) = bl k := by
      show min (bl k : Int).toNat 64 = bl k
      omega
    have : 2 ^ bl k ≤ 2 ^ 61 := Nat.pow_le_pow_right (by omega) b3
    rw [e1, Int.one_mul]
    have e2 : (2 : Int) ^ bl k = ((2 ^ bl k : Nat) : Int) := by simp
    rw [e2]
    generalize 2 ^ bl k = x at *
    rw [wrapU64_of (by omega) (by omega)]
  · have : 2 ^ bl k = 2 * 2 ^ (bl k - 1) := by
      rw [← Nat.pow_succ', show (bl k - 1).succ = bl k by omega]
    omega

theorem and_le (x : Int) (m : Nat) (hm : m < 4611686018427387904) : ∃ r : Nat, r ≤ m ∧ IntKind.i64.wrap (IntKind.u64.wrap ((BitVec.ofInt (IntKind.bits .u64) x &&& BitVec.ofInt (IntKind.bits .u64) (m : Int)).toNat)) = r := by
  have h : (BitVec.ofInt (IntKind.bits .u64) x &&& BitVec.ofInt (IntKind.bits .u64) (m : Int)).toNat ≤ m := by
    rw [BitVec.toNat_and]
    refine Nat.le_trans Nat.and_le_right ?_
    rw [BitVec.toNat_ofInt]
    show ((m : Int) % ((2 ^ 64 : Nat) : Int)).toNat ≤ m
    omega
  generalize (BitVec.ofInt (IntKind.bits .u64) x &&& BitVec.ofInt (IntKind.bits .u64) (m : Int)).toNat = r at h
  refine ⟨r, h, ?_⟩
  rw [wrapU64_of (by omega) (by omega)]
  exact wN rfl (by omega)

/-- slices.breakPatterns -/
theorem breakPatterns_ok (X : Cx w0 p n l0 fid fv cf) (s : St w0 p c l0 w l) (a b : Nat) (hab : a + 8 ≤ b) (hb : b ≤ n) :
    Calls Try.prog slices_breakPatternsCmpFunc_int.id #[.slice p n c, .int .i64 a, .int .i64 b, .func (.func fid) #[] fv] w fun e w' => e = .returned (.tuple #[]) ∧ ∃ l', St w0 p c l0 w' l' ∧ Sw a b l l' := by
  refine slices_breakPatternsCmpFunc_int.calls ?_
  have hbd := X.bd
  have hmm := X.hm
  have e0 : IntKind.i64.wrap ((b : Int) - a) = ((b - a : Nat) : Int) := wN (by omega) (by omega)
  have e1 : IntKind.i64.wrap ((((b - a : Nat) : Int)).tdiv 4) = (((b - a) / 4 : Nat) : Int) := wN (by rw [Int.tdiv_eq_ediv_of_nonneg (by omega)]; omega) (by omega)
  have e2 : IntKind.i64.wrap ((((b - a) / 4 : Nat) : Int) * 2) = (((b - a) / 4 * 2 : Nat) : Int) := wN (by omega) (by omega)
  have e3 : IntKind.i64.wrap ((a : Int) + (((b - a) / 4 * 2 : Nat) : Int)) = ((a + (b - a) / 4 * 2 : Nat) : Int) := wN (by omega) (by omega)
  have e4 : IntKind.i64.wrap (((a + (b - a) / 4 * 2 : Nat) : Int) - 1) = ((a + (b - a) / 4 * 2 - 1 : Nat) : Int) := wN (by omega) (by omega)
  have e5 : IntKind.i64.wrap (((a + (b - a) / 4 * 2 : Nat) : Int) + 1) = ((a + (b - a) / 4 * 2 + 1 : Nat) : Int) := wN (by omega) (by omega)
  unfold slices_breakPatternsCmpFunc_int.w
  simp only [e0, e1, e2, e3, e4, e5]
  refine cnd_i (fun _ => ?_) (fun q => by simp at q; omega)
  intro nb w1 hw1
  have hlt := s.o.lt
  have ne : blk p ≠ some nb := fun e => by have := hlt nb e; have := hw1.num; omega
  have ge : w0.heap.size ≤ nb := by have := s.m.size; have := hw1.num; omega
  refine store_i hw1.has rfl rfl fun w2 h2 m2 => ?_
  have s2 : St w0 p c l0 w2 l := by
    have s1 := s.grow hw1.mod
    exact ⟨s1.o.keep m2 fun b hb e => ne (by rw [hb, e]), s1.m.then m2 fun b hb e => by omega, s1.pm⟩
  refine (nextPow_ok (b - a) (by omega) (by omega)).mono ?_
  rintro e w3 ⟨r, rfl, hr1, hr2, g3⟩
  have er : IntKind.u64.wrap ((r : Int) - 1) = ((r - 1 : Nat) : Int) := by rw [wrapU64_of (by omega) (by omega)]; omega
  refine ⟨_, rfl, ?_⟩
  simp only [er]
  refine ⟨by decide, fun I w' k => ∃ (i : Nat) (l1 : List Int), I = i ∧ a + (b - a) / 4 * 2 - 1 ≤ i ∧ i ≤ a + (b - a) / 4 * 2 + 2 ∧ k = a + (b - a) / 4 * 2 + 2 - i ∧ St w0 p c l0 w' l1 ∧ Sw a b l l1 ∧ ∃ x : Int, Has w' nb #[.int .u64 x], ⟨_, _, l, rfl, Nat.le_refl _, by omega, rfl, s2.grow g3, .refl l, _, h2.grow g3⟩, ?_⟩
  rintro I w4 k _ ⟨i, l1, rfl, g1, g2, rfl, s4, k4, x, h4⟩
  have hn1 := X.len s4
  refine ⟨by decide, cnd_i (fun q => ?_) (fun q => ⟨trivial, l1, s4, k4⟩)⟩
  have q : i ≤ a + (b - a) / 4 * 2 + 1 := by simp at q; omega
  refine (next_ok h4).mono ?_
  rintro e w5 ⟨z, rfl, h5, m5⟩
  refine ⟨_, rfl, ?_⟩
  obtain ⟨o, ho, eo⟩ := and_le z (r - 1) (by omega)
  rw [eo]
  have s5 : St w0 p c l0 w5 l1 := ⟨s4.o.keep m5 fun b hb e => ne (by rw [hb, e]), s4.m.then m5 fun b hb e => by omega, s4.pm⟩
  have nx : ∀ {w' : World} {j : Nat}, a ≤ j → j < b → St w0 p c l0 w' (swp l1 i j) → Mod (Bk p) w5.drew w' → ∃ k', k' < a + (b - a) / 4 * 2 + 2 - i ∧ ∃ (i2 : Nat) (l1 : List Int), IntKind.i64.wrap ((i : Int) + 1) = i2 ∧ a + (b - a) / 4 * 2 - 1 ≤ i2 ∧ i2 ≤ a + (b - a) / 4 * 2 + 2 ∧ k' = a + (b - a) / 4 * 2 + 2 - i2 ∧ St w0 p c l0 w' l1 ∧ Sw a b l l1 ∧ ∃ x : Int, Has w' nb #[.int .u64 x] := by
    intro w' j h1 h2 h3 h4
    exact ⟨_, by omega, i + 1, _, wN (by omega) (by omega), by omega, by omega, rfl, h3, .step k4 (by omega) (by omega) h1 h2 (by omega), _, h5.drew.keep h4 ne⟩
  refine cnd_i (fun q2 => ?_) (fun q2 => ?_)
  · have q2 : b - a ≤ o := by simp at q2; omega
    have f1 : IntKind.i64.wrap ((o : Int) - ((b - a : Nat) : Int)) = ((o - (b - a) : Nat) : Int) := wN (by omega) (by omega)
    have f2 : IntKind.i64.wrap ((a : Int) + ((o - (b - a) : Nat) : Int)) = ((a + (o - (b - a)) : Nat) : Int) := wN (by omega) (by omega)
    simp only [f1, f2]
    exact X.swap s5.drew _ i rfl rfl (by omega) (by omega) fun w6 s6 m6 => nx (by omega) (by omega) s6 m6
  · have q2 : o < b - a := by simp at q2; omega
    have f2 : IntKind.i64.wrap ((a : Int) + (o : Int)) = ((a + o : Nat) : Int) := wN (by omega) (by omega)
    simp only [f2]
    exact X.swap s5.drew _ i rfl rfl (by omega) (by omega) fun w6 s6 m6 => nx (by omega) (by omega) s6 m6
end Go.Proofs.Ytlpmapeojecenaa.W
