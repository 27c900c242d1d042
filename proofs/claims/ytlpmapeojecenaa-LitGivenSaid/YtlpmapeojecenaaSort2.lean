/- slices.SortFunc over ints: partitions. -/
import Derived.Test.YtlpmapeojecenaaSort1
namespace Go.Proofs.Ytlpmapeojecenaa.W
open Go Go.Fw Go.RowKit Go.SoP
variable {w0 w : World} {p : Option Addr} {n c : Nat} {l0 l : List Int} {fid : FuncId} {fv : Array Value} {cf : Int → Int → Int}

theorem part_tail (X : Cx w0 p n l0 fid fv cf) (s : St w0 p c l0 w l) {a b i j0 : Nat} (h : PartI cf l a b i j0) (ha : a < i) (hi : i ≤ j0 + 1) (hj : j0 < b) (hb : b ≤ n) (hs : i ≤ j0 → ¬ cf (l.getD i 0) (l.getD a 0) < 0) {D N : Int → World → Prop}
    (hD : ∀ w', PartI cf l a b i (i - 1) → St w0 p c l0 w' (swp l (i - 1) a) → D ((i - 1 : Nat) : Int) w')
    (hN : ∀ w' (j : Nat), i < j → j ≤ j0 → PartI cf l a b i j → cf (l.getD j 0) (l.getD a 0) < 0 → St w0 p c l0 w' (swp l i j) → N j w') :
    ∃ I : Int → World → Nat → Prop, (∃ k, I j0 w k) ∧ ∀ (j : Int) (w1 : World) (k : Nat) (_ : Fr), I j w1 k →
      cnd (decide ((i : Int) ≤ j))
        (ixK p n j 1 fun a1 => ∃ x1 : Int, w1.drew.cell? a1 = some (.int .i64 x1) ∧ ixK p n (a : Int) 1 fun a2 => ∃ x2 : Int, w1.drew.cell? a2 = some (.int .i64 x2) ∧
          cnd (entB Try.prog fid) (Calls Try.prog fid (#[] ++ #[.int .i64 x1, .int .i64 x2] ++ fv) w1.drew fun e w3 => ∃ r : Int, e = .returned (.int .i64 r) ∧
            cnd (!(decide (r < (0 : Int)))) (∃ k', k' < k ∧ I (IntKind.i64.wrap (j - (1 : Int))) w3 k')
              (cnd (decide ((i : Int) > j))
                (ixK p n (a : Int) 1 fun a1 => ∃ x1 : Int, w3.drew.cell? a1 = some (.int .i64 x1) ∧ ixK p n j 1 fun a2 => ∃ x2 : Int, w3.drew.cell? a2 = some (.int .i64 x2) ∧
                  ixK p n j 1 fun a3 => ∃ w4 : World, StoreAt a3 0 [.int .i64 x1] w3.drew w4 ∧ ixK p n (a : Int) 1 fun a4 => ∃ w5 : World, StoreAt a4 0 [.int .i64 x2] w4 w5 ∧ D j w5)
                (ixK p n j 1 fun a1 => ∃ x1 : Int, w3.drew.cell? a1 = some (.int .i64 x1) ∧ ixK p n (i : Int) 1 fun a2 => ∃ x2 : Int, w3.drew.cell? a2 = some (.int .i64 x2) ∧
                  ixK p n (i : Int) 1 fun a3 => ∃ w4 : World, StoreAt a3 0 [.int .i64 x1] w3.drew w4 ∧ ixK p n j 1 fun a4 => ∃ w5 : World, StoreAt a4 0 [.int .i64 x2] w4 w5 ∧ N j w5))) False)
        (cnd (decide ((i : Int) > j))
          (ixK p n (a : Int) 1 fun a1 => ∃ x1 : Int, w1.drew.drew.cell? a1 = some (.int .i64 x1) ∧ ixK p n j 1 fun a2 => ∃ x2 : Int, w1.drew.drew.cell? a2 = some (.int .i64 x2) ∧
            ixK p n j 1 fun a3 => ∃ w4 : World, StoreAt a3 0 [.int .i64 x1] w1.drew.drew w4 ∧ ixK p n (a : Int) 1 fun a4 => ∃ w5 : World, StoreAt a4 0 [.int .i64 x2] w4 w5 ∧ D j w5)
          (ixK p n j 1 fun a1 => ∃ x1 : Int, w1.drew.drew.cell? a1 = some (.int .i64 x1) ∧ ixK p n (i : Int) 1 fun a2 => ∃ x2 : Int, w1.drew.drew.cell? a2 = some (.int .i64 x2) ∧
            ixK p n (i : Int) 1 fun a3 => ∃ w4 : World, StoreAt a3 0 [.int .i64 x1] w1.drew.drew w4 ∧ ixK p n j 1 fun a4 => ∃ w5 : World, StoreAt a4 0 [.int .i64 x2] w4 w5 ∧ N j w5)) := by
  have hbd := X.bd
  refine ⟨fun J w' k => ∃ j : Nat, J = j ∧ i ≤ j + 1 ∧ j ≤ j0 ∧ k = j ∧ St w0 p c l0 w' l ∧ PartI cf l a b i j, ⟨_, j0, rfl, hi, Nat.le_refl _, rfl, s, h⟩, ?_⟩
  rintro J w1 k _ ⟨j, rfl, h1, h2, hk, s1, r1⟩
  have hn1 := X.len s1
  refine cnd_i (fun q => ?_) (fun q => ?_)
  · have q : i ≤ j := by simp at q; omega
    refine X.cmp s1.drew j a rfl rfl (by omega) (by omega) fun w3 s3 _ => ?_
    refine cnd_i (fun q3 => ?_) (fun q3 => ?_)
    · have q3 : ¬ cf (l.getD j 0) (l.getD a 0) < 0 := by simpa using q3
      refine ⟨_, ?_, j - 1, wN (by omega) (by omega), by omega, by omega, rfl, s3, r1.lo, fun t t1 t2 => ?_⟩
      · omega
      · by_cases e : t = j
        · subst e; exact q3
        · exact r1.hi t (by omega) t2
    · have q3 : cf (l.getD j 0) (l.getD a 0) < 0 := by simpa using q3
      refine cnd_i (fun q => by simp at q; omega) (fun _ => ?_)
      have hij : i ≠ j := fun e => hs (by omega) (by rw [e]; exact q3)
      refine X.swap s3.drew j i rfl rfl (by omega) (by omega) fun w4 s4 _ => ?_
      exact hN w4 j (by omega) h2 r1 q3 s4
  · have q : j + 1 = i := by simp at q; omega
    refine cnd_i (fun _ => ?_) (fun q => by simp at q; omega)
    refine X.swap s1.drew.drew a j rfl rfl (by omega) (by omega) fun w4 s4 _ => ?_
    have e : j = i - 1 := by omega
    rw [e] at s4 r1 ⊢
    exact hD w4 r1 s4

/-- slices.partition -/
theorem partition_ok (X : Cx w0 p n l0 fid fv cf) (s : St w0 p c l0 w l) (a b pv : Nat) (h1 : a ≤ pv) (h2 : pv < b) (hb : b ≤ n) :
    Calls Try.prog slices_partitionCmpFunc_int.id #[.slice p n c, .int .i64 a, .int .i64 b, .int .i64 pv, .func (.func fid) #[] fv] w fun e w' => ∃ (m : Nat) (y : Bool) (l' : List Int), e = .returned (.tuple #[.int .i64 m, .bool y]) ∧ a ≤ m ∧ m < b ∧ St w0 p c l0 w' l' ∧ Sw a b l l' ∧
      (∀ k, a ≤ k → k < m → cf (l'.getD k 0) (l'.getD m 0) < 0) ∧ (∀ k, m < k → k < b → ¬ cf (l'.getD k 0) (l'.getD m 0) < 0) := by
  refine slices_partitionCmpFunc_int.calls ?_
  have hbd := X.bd
  have hn := X.len s
  refine X.swap s.drew pv a rfl rfl (by omega) (by omega) fun w1 s1 _ => ?_
  have k1 : Sw a b l (swp l a pv) := .one (by omega) (by omega) (by omega) (by omega) (by omega)
  generalize swp l a pv = l1 at s1 k1
  have hn1 := X.len s1
  have eb : IntKind.i64.wrap ((b : Int) - 1) = ((b - 1 : Nat) : Int) := wN (by omega) (by omega)
  simp only [eb]
  refine ⟨fun I w' => ∃ i : Nat, I = i ∧ a < i ∧ i ≤ b ∧ St w0 p c l0 w' l1 ∧ PartI cf l1 a b i (b - 1) ∧ (i ≤ b - 1 → ¬ cf (l1.getD i 0) (l1.getD a 0) < 0), ?_, ?_⟩
  · refine ⟨fun I w' k => ∃ i : Nat, I = i ∧ a < i ∧ i ≤ b ∧ k = b - i ∧ St w0 p c l0 w' l1 ∧ PartI cf l1 a b i (b - 1), ⟨_, a + 1, wN (by omega) (by omega), by omega, by omega, rfl, s1, fun k _ _ => by omega, fun k _ _ => by omega⟩, ?_⟩
    rintro I w2 k _ ⟨i, rfl, g1, g2, rfl, s2, r2⟩
    refine cnd_i (fun q => ?_) (fun q => ⟨i, rfl, g1, g2, s2.drew, r2, fun _ => by simp at q; omega⟩)
    have q : i ≤ b - 1 := by simp at q; omega
    refine X.cmp s2.drew i a rfl rfl (by omega) (by omega) fun w3 s3 _ => ?_
    refine cnd_i (fun q3 => ?_) (fun q3 => ?_)
    · have q3 : cf (l1.getD i 0) (l1.getD a 0) < 0 := by simpa using q3
      refine ⟨_, ?_, i + 1, wN (by omega) (by omega), by omega, by omega, rfl, s3, fun t t1 t2 => ?_, r2.hi⟩
      · omega
      · by_cases e : t = i
        · subst e; exact q3
        · exact r2.lo t t1 (by omega)
    · have q3 : ¬ cf (l1.getD i 0) (l1.getD a 0) < 0 := by simpa using q3
      exact ⟨i, rfl, g1, g2, s3, r2, fun _ => q3⟩
  rintro I w2 _ ⟨i, rfl, g1, g2, s2, r2, x2⟩
  refine ⟨fun J w' => ∃ j : Nat, J = j ∧ i ≤ j + 1 ∧ j < b ∧ St w0 p c l0 w' l1 ∧ PartI cf l1 a b i j ∧ (i ≤ j → cf (l1.getD j 0) (l1.getD a 0) < 0), ?_, ?_⟩
  · refine ⟨fun J w' k => ∃ j : Nat, J = j ∧ i ≤ j + 1 ∧ j < b ∧ k = j ∧ St w0 p c l0 w' l1 ∧ PartI cf l1 a b i j, ⟨_, b - 1, rfl, by omega, by omega, rfl, s2, r2⟩, ?_⟩
    rintro J w3 k _ ⟨j, rfl, g3, g4, hk, s3, r3⟩
    refine cnd_i (fun q => ?_) (fun q => ⟨j, rfl, g3, g4, s3.drew, r3, fun _ => by simp at q; omega⟩)
    have q : i ≤ j := by simp at q; omega
    refine X.cmp s3.drew j a rfl rfl (by omega) (by omega) fun w4 s4 _ => ?_
    refine cnd_i (fun q3 => ?_) (fun q3 => ?_)
    · have q3 : ¬ cf (l1.getD j 0) (l1.getD a 0) < 0 := by simpa using q3
      refine ⟨_, ?_, j - 1, wN (by omega) (by omega), by omega, by omega, rfl, s4, r3.lo, fun t t1 t2 => ?_⟩
      · omega
      · by_cases e : t = j
        · subst e; exact q3
        · exact r3.hi t (by omega) t2
    · have q3 : cf (l1.getD j 0) (l1.getD a 0) < 0 := by simpa using q3
      exact ⟨j, rfl, g3, g4, s4, r3, fun _ => q3⟩
  rintro J w3 _ ⟨j, rfl, g3, g4, s3, r3, x3⟩
  have fin : ∀ {w' : World} {l2 : List Int} {i : Nat} (y : Bool), a < i → i ≤ b → Sw a b l l2 → PartI cf l2 a b i (i - 1) → St w0 p c l0 w' (swp l2 (i - 1) a) →
      ∃ (m : Nat) (y' : Bool) (l' : List Int), Ending.returned (.tuple #[.int .i64 ((i - 1 : Nat) : Int), .bool y]) = .returned (.tuple #[.int .i64 m, .bool y']) ∧ a ≤ m ∧ m < b ∧ St w0 p c l0 w' l' ∧ Sw a b l l' ∧
        (∀ k, a ≤ k → k < m → cf (l'.getD k 0) (l'.getD m 0) < 0) ∧ (∀ k, m < k → k < b → ¬ cf (l'.getD k 0) (l'.getD m 0) < 0) := by
    intro w' l2 i y q1 q2 k r s'
    have hl : n = (swp l2 (i - 1) a).length := X.len s'
    rw [swp_len] at hl
    obtain ⟨d1, d2⟩ := PartI.done (j := i - 1) (by rwa [show i - 1 + 1 = i by omega]) (by omega) (by omega) (by omega) (l := l2)
    exact ⟨i - 1, y, _, rfl, by omega, by omega, s', .step k (by omega) (by omega) (by omega) (by omega) (by omega), d1, d2⟩
  refine cnd_i (fun q => ?_) (fun q => ?_)
  · have q : j + 1 = i := by simp at q; omega
    refine X.swap s3.drew a j rfl rfl (by omega) (by omega) fun w4 s4 _ => ?_
    have e : j = i - 1 := by omega
    rw [e] at s4 r3 ⊢
    exact fin true g1 g2 k1 r3 s4
  · have q : i ≤ j := by simp at q; omega
    refine X.swap s3.drew j i rfl rfl (by omega) (by omega) fun w4 s4 _ => ?_
    have hij : i ≠ j := fun e => x2 (by omega) (by rw [e]; exact x3 (by omega))
    have k4 : Sw a b l (swp l1 i j) := .step k1 (by omega) (by omega) (by omega) (by omega) (by omega)
    have r4 := r3.swap (by omega) (by omega) g4 (by omega) (x2 (by omega)) (x3 q)
    generalize swp l1 i j = l2 at s4 k4 r4
    refine ⟨fun I J w' k => ∃ (i j : Nat) (l2 : List Int), I = i ∧ J = j ∧ a < i ∧ i ≤ j + 1 ∧ j < b ∧ k = j ∧ St w0 p c l0 w' l2 ∧ Sw a b l l2 ∧ PartI cf l2 a b i j, ⟨_, i + 1, j - 1, l2, wN (by omega) (by omega), wN (by omega) (by omega), by omega, by omega, by omega, rfl, s4, k4, r4⟩, ?_⟩
    rintro I J w5 k _ ⟨i, j, l3, rfl, rfl, g5, g6, g7, hk, s5, k5, r5⟩
    have hn3 := X.len s5
    have hN : ∀ (i' : Nat), a < i' → (i' ≤ j → ¬ cf (l3.getD i' 0) (l3.getD a 0) < 0) → ∀ w' (j' : Nat), i' < j' → j' ≤ j → PartI cf l3 a b i' j' → cf (l3.getD j' 0) (l3.getD a 0) < 0 → St w0 p c l0 w' (swp l3 i' j') →
        ∃ k', k' < k ∧ ∃ (i2 j2 : Nat) (l2 : List Int), IntKind.i64.wrap ((i' : Int) + 1) = i2 ∧ IntKind.i64.wrap ((j' : Int) - 1) = j2 ∧ a < i2 ∧ i2 ≤ j2 + 1 ∧ j2 < b ∧ k' = j2 ∧ St w0 p c l0 w' l2 ∧ Sw a b l l2 ∧ PartI cf l2 a b i2 j2 := by
      intro i' h1 h2 w' j' h3 h4 h5 h6 h7
      exact ⟨_, by omega, i' + 1, j' - 1, _, wN (by omega) (by omega), wN (by omega) (by omega), by omega, by omega, by omega, rfl, h7, .step k5 (by omega) (by omega) (by omega) (by omega) (by omega), h5.swap h1 h3 (by omega) (by omega) (h2 (by omega)) h6⟩
    refine ⟨fun I w' k => ∃ i : Nat, I = i ∧ a < i ∧ i ≤ j + 1 ∧ k = j + 1 - i ∧ St w0 p c l0 w' l3 ∧ PartI cf l3 a b i j, ⟨_, i, rfl, g5, g6, rfl, s5, r5⟩, ?_⟩
    rintro I w6 k6 _ ⟨i', rfl, u1, u2, rfl, s6, r6⟩
    refine cnd_i (fun q => ?_) (fun q => ?_)
    · have q : i' ≤ j := by simp at q; omega
      refine X.cmp s6.drew i' a rfl rfl (by omega) (by omega) fun w7 s7 _ => ?_
      refine cnd_i (fun q3 => ?_) (fun q3 => ?_)
      · have q3 : cf (l3.getD i' 0) (l3.getD a 0) < 0 := by simpa using q3
        refine ⟨_, ?_, i' + 1, wN (by omega) (by omega), by omega, by omega, rfl, s7, fun t t1 t2 => ?_, r6.hi⟩
        · omega
        · by_cases e : t = i'
          · subst e; exact q3
          · exact r6.lo t t1 (by omega)
      · have q3 : ¬ cf (l3.getD i' 0) (l3.getD a 0) < 0 := by simpa using q3
        exact part_tail X s7 r6 u1 u2 g7 hb (fun _ => q3) (fun w' r s' => fin false u1 (by omega) k5 r s') (hN i' u1 fun _ => q3)
    · have q : ¬ i' ≤ j := by simp at q; omega
      exact part_tail X s6.drew r6 u1 u2 g7 hb (fun e => absurd e q) (fun w' r s' => fin false u1 (by omega) k5 r s') (hN i' u1 fun e => absurd e q)
end Go.Proofs.Ytlpmapeojecenaa.W
