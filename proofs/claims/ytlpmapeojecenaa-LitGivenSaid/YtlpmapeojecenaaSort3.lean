/- slices.SortFunc over ints: partitions of equal ones, and a try of insertion. -/
import Derived.Test.YtlpmapeojecenaaSort2
namespace Go.Proofs.Ytlpmapeojecenaa.W
open Go Go.Fw Go.RowKit Go.SoP
variable {w0 w : World} {p : Option Addr} {n c : Nat} {l0 l : List Int} {fid : FuncId} {fv : Array Value} {cf : Int → Int → Int}

theorem equal_tail (X : Cx w0 p n l0 fid fv cf) (s : St w0 p c l0 w l) {a b i j0 : Nat} (h : PartE cf l a b i j0) (ha : a < i) (hi : i ≤ j0 + 1) (hj : j0 < b) (hb : b ≤ n) (hs : i ≤ j0 → cf (l.getD a 0) (l.getD i 0) < 0) {D : World → Prop} {N : Int → World → Prop}
    (hD : ∀ w', PartE cf l a b i (i - 1) → St w0 p c l0 w' l → D w')
    (hN : ∀ w' (j : Nat), i < j → j ≤ j0 → PartE cf l a b i j → ¬ cf (l.getD a 0) (l.getD j 0) < 0 → St w0 p c l0 w' (swp l i j) → N j w') :
    ∃ I : Int → World → Nat → Prop, (∃ k, I j0 w k) ∧ ∀ (j : Int) (w1 : World) (k : Nat) (_ : Fr), I j w1 k →
      cnd (decide ((i : Int) ≤ j))
        (ixK p n (a : Int) 1 fun a1 => ∃ x1 : Int, w1.drew.cell? a1 = some (.int .i64 x1) ∧ ixK p n j 1 fun a2 => ∃ x2 : Int, w1.drew.cell? a2 = some (.int .i64 x2) ∧
          cnd (entB Try.prog fid) (Calls Try.prog fid (#[] ++ #[.int .i64 x1, .int .i64 x2] ++ fv) w1.drew fun e w3 => ∃ r : Int, e = .returned (.int .i64 r) ∧
            cnd (decide (r < (0 : Int))) (∃ k', k' < k ∧ I (IntKind.i64.wrap (j - (1 : Int))) w3 k')
              (cnd (decide ((i : Int) > j)) (D w3)
                (ixK p n j 1 fun a1 => ∃ x1 : Int, w3.drew.cell? a1 = some (.int .i64 x1) ∧ ixK p n (i : Int) 1 fun a2 => ∃ x2 : Int, w3.drew.cell? a2 = some (.int .i64 x2) ∧
                  ixK p n (i : Int) 1 fun a3 => ∃ w4 : World, StoreAt a3 0 [.int .i64 x1] w3.drew w4 ∧ ixK p n j 1 fun a4 => ∃ w5 : World, StoreAt a4 0 [.int .i64 x2] w4 w5 ∧ N j w5))) False)
        (cnd (decide ((i : Int) > j)) (D w1.drew)
          (ixK p n j 1 fun a1 => ∃ x1 : Int, w1.drew.drew.cell? a1 = some (.int .i64 x1) ∧ ixK p n (i : Int) 1 fun a2 => ∃ x2 : Int, w1.drew.drew.cell? a2 = some (.int .i64 x2) ∧
            ixK p n (i : Int) 1 fun a3 => ∃ w4 : World, StoreAt a3 0 [.int .i64 x1] w1.drew.drew w4 ∧ ixK p n j 1 fun a4 => ∃ w5 : World, StoreAt a4 0 [.int .i64 x2] w4 w5 ∧ N j w5)) := by
  have hbd := X.bd
  refine ⟨fun J w' k => ∃ j : Nat, J = j ∧ i ≤ j + 1 ∧ j ≤ j0 ∧ k = j ∧ St w0 p c l0 w' l ∧ PartE cf l a b i j, ⟨_, j0, rfl, hi, Nat.le_refl _, rfl, s, h⟩, ?_⟩
  rintro J w1 k _ ⟨j, rfl, h1, h2, hk, s1, r1⟩
  have hn1 := X.len s1
  refine cnd_i (fun q => ?_) (fun q => ?_)
  · have q : i ≤ j := by simp at q; omega
    refine X.cmp s1.drew a j rfl rfl (by omega) (by omega) fun w3 s3 _ => ?_
    refine cnd_i (fun q3 => ?_) (fun q3 => ?_)
    · have q3 : cf (l.getD a 0) (l.getD j 0) < 0 := by simpa using q3
      refine ⟨_, ?_, j - 1, wN (by omega) (by omega), by omega, by omega, rfl, s3, r1.lo, fun t t1 t2 => ?_⟩
      · omega
      · by_cases e : t = j
        · subst e; exact q3
        · exact r1.hi t (by omega) t2
    · have q3 : ¬ cf (l.getD a 0) (l.getD j 0) < 0 := by simpa using q3
      refine cnd_i (fun q => by simp at q; omega) (fun _ => ?_)
      have hij : i ≠ j := fun e => by subst e; exact q3 (hs (by omega))
      refine X.swap s3.drew j i rfl rfl (by omega) (by omega) fun w4 s4 _ => ?_
      exact hN w4 j (by omega) h2 r1 q3 s4
  · have q : j + 1 = i := by simp at q; omega
    refine cnd_i (fun _ => ?_) (fun q => by simp at q; omega)
    have e : j = i - 1 := by omega
    rw [e] at r1
    exact hD _ r1 s1.drew

/-- slices.partitionEqual -/
theorem partitionEqual_ok (X : Cx w0 p n l0 fid fv cf) (s : St w0 p c l0 w l) (a b pv : Nat) (h1 : a ≤ pv) (h2 : pv < b) (hb : b ≤ n) :
    Calls Try.prog slices_partitionEqualCmpFunc_int.id #[.slice p n c, .int .i64 a, .int .i64 b, .int .i64 pv, .func (.func fid) #[] fv] w fun e w' => ∃ (m : Nat) (l' : List Int), e = .returned (.int .i64 m) ∧ a < m ∧ m ≤ b ∧ St w0 p c l0 w' l' ∧ Sw a b l l' ∧ l'.getD a 0 = l.getD pv 0 ∧
      (∀ k, a < k → k < m → ¬ cf (l'.getD a 0) (l'.getD k 0) < 0) ∧ (∀ k, m ≤ k → k < b → cf (l'.getD a 0) (l'.getD k 0) < 0) := by
  refine slices_partitionEqualCmpFunc_int.calls ?_
  have hbd := X.bd
  have hn := X.len s
  refine X.swap s.drew pv a rfl rfl (by omega) (by omega) fun w1 s1 _ => ?_
  have k1 : Sw a b l (swp l a pv) := .one (by omega) (by omega) (by omega) (by omega) (by omega)
  have a1 : (swp l a pv).getD a 0 = l.getD pv 0 := by
    rw [swp_get (by omega) (by omega)]
    by_cases e : a = pv
    · rw [if_pos e, e]
    · rw [if_neg e, if_pos (Eq.refl a)]
  generalize swp l a pv = l1 at s1 k1 a1
  refine ⟨fun I J w' k => ∃ (i j : Nat) (l2 : List Int), I = i ∧ J = j ∧ a < i ∧ i ≤ j + 1 ∧ j < b ∧ k = j ∧ St w0 p c l0 w' l2 ∧ Sw a b l l2 ∧ l2.getD a 0 = l.getD pv 0 ∧ PartE cf l2 a b i j, ⟨_, a + 1, b - 1, l1, wN (by omega) (by omega), wN (by omega) (by omega), by omega, by omega, by omega, rfl, s1, k1, a1, fun k _ _ => by omega, fun k _ _ => by omega⟩, ?_⟩
  rintro I J w5 k _ ⟨i, j, l3, rfl, rfl, g5, g6, g7, hk, s5, k5, a5, r5⟩
  have hn3 := X.len s5
  have hN : ∀ (i' : Nat), a < i' → (i' ≤ j → cf (l3.getD a 0) (l3.getD i' 0) < 0) → ∀ w' (j' : Nat), i' < j' → j' ≤ j → PartE cf l3 a b i' j' → ¬ cf (l3.getD a 0) (l3.getD j' 0) < 0 → St w0 p c l0 w' (swp l3 i' j') →
      ∃ k', k' < k ∧ ∃ (i2 j2 : Nat) (l2 : List Int), IntKind.i64.wrap ((i' : Int) + 1) = i2 ∧ IntKind.i64.wrap ((j' : Int) - 1) = j2 ∧ a < i2 ∧ i2 ≤ j2 + 1 ∧ j2 < b ∧ k' = j2 ∧ St w0 p c l0 w' l2 ∧ Sw a b l l2 ∧ l2.getD a 0 = l.getD pv 0 ∧ PartE cf l2 a b i2 j2 := by
    intro i' h1 h2 w' j' h3 h4 h5 h6 h7
    refine ⟨_, ?_, i' + 1, j' - 1, _, wN (by omega) (by omega), wN (by omega) (by omega), by omega, by omega, by omega, rfl, h7, .step k5 (by omega) (by omega) (by omega) (by omega) (by omega), ?_, h5.swap h1 h3 (by omega) (by omega) (h2 (by omega)) h6⟩
    · omega
    · rw [swp_get (by omega) (by omega), if_neg (by omega), if_neg (by omega), a5]
  have fin : ∀ (i' : Nat), a < i' → i' ≤ j + 1 → ∀ w', PartE cf l3 a b i' (i' - 1) → St w0 p c l0 w' l3 → ∃ (m : Nat) (l' : List Int), Ending.returned (.int .i64 (i' : Int)) = .returned (.int .i64 m) ∧ a < m ∧ m ≤ b ∧ St w0 p c l0 w' l' ∧ Sw a b l l' ∧ l'.getD a 0 = l.getD pv 0 ∧
      (∀ k, a < k → k < m → ¬ cf (l'.getD a 0) (l'.getD k 0) < 0) ∧ (∀ k, m ≤ k → k < b → cf (l'.getD a 0) (l'.getD k 0) < 0) :=
    fun i' u1 u2 w' r s' => ⟨i', l3, rfl, u1, by omega, s', k5, a5, r.lo, fun k v1 v2 => r.hi k (by omega) v2⟩
  refine ⟨fun I w' k => ∃ i : Nat, I = i ∧ a < i ∧ i ≤ j + 1 ∧ k = j + 1 - i ∧ St w0 p c l0 w' l3 ∧ PartE cf l3 a b i j, ⟨_, i, rfl, g5, g6, rfl, s5, r5⟩, ?_⟩
  rintro I w6 k6 _ ⟨i', rfl, u1, u2, rfl, s6, r6⟩
  refine cnd_i (fun q => ?_) (fun q => ?_)
  · have q : i' ≤ j := by simp at q; omega
    refine X.cmp s6.drew a i' rfl rfl (by omega) (by omega) fun w7 s7 _ => ?_
    refine cnd_i (fun q3 => ?_) (fun q3 => ?_)
    · have q3 : ¬ cf (l3.getD a 0) (l3.getD i' 0) < 0 := by simpa using q3
      refine ⟨_, ?_, i' + 1, wN (by omega) (by omega), by omega, by omega, rfl, s7, fun t t1 t2 => ?_, r6.hi⟩
      · omega
      · by_cases e : t = i'
        · subst e; exact q3
        · exact r6.lo t t1 (by omega)
    · have q3 : cf (l3.getD a 0) (l3.getD i' 0) < 0 := by simpa using q3
      exact equal_tail X s7 r6 u1 u2 g7 hb (fun _ => q3) (fin i' u1 u2) (hN i' u1 fun _ => q3)
  · have q : ¬ i' ≤ j := by simp at q; omega
    exact equal_tail X s6.drew r6 u1 u2 g7 hb (fun e => absurd e q) (fin i' u1 u2) (hN i' u1 fun e => absurd e q)

/-- None of a range is ahead of what stands before it. -/
def PreR (cf : Int → Int → Int) (l : List Int) (a b : Nat) : Prop := a = 0 ∨ ∀ k, a ≤ k → k < b → Le cf (l.getD (a - 1) 0) (l.getD k 0)
theorem PreR.sw {m : List Int} {a b : Nat} (h : PreR cf l a b) (s : Sw a b l m) : PreR cf m a b := by
  rcases Nat.eq_zero_or_pos a with e | e
  · exact .inl e
  · refine .inr fun k k1 k2 => ?_
    rw [s.out (k := a - 1) (by omega)]
    exact s.all (P := fun x => Le cf (l.getD (a - 1) 0) x) (by rcases h with h | h; omega; exact h) k k1 k2

/-- slices.partialInsertionSort -/
theorem partialInsertion_ok (X : Cx w0 p n l0 fid fv cf) (s : St w0 p c l0 w l) (a b : Nat) (hab : a < b) (hb : b ≤ n) (hp : PreR cf l a b) :
    Calls Try.prog slices_partialInsertionSortCmpFunc_int.id #[.slice p n c, .int .i64 a, .int .i64 b, .func (.func fid) #[] fv] w fun e w' => ∃ (y : Bool) (l' : List Int), e = .returned (.bool y) ∧ St w0 p c l0 w' l' ∧ Sw a b l l' ∧ (y = true → SortedR cf l' a b) := by
  refine slices_partialInsertionSortCmpFunc_int.calls ?_
  have hbd := X.bd
  refine ⟨fun I J w' k => ∃ (i j : Nat) (l1 : List Int), I = i ∧ J = j ∧ a < i ∧ i ≤ b ∧ j ≤ 5 ∧ k = 5 - j ∧ St w0 p c l0 w' l1 ∧ Sw a b l l1 ∧ SortedR cf l1 a i, ⟨_, a + 1, 0, l, wN (by omega) (by omega), rfl, by omega, by omega, by omega, rfl, s, .refl l, fun x y _ _ _ => by omega⟩, ?_⟩
  rintro I J w1 k _ ⟨i, j, l1, rfl, rfl, g1, g2, g3, rfl, s1, k1, r1⟩
  have hn1 := X.len s1
  refine cnd_i (fun q => ?_) (fun q => ⟨false, l1, rfl, s1, k1, fun e => by simp at e⟩)
  have q : j < 5 := by simp at q; omega
  refine ⟨fun I w' => ∃ i : Nat, I = i ∧ a < i ∧ i ≤ b ∧ St w0 p c l0 w' l1 ∧ SortedR cf l1 a i ∧ (i < b → cf (l1.getD i 0) (l1.getD (i - 1) 0) < 0), ?_, ?_⟩
  · refine ⟨fun I w' k => ∃ i : Nat, I = i ∧ a < i ∧ i ≤ b ∧ k = b - i ∧ St w0 p c l0 w' l1 ∧ SortedR cf l1 a i, ⟨_, i, rfl, g1, g2, rfl, s1, r1⟩, ?_⟩
    clear q g1 g2 s1 r1
    rintro I w2 k _ ⟨i, rfl, g1, g2, rfl, s2, r2⟩
    refine cnd_i (fun q => ?_) (fun q => ⟨i, rfl, g1, g2, s2.drew, r2, fun _ => by simp at q; omega⟩)
    have q : i < b := by simp at q; omega
    have e1 : IntKind.i64.wrap ((i : Int) - 1) = ((i - 1 : Nat) : Int) := wN (by omega) (by omega)
    rw [e1]
    refine X.cmp s2.drew i (i - 1) rfl rfl (by omega) (by omega) fun w3 s3 _ => ?_
    refine cnd_i (fun q3 => ?_) (fun q3 => ?_)
    · have q3 : ¬ cf (l1.getD i 0) (l1.getD (i - 1) 0) < 0 := by simpa using q3
      refine ⟨_, ?_, i + 1, wN (by omega) (by omega), by omega, by omega, rfl, s3, (InsI.start r2).done X.o (Nat.le_refl _) (.inr q3)⟩
      omega
    · exact ⟨i, rfl, g1, g2, s3, r2, fun _ => by simpa using q3⟩
  clear g1 g2 s1 r1 hn1
  rintro I w2 _ ⟨i, rfl, g1, g2, s2, r2, x2⟩
  have hn1 := X.len s2
  refine cnd_i (fun q2 => ?_) (fun q2 => ?_)
  · have q2 : i = b := by simp at q2; omega
    subst q2
    exact ⟨true, l1, rfl, s2, k1, fun _ => r2⟩
  have q2 : i < b := by simp at q2; omega
  refine cnd_i (fun _ => ⟨false, l1, rfl, s2, k1, fun e => by simp at e⟩) (fun _ => ?_)
  have e1 : IntKind.i64.wrap ((i : Int) - 1) = ((i - 1 : Nat) : Int) := wN (by omega) (by omega)
  have e2 : IntKind.i64.wrap ((i : Int) - a) = ((i - a : Nat) : Int) := wN (by omega) (by omega)
  have e3 : IntKind.i64.wrap ((b : Int) - i) = ((b - i : Nat) : Int) := wN (by omega) (by omega)
  simp only [e1, e2, e3]
  refine X.swap s2.drew (i - 1) i rfl rfl (by omega) (by omega) fun w3 s3 _ => ?_
  have k3 : Sw a b l (swp l1 i (i - 1)) := .step k1 (by omega) (by omega) (by omega) (by omega) (by omega)
  have r3 : InsI cf (swp l1 i (i - 1)) a i (i - 1) := (InsI.start r2).step X.o g1 (Nat.le_refl _) (by omega) (x2 q2)
  generalize swp l1 i (i - 1) = l3 at s3 k3 r3
  have hn3 := X.len s3
  have go : ∀ {w' : World} {l4 : List Int}, St w0 p c l0 w' l4 → Sw a b l l4 → SortedR cf l4 a i → ∃ k', k' < 5 - j ∧ ∃ (i2 j2 : Nat) (l1 : List Int), (i : Int) = i2 ∧ IntKind.i64.wrap ((j : Int) + 1) = j2 ∧ a < i2 ∧ i2 ≤ b ∧ j2 ≤ 5 ∧ k' = 5 - j2 ∧ St w0 p c l0 w' l1 ∧ Sw a b l l1 ∧ SortedR cf l1 a i2 := by
    intro w' l4 h1 h2 h3
    exact ⟨_, by omega, i, j + 1, l4, rfl, wN (by omega) (by omega), g1, g2, by omega, rfl, h1, h2, h3⟩
  refine ⟨fun w' => ∃ l4 : List Int, St w0 p c l0 w' l4 ∧ Sw a b l l4 ∧ SortedR cf l4 a i, cnd_i (fun q3 => ?_) (fun q3 => ?_), ?_⟩
  · refine ⟨fun J w' k => ∃ (j : Nat) (l4 : List Int), J = j ∧ a ≤ j ∧ j < i ∧ k = j ∧ St w0 p c l0 w' l4 ∧ Sw a b l l4 ∧ InsI cf l4 a i j, ⟨_, i - 1, l3, rfl, by omega, by omega, rfl, s3, k3, r3⟩, ?_⟩
    rintro J w4 k _ ⟨j', l4, rfl, h1, h2, hk, s4, k4, r4⟩
    have hn4 := X.len s4
    have dn : (j' ≤ a ∨ ¬ cf (l4.getD j' 0) (l4.getD (j' - 1) 0) < 0) → SortedR cf l4 a i := fun h x y x1 x2 x3 => r4.done X.o (by omega) h x y x1 x2 (by omega)
    refine cnd_i (fun q4 => ?_) (fun q4 => ⟨l4, s4, k4, dn (.inl (by simp at q4; omega))⟩)
    have q4 : 1 ≤ j' := by simp at q4; omega
    have e4 : IntKind.i64.wrap ((j' : Int) - 1) = ((j' - 1 : Nat) : Int) := wN (by omega) (by omega)
    simp only [e4]
    refine X.cmp s4.drew j' (j' - 1) rfl rfl (by omega) (by omega) fun w5 s5 _ => ?_
    refine cnd_i (fun q5 => ⟨l4, s5, k4, dn (.inr (by simpa using q5))⟩) (fun q5 => ?_)
    have q5 : cf (l4.getD j' 0) (l4.getD (j' - 1) 0) < 0 := by simpa using q5
    have hja : a < j' := by
      rcases Nat.lt_or_ge a j' with e | e
      · exact e
      · have ea : j' = a := by omega
        subst ea
        rcases hp.sw k4 with h | h
        · omega
        · exact absurd q5 (h j' (Nat.le_refl _) hab)
    refine X.swap s5.drew (j' - 1) j' rfl rfl (by omega) (by omega) fun w6 s6 _ => ?_
    exact ⟨_, by omega, j' - 1, _, rfl, by omega, by omega, rfl, s6, .step k4 (by omega) (by omega) (by omega) (by omega) (by omega), r4.step X.o hja (by omega) (by omega) q5⟩
  · have q3 : i = a + 1 := by simp at q3; omega
    exact ⟨l3, s3, k3, fun x y x1 x2 x3 => r3.done X.o (by omega) (.inl (by omega)) x y x1 x2 (by omega)⟩
  · rintro w4 _ ⟨l4, s4, k4, r4⟩
    have hn4 := X.len s4
    refine cnd_i (fun q3 => ?_) (fun q3 => go s4 k4 r4)
    refine ⟨fun J w' k => ∃ (j : Nat) (l5 : List Int), J = j ∧ i < j ∧ j ≤ b ∧ k = b - j ∧ St w0 p c l0 w' l5 ∧ Sw a b l l5 ∧ SortedR cf l5 a i, ⟨_, i + 1, l4, wN (by omega) (by omega), by omega, by omega, rfl, s4, k4, r4⟩, ?_⟩
    rintro J w5 k _ ⟨j', l5, rfl, h1, h2, rfl, s5, k5, r5⟩
    have hn5 := X.len s5
    refine cnd_i (fun q5 => ?_) (fun q5 => go s5 k5 r5)
    have q5 : j' < b := by simp at q5; omega
    have e4 : IntKind.i64.wrap ((j' : Int) - 1) = ((j' - 1 : Nat) : Int) := wN (by omega) (by omega)
    simp only [e4]
    refine X.cmp s5.drew j' (j' - 1) rfl rfl (by omega) (by omega) fun w6 s6 _ => ?_
    refine cnd_i (fun q6 => go s6 k5 r5) (fun q6 => ?_)
    refine X.swap s6.drew (j' - 1) j' rfl rfl (by omega) (by omega) fun w7 s7 _ => ?_
    refine ⟨_, ?_, j' + 1, _, wN (by omega) (by omega), by omega, by omega, rfl, s7, .step k5 (by omega) (by omega) (by omega) (by omega) (by omega), r5.out (.one (a := i) (b := b) (by omega) (by omega) (by omega) (by omega) (by omega)) (.inl (Nat.le_refl _))⟩
    omega
end Go.Proofs.Ytlpmapeojecenaa.W
