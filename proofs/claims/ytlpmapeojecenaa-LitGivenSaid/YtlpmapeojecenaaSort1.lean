/- slices.SortFunc over ints: its parts that sort. -/
import Derived.Test.YtlpmapeojecenaaGenLit
import Derived.Test.YtlpmapeojecenaaFwSlice
import Derived.Test.YtlpmapeojecenaaSortPure
namespace Go.Proofs.Ytlpmapeojecenaa.W
open Go Go.Fw Go.RowKit Go.SoP

abbrev Bk (p : Option Addr) : Nat → Prop := fun b => blk p = some b

theorem wN {x : Int} {i : Nat} (h : x = i) (hb : i < 9223372036854775808) : IntKind.i64.wrap x = i := by
  subst h
  exact wrap64_of (by omega) (by omega)

/-- What is sorted, and by what. -/
structure Cx (w0 : World) (p : Option Addr) (n : Nat) (l0 : List Int) (fid : FuncId) (fv : Array Value) (cf : Int → Int → Int) : Prop where
  hn : n = l0.length
  hm : n ≤ 1152921504606846976
  he : entB Try.prog fid = true
  hf : ∀ x ∈ l0, ∀ y ∈ l0, ∀ w, Mod (Bk p) w0 w → Calls Try.prog fid (#[] ++ #[.int .i64 x, .int .i64 y] ++ fv) w fun e w2 => e = .returned (.int .i64 (cf x y)) ∧ Grow w w2
  o : Ord cf

/-- Where a sort stands. -/
structure St (w0 : World) (p : Option Addr) (c : Nat) (l0 : List Int) (w : World) (l : List Int) : Prop where
  o : OwI ty_int w p c l
  m : Mod (Bk p) w0 w
  pm : l.Perm l0

variable {w0 w : World} {p : Option Addr} {n c : Nat} {l0 l : List Int} {fid : FuncId} {fv : Array Value} {cf : Int → Int → Int}

theorem Cx.bd (X : Cx w0 p n l0 fid fv cf) : n < 2305843009213693952 := by have := X.hm; omega
theorem St.drew (s : St w0 p c l0 w l) : St w0 p c l0 w.drew l := ⟨s.o.drew, s.m.drew, s.pm⟩
theorem St.grow {w' : World} (s : St w0 p c l0 w l) (g : Grow w w') : St w0 p c l0 w' l := ⟨s.o.grow g, s.m.grow g, s.pm⟩
theorem Cx.len (X : Cx w0 p n l0 fid fv cf) (s : St w0 p c l0 w l) : n = l.length := by rw [X.hn, s.pm.length_eq]
theorem St.mem (s : St w0 p c l0 w l) {i : Nat} (h : i < l.length) : l.getD i 0 ∈ l0 := by
  rw [← s.pm.mem_iff]
  simp [List.getD, h]

/-- Two elements are compared. -/
theorem Cx.cmp (X : Cx w0 p n l0 fid fv cf) (s : St w0 p c l0 w l) {I J : Int} (i j : Nat) (ei : I = i) (ej : J = j) (hi : i < n) (hj : j < n) {R : Int → World → Prop}
    (hk : ∀ w', St w0 p c l0 w' l → Grow w w' → R (cf (l.getD i 0) (l.getD j 0)) w') :
    ixK p n I 1 fun a1 => ∃ x1 : Int, w.cell? a1 = some (.int .i64 x1) ∧ ixK p n J 1 fun a2 => ∃ x2 : Int, w.cell? a2 = some (.int .i64 x2) ∧
      cnd (entB Try.prog fid) (Calls Try.prog fid (#[] ++ #[.int .i64 x1, .int .i64 x2] ++ fv) w fun e w3 => ∃ r : Int, e = .returned (.int .i64 r) ∧ R r w3) False := by
  subst ei ej
  have hl := X.len s
  refine s.o.ix 0 (by omega) hl (by omega) fun a e => ⟨_, e, s.o.ix 0 (by omega) hl (by omega) fun a e => ⟨_, e, ?_⟩⟩
  rw [X.he]
  show Calls _ _ _ _ _
  refine (X.hf _ (s.mem (i := i) (by omega)) _ (s.mem (i := j) (by omega)) w s.m).mono ?_
  rintro e w' ⟨rfl, g⟩
  exact ⟨_, rfl, hk w' (s.grow g) g⟩

theorem swp_perm {i j : Nat} (hi : i < l.length) (hj : j < l.length) : (swp l i j).Perm l := perm_swp hi hj

/-- Two elements change places. -/
theorem Cx.swap (X : Cx w0 p n l0 fid fv cf) (s : St w0 p c l0 w l) {I J : Int} (i j : Nat) (ei : I = i) (ej : J = j) (hi : i < n) (hj : j < n) {K : World → Prop}
    (hk : ∀ w', St w0 p c l0 w' (swp l j i) → Mod (Bk p) w w' → K w') :
    ixK p n I 1 fun a1 => ∃ x1 : Int, w.cell? a1 = some (.int .i64 x1) ∧ ixK p n J 1 fun a2 => ∃ x2 : Int, w.cell? a2 = some (.int .i64 x2) ∧
      ixK p n J 1 fun a3 => ∃ w3 : World, StoreAt a3 0 [.int .i64 x1] w w3 ∧ ixK p n I 1 fun a4 => ∃ w4 : World, StoreAt a4 0 [.int .i64 x2] w3 w4 ∧ K w4 := by
  subst ei ej
  have hl := X.len s
  refine s.o.ix 0 (by omega) hl (by omega) fun a e => ⟨_, e, s.o.ix 0 (by omega) hl (by omega) fun a e => ⟨_, e, ?_⟩⟩
  refine s.o.st _ rfl rfl (by omega) hl (by omega) fun w3 o3 m3 => ?_
  refine o3.st _ rfl rfl (by omega) (by simpa using hl) (by omega) fun w4 o4 m4 => ?_
  simp only [Int.toNat_natCast] at o4
  refine hk w4 ⟨o4, (s.m.trans m3).trans m4, ?_⟩ (m3.trans m4)
  exact (swp_perm (by omega) (by omega)).trans s.pm

/-- slices.insertionSort -/
theorem insertion_ok (X : Cx w0 p n l0 fid fv cf) (s : St w0 p c l0 w l) (a b : Nat) (hab : a ≤ n) (hb : b ≤ n) :
    Calls Try.prog slices_insertionSortCmpFunc_int.id #[.slice p n c, .int .i64 a, .int .i64 b, .func (.func fid) #[] fv] w fun e w' => e = .returned (.tuple #[]) ∧ ∃ l', St w0 p c l0 w' l' ∧ Sw a b l l' ∧ SortedR cf l' a b := by
  refine slices_insertionSortCmpFunc_int.calls ?_
  have hbd := X.bd
  refine ⟨fun I w' k => ∃ (i : Nat) (l' : List Int), I = i ∧ a + 1 ≤ i ∧ i ≤ n + 1 ∧ k = n + 1 - i ∧ St w0 p c l0 w' l' ∧ Sw a b l l' ∧ SortedR cf l' a i, ⟨_, a + 1, l, wN (by omega) (by omega), Nat.le_refl _, by omega, rfl, s, .refl l, fun i j h1 h2 h3 => by omega⟩, ?_⟩
  rintro I w1 k _ ⟨i, l1, rfl, h1, h2, rfl, s1, k1, r1⟩
  refine cnd_i (fun q => ?_) (fun q => ⟨rfl, l1, s1, k1, fun x y x1 x2 x3 => r1 x y x1 x2 (by simp at q; omega)⟩)
  have q : i < b := by simpa using q
  refine ⟨fun J w' k => ∃ (j : Nat) (l' : List Int), J = j ∧ a ≤ j ∧ j ≤ i ∧ j = k ∧ St w0 p c l0 w' l' ∧ Sw a b l l' ∧ InsI cf l' a i j, ⟨_, i, l1, rfl, by omega, Nat.le_refl _, rfl, s1, k1, .start r1⟩, ?_⟩
  rintro J w2 k _ ⟨j, l2, rfl, h3, h4, rfl, s2, k2, r2⟩
  have hn2 := X.len s2
  refine cnd_i (fun q2 => ?_) (fun q2 => ?_)
  · have q2 : a < j := by simpa using q2
    have e1 : IntKind.i64.wrap ((j : Int) - 1) = ((j - 1 : Nat) : Int) := wN (by omega) (by omega)
    rw [e1]
    refine X.cmp s2.drew j (j - 1) rfl rfl (by omega) (by omega) fun w3 s3 _ => ?_
    refine cnd_i (fun q3 => ?_) (fun q3 => ?_)
    · have q3 : cf (l2.getD j 0) (l2.getD (j - 1) 0) < 0 := by simpa using q3
      refine X.swap s3.drew (j - 1) j rfl rfl (by omega) (by omega) fun w4 s4 _ => ?_
      exact ⟨_, by omega, j - 1, _, rfl, by omega, by omega, rfl, s4, .step k2 (by omega) (by omega) (by omega) (by omega) (by omega), r2.step X.o q2 h4 (by omega) q3⟩
    · have q3 : ¬ cf (l2.getD j 0) (l2.getD (j - 1) 0) < 0 := by simpa using q3
      exact ⟨_, by omega, i + 1, l2, wN (by omega) (by omega), by omega, by omega, rfl, s3, k2, r2.done X.o h4 (.inr q3)⟩
  · have q2 : ¬ a < j := by simpa using q2
    exact ⟨_, by omega, i + 1, l2, wN (by omega) (by omega), by omega, by omega, rfl, s2.drew, k2, r2.done X.o h4 (.inl (by omega))⟩

/-- slices.siftDown -/
theorem siftDown_ok (X : Cx w0 p n l0 fid fv cf) (s : St w0 p c l0 w l) (lo hi f : Nat) (hlo : lo ≤ n) (hh : f + hi ≤ n) (h0 : HeapR cf l f hi (lo + 1)) :
    Calls Try.prog slices_siftDownCmpFunc_int.id #[.slice p n c, .int .i64 lo, .int .i64 hi, .int .i64 f, .func (.func fid) #[] fv] w fun e w' => e = .returned (.tuple #[]) ∧ ∃ l', St w0 p c l0 w' l' ∧ Sw f (f + hi) l l' ∧ HeapR cf l' f hi lo := by
  refine slices_siftDownCmpFunc_int.calls ?_
  have hbd := X.bd
  refine ⟨fun I w' k => ∃ (r : Nat) (l' : List Int), I = r ∧ r ≤ n ∧ k = n - r ∧ St w0 p c l0 w' l' ∧ Sw f (f + hi) l l' ∧ SI cf l' f hi lo r, ⟨_, lo, l, rfl, hlo, rfl, s, .refl l, .start h0⟩, ?_⟩
  rintro I w1 k _ ⟨r, l1, rfl, hr, rfl, s1, k1, r1⟩
  have hn1 := X.len s1
  have e1 : IntKind.i64.wrap ((2 : Int) * r) = ((2 * r : Nat) : Int) := wN (by omega) (by omega)
  have e2 : IntKind.i64.wrap (((2 * r : Nat) : Int) + 1) = ((2 * r + 1 : Nat) : Int) := wN (by omega) (by omega)
  have e3 : IntKind.i64.wrap (((2 * r + 1 : Nat) : Int) + 1) = ((2 * r + 2 : Nat) : Int) := wN (by omega) (by omega)
  have e6 : IntKind.i64.wrap ((f : Int) + r) = ((f + r : Nat) : Int) := wN (by omega) (by omega)
  simp only [e1, e2, e3, e6]
  refine cnd_i (fun q => ⟨trivial, l1, s1, k1, r1.done fun t h1 h2 => ?_⟩) (fun q => ?_) <;> simp only [decide_eq_true_eq, decide_eq_false_iff_not, ge_iff_le] at q
  · unfold kidOf at h1; omega
  have e4 : IntKind.i64.wrap ((f : Int) + ((2 * r + 1 : Nat) : Int)) = ((f + (2 * r + 1) : Nat) : Int) := wN (by omega) (by omega)
  have e5 : IntKind.i64.wrap (((f + (2 * r + 1) : Nat) : Int) + 1) = ((f + (2 * r + 2) : Nat) : Int) := wN (by omega) (by omega)
  simp only [e4, e5]
  refine ⟨fun C w' => ∃ ch : Nat, C = ch ∧ kidOf r ch ∧ ch < hi ∧ (∀ t, kidOf r t → t < hi → Le cf (l1.getD (f + t) 0) (l1.getD (f + ch) 0)) ∧ St w0 p c l0 w' l1, cnd_i (fun q2 => ?_) (fun q2 => ?_), ?_⟩
  · have q2 : 2 * r + 2 < hi := by simp at q2; omega
    refine X.cmp s1.drew _ _ rfl rfl (by omega) (by omega) fun w3 s3 _ => ?_
    refine cnd_i (fun q3 => ?_) (fun q3 => ?_)
    · have q3 : cf (l1.getD (f + (2 * r + 1)) 0) (l1.getD (f + (2 * r + 2)) 0) < 0 := by simpa using q3
      refine ⟨_, rfl, .inr rfl, by omega, fun t t1 t2 => ?_, s3⟩
      rcases t1 with t1 | t1 <;> subst t1
      · exact X.o.lt q3
      · exact X.o.rfl
    · have q3 : ¬ cf (l1.getD (f + (2 * r + 1)) 0) (l1.getD (f + (2 * r + 2)) 0) < 0 := by simpa using q3
      refine ⟨_, rfl, .inl rfl, by omega, fun t t1 t2 => ?_, s3⟩
      rcases t1 with t1 | t1 <;> subst t1
      · exact X.o.rfl
      · exact q3
  · have q2 : ¬ 2 * r + 2 < hi := by simp at q2; omega
    refine ⟨_, rfl, .inl rfl, by omega, fun t t1 t2 => ?_, s1.drew⟩
    rcases t1 with t1 | t1 <;> subst t1
    · exact X.o.rfl
    · omega
  · rintro C w4 _ ⟨ch, rfl, g1, g2, g3, s4⟩
    have g1' := g1
    unfold kidOf at g1'
    have e7 : IntKind.i64.wrap ((f : Int) + ch) = ((f + ch : Nat) : Int) := wN (by omega) (by omega)
    simp only [e7]
    refine X.cmp s4.drew _ _ rfl rfl (by omega) (by omega) fun w5 s5 _ => ?_
    refine cnd_i (fun q3 => ?_) (fun q3 => ?_)
    · have q3 : ¬ cf (l1.getD (f + r) 0) (l1.getD (f + ch) 0) < 0 := by simpa using q3
      exact ⟨trivial, l1, s5, k1, r1.done fun t t1 t2 => X.o.trans (g3 t t1 t2) q3⟩
    · have q3 : cf (l1.getD (f + r) 0) (l1.getD (f + ch) 0) < 0 := by simpa using q3
      refine X.swap s5.drew _ _ rfl rfl (by omega) (by omega) fun w6 s6 _ => ?_
      exact ⟨_, by omega, ch, _, rfl, by omega, rfl, s6, .step k1 (by omega) (by omega) (by omega) (by omega) (by omega), r1.step X.o g1 g2 (by omega) q3 g3⟩

/-- slices.heapSort -/
theorem heapSort_ok (X : Cx w0 p n l0 fid fv cf) (s : St w0 p c l0 w l) (a b : Nat) (hab : a ≤ b) (hb : b ≤ n) :
    Calls Try.prog slices_heapSortCmpFunc_int.id #[.slice p n c, .int .i64 a, .int .i64 b, .func (.func fid) #[] fv] w fun e w' => e = .returned (.tuple #[]) ∧ ∃ l', St w0 p c l0 w' l' ∧ Sw a b l l' ∧ SortedR cf l' a b := by
  refine slices_heapSortCmpFunc_int.calls ?_
  have hbd := X.bd
  have e1 : IntKind.i64.wrap ((b : Int) - a) = ((b - a : Nat) : Int) := wN (by omega) (by omega)
  have e2 : IntKind.i64.wrap (((b - a : Nat) : Int) - 1) = ((b - a : Nat) : Int) - 1 := wrap64_of (by omega) (by omega)
  have hba : a + (b - a) = b := by omega
  unfold slices_heapSortCmpFunc_int.w
  simp only [e1, e2]
  have e3 : IntKind.i64.wrap ((((b - a : Nat) : Int) - 1).tdiv 2) = (((b - a - 1) / 2 : Nat) : Int) := by
    refine wN ?_ (by omega)
    rcases Nat.eq_zero_or_pos (b - a) with e | e
    · rw [e]; rfl
    · rw [Int.tdiv_eq_ediv_of_nonneg (by omega)]; omega
  refine ⟨by decide, fun I w' k => ∃ (i : Nat) (l' : List Int), I = (i : Int) - 1 ∧ i ≤ (b - a - 1) / 2 + 1 ∧ i = k ∧ St w0 p c l0 w' l' ∧ Sw a b l l' ∧ HeapR cf l' a (b - a) i, ⟨_, (b - a - 1) / 2 + 1, l, ?_, Nat.le_refl _, rfl, s, .refl l, .zero (by omega)⟩, ?_⟩
  · rw [e3]; omega
  rintro I w1 k _ ⟨i, l1, rfl, h1, rfl, s1, k1, r1⟩
  have hn1 := X.len s1
  refine cnd_i (fun q => ?_) (fun q => ?_)
  · have q : 1 ≤ i := by simp at q; omega
    have e4 : (i : Int) - 1 = ((i - 1 : Nat) : Int) := by omega
    rw [e4]
    refine (siftDown_ok X s1 (i - 1) (b - a) a (by omega) (by omega) (by rwa [show i - 1 + 1 = i by omega])).mono ?_
    rintro e w2 ⟨rfl, l2, s2, k2, r2⟩
    rw [hba] at k2
    refine ⟨rfl, _, by omega, i - 1, l2, ?_, by omega, rfl, s2, k1.trans k2, r2⟩
    exact wrap64_of (by omega) (by omega)
  · have q : i = 0 := by simp at q; omega
    subst q
    refine ⟨fun I w' k => ∃ (i : Nat) (l' : List Int), I = (i : Int) - 1 ∧ i ≤ b - a ∧ i = k ∧ St w0 p c l0 w' l' ∧ Sw a b l l' ∧ HeapR cf l' a i 0 ∧ TailR cf l' a (b - a) i, ⟨_, b - a, l1, rfl, Nat.le_refl _, rfl, s1, k1, r1, fun x y _ _ h3 h4 => by omega⟩, ?_⟩
    rintro I w2 k _ ⟨i, l2, rfl, h2, rfl, s2, k2, r2, t2⟩
    have hn2 := X.len s2
    refine cnd_i (fun q => ?_) (fun q => ?_)
    · have q : 1 ≤ i := by simp at q; omega
      have e4 : (i : Int) - 1 = ((i - 1 : Nat) : Int) := by omega
      have e5 : IntKind.i64.wrap ((a : Int) + ((i - 1 : Nat) : Int)) = ((a + (i - 1) : Nat) : Int) := wN (by omega) (by omega)
      simp only [e4, e5]
      refine X.swap s2.drew _ _ rfl rfl (by omega) (by omega) fun w3 s3 _ => ?_
      obtain ⟨r3, t3⟩ := heap_pop (i := i - 1) X.o (by rwa [show i - 1 + 1 = i by omega]) (by rwa [show i - 1 + 1 = i by omega]) (by omega) (by omega) (l := l2) (f := a) (n := b - a)
      refine (siftDown_ok X s3 0 (i - 1) a (by omega) (by omega) r3).mono ?_
      rintro e w4 ⟨rfl, l4, s4, k4, r4⟩
      refine ⟨rfl, _, by omega, i - 1, l4, wrap64_of (by omega) (by omega), by omega, rfl, s4, ?_, r4, t3.sw k4⟩
      have k3 : Sw a b l (swp l2 a (a + (i - 1))) := .step k2 (by omega) (by omega) (by omega) (by omega) (by omega)
      exact k3.trans (k4.mono (Nat.le_refl _) (by omega) (by rw [swp_len]; omega)).1
    · have q : i = 0 := by simp at q; omega
      subst q
      have := t2.full
      rw [hba] at this
      exact ⟨trivial, l2, s2, k2, this⟩
end Go.Proofs.Ytlpmapeojecenaa.W
