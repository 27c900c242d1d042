/- slices.SortFunc over ints. -/
import Derived.Test.YtlpmapeojecenaaSort4
namespace Go.Proofs.Ytlpmapeojecenaa.W
open Go Go.Fw Go.RowKit Go.SoP Go.Luby
variable {w0 w : World} {p : Option Addr} {n c : Nat} {l0 l : List Int} {fid : FuncId} {fv : Array Value} {cf : Int → Int → Int}

theorem PreR.part {m : List Int} {a b a' b' : Nat} (h : PreR cf l a b) (s : Sw a' b' l m) (h1 : a ≤ a') (hab : a < b') (h2 : b' ≤ b) (e : a' = a) : PreR cf m a b' := by
  subst e
  have h' : PreR cf l a' b' := by
    rcases h with h | h
    · exact .inl h
    · exact .inr fun k k1 k2 => h k k1 (by omega)
  exact h'.sw s

/-- A half is sorted, and the other one is left. -/
theorem pdq_ok (X : Cx w0 p n l0 fid fv cf) : ∀ (d : Nat) {w : World} {l : List Int} (a b : Nat) (lim : Int), St w0 p c l0 w l → a ≤ b → b ≤ n → b - a < d → PreR cf l a b →
    Calls Try.prog slices_pdqsortCmpFunc_int.id #[.slice p n c, .int .i64 a, .int .i64 b, .int .i64 lim, .func (.func fid) #[] fv] w fun e w' => e = .returned (.tuple #[]) ∧ ∃ l', St w0 p c l0 w' l' ∧ Sw a b l l' ∧ SortedR cf l' a b := by
  intro d
  induction d with
  | zero => intro w l a b lim _ _ _ h; omega
  | succ d ih =>
  intro w l a b lim s hab hb hd hp
  refine slices_pdqsortCmpFunc_int.calls ?_
  have hbd := X.bd
  refine ⟨fun A B _ _ _ w' k => ∃ (a' b' : Nat) (l1 : List Int), A = a' ∧ B = b' ∧ a ≤ a' ∧ a' ≤ b' ∧ b' ≤ b ∧ k = b' - a' ∧ St w0 p c l0 w' l1 ∧ Sw a b l l1 ∧ DoneR cf l1 a b a' b' ∧ PreR cf l1 a' b', ⟨_, a, b, l, rfl, rfl, Nat.le_refl _, hab, Nat.le_refl _, rfl, s, .refl l, fun i j h1 h2 h3 h4 => absurd ⟨h1, h3⟩ h4, hp⟩, ?_⟩
  rintro A B lim1 wb wp w1 k _ ⟨a', b', l1, rfl, rfl, g1, g2, g3, rfl, s1, k1, d1, p1⟩
  have hn1 := X.len s1
  have sub : ∀ {u v : List Int}, Sw a b l u → Sw a' b' u v → Sw a b l v := fun h1 h2 => h1.trans (h2.mono g1 g3 (by have := h1.len; have := k1.len; omega)).1
  have e0 : IntKind.i64.wrap ((b' : Int) - a') = ((b' - a' : Nat) : Int) := wN (by omega) (by omega)
  simp only [e0]
  refine cnd_i (fun q => ?_) (fun q => ?_)
  · refine (insertion_ok X s1 a' b' (by omega) (by omega)).mono ?_
    rintro e w2 ⟨rfl, l2, s2, k2, r2⟩
    exact ⟨rfl, trivial, l2, s2, sub k1 k2, (d1.sw k2 g1 g3).full r2⟩
  have q : 12 < b' - a' := by simp at q; omega
  refine cnd_i (fun _ => ?_) (fun _ => ?_)
  · refine (heapSort_ok X s1 a' b' g2 (by omega)).mono ?_
    rintro e w2 ⟨rfl, l2, s2, k2, r2⟩
    exact ⟨rfl, trivial, l2, s2, sub k1 k2, (d1.sw k2 g1 g3).full r2⟩
  refine ⟨fun _ w' => ∃ l2 : List Int, St w0 p c l0 w' l2 ∧ Sw a' b' l1 l2, cnd_i (fun _ => ?_) (fun _ => ⟨l1, s1, .refl l1⟩), ?_⟩
  · refine (breakPatterns_ok X s1 a' b' (by omega) (by omega)).mono ?_
    rintro e w2 ⟨rfl, l2, s2, k2⟩
    exact ⟨rfl, l2, s2, k2⟩
  rintro lim2 w2 _ ⟨l2, s2, k2⟩
  refine (choosePivot_ok X s2 a' b' (by omega) (by omega)).mono ?_
  rintro e w3 ⟨pv, hint, rfl, v1, v2, s3⟩
  refine ⟨_, _, rfl, fun P _ w' => ∃ (pv : Nat) (l3 : List Int), P = pv ∧ a' ≤ pv ∧ pv < b' ∧ St w0 p c l0 w' l3 ∧ Sw a' b' l1 l3, cnd_i (fun _ => ?_) (fun _ => ⟨pv, l2, rfl, v1, v2, s3, k2⟩), ?_⟩
  · refine (reverseRange_ok X s3 a' b' (by omega) (by omega)).mono ?_
    rintro e w4 ⟨rfl, l4, s4, k4⟩
    refine ⟨rfl, b' - 1 - (pv - a'), l4, ?_, by omega, by omega, s4, k2.trans k4⟩
    have f1 : IntKind.i64.wrap ((b' : Int) - 1) = ((b' - 1 : Nat) : Int) := wN (by omega) (by omega)
    have f2 : IntKind.i64.wrap ((pv : Int) - a') = ((pv - a' : Nat) : Int) := wN (by omega) (by omega)
    rw [f1, f2]
    exact wN (by omega) (by omega)
  clear v1 v2 s3 k2 s2
  rintro P hint2 w4 _ ⟨pv, l3, rfl, v1, v2, s4, k3⟩
  refine ⟨fun w' => ∃ l4 : List Int, St w0 p c l0 w' l4 ∧ Sw a' b' l1 l4, cnd_i (fun _ => cnd_i (fun _ => cnd_i (fun _ => ?_) (fun _ => ⟨l3, s4, k3⟩)) (fun _ => ⟨l3, s4, k3⟩)) (fun _ => ⟨l3, s4, k3⟩), ?_⟩
  · refine (partialInsertion_ok X s4 a' b' (by omega) (by omega) (p1.sw k3)).mono ?_
    rintro e w5 ⟨y, l5, rfl, s5, k5, r5⟩
    have k35 := k3.trans k5
    exact ⟨y, rfl, cnd_i (fun hy => ⟨trivial, l5, s5, sub k1 k35, (d1.sw k35 g1 g3).full (r5 hy)⟩) (fun _ => ⟨l5, s5, k35⟩)⟩
  clear s4 k3
  rintro w5 _ ⟨l5, s5, k5⟩
  have d5 := d1.sw k5 g1 g3
  have p5 := p1.sw k5
  have k15 := sub k1 k5
  clear d1 p1 k1 k5 s1
  have hn5 := X.len s5
  -- what follows a partition
  have after : ∀ {w' : World} {l6 : List Int} {m : Nat} {y : Bool} {Q : Bool → Bool → Bool}, a' ≤ m → m < b' → St w0 p c l0 w' l6 → Sw a' b' l5 l6 →
      (∀ k, a' ≤ k → k < m → cf (l6.getD k 0) (l6.getD m 0) < 0) → (∀ k, m < k → k < b' → ¬ cf (l6.getD k 0) (l6.getD m 0) < 0) →
      (Calls Try.prog slices_pdqsortCmpFunc_int.id #[.slice p n c, .int .i64 a', .int .i64 m, .int .i64 lim2, .func (.func fid) #[] fv] w' fun e w7 => e = .returned (.tuple #[]) ∧
        ∃ k', k' < b' - a' ∧ ∃ (a2 b2 : Nat) (l1 : List Int), IntKind.i64.wrap ((m : Int) + 1) = a2 ∧ (b' : Int) = b2 ∧ a ≤ a2 ∧ a2 ≤ b2 ∧ b2 ≤ b ∧ k' = b2 - a2 ∧ St w0 p c l0 w7 l1 ∧ Sw a b l l1 ∧ DoneR cf l1 a b a2 b2 ∧ PreR cf l1 a2 b2) ∧
      (Calls Try.prog slices_pdqsortCmpFunc_int.id #[.slice p n c, .int .i64 (IntKind.i64.wrap ((m : Int) + 1)), .int .i64 b', .int .i64 lim2, .func (.func fid) #[] fv] w' fun e w7 => e = .returned (.tuple #[]) ∧
        ∃ k', k' < b' - a' ∧ ∃ (a2 b2 : Nat) (l1 : List Int), (a' : Int) = a2 ∧ (m : Int) = b2 ∧ a ≤ a2 ∧ a2 ≤ b2 ∧ b2 ≤ b ∧ k' = b2 - a2 ∧ St w0 p c l0 w7 l1 ∧ Sw a b l l1 ∧ DoneR cf l1 a b a2 b2 ∧ PreR cf l1 a2 b2) := by
    intro w' l6 m y Q h1 h2 s6 k6 lo hi
    have hn6 := X.len s6
    have d6 := d5.sw k6 g1 g3
    have p6 := p5.sw k6
    have em : IntKind.i64.wrap ((m : Int) + 1) = ((m + 1 : Nat) : Int) := wN (by omega) (by omega)
    constructor
    · refine (ih a' m lim2 s6 h1 (by omega) (by omega) ?_).mono ?_
      · rcases p6 with h | h
        · exact .inl h
        · exact .inr fun k x1 x2 => h k x1 (by omega)
      · rintro e w7 ⟨rfl, l7, s7, k7, r7⟩
        have hm7 : l7.getD m 0 = l6.getD m 0 := k7.out (.inr (Nat.le_refl _))
        have lo7 : ∀ k, a' ≤ k → k < m → cf (l7.getD k 0) (l7.getD m 0) < 0 := by rw [hm7]; exact k7.all (P := fun x => cf x (l6.getD m 0) < 0) lo
        have hi7 : ∀ k, m < k → k < b' → ¬ cf (l7.getD k 0) (l7.getD m 0) < 0 := fun k x1 x2 => by rw [hm7, k7.out (.inr (Nat.le_of_lt x1))]; exact hi k x1 x2
        have k67 := (k7.mono (a' := a') (b' := b') (Nat.le_refl _) (by omega) (by omega)).1
        refine ⟨rfl, _, ?_, m + 1, b', l7, em, rfl, by omega, by omega, g3, rfl, s7, sub k15 (k6.trans k67), ?_, .inr fun k x1 x2 => hi7 k (by omega) x2⟩
        · omega
        · exact done_left X.o (d6.sw k67 g1 g3) h1 h2 lo7 hi7 r7
    · rw [em]
      refine (ih (m + 1) b' lim2 s6 (by omega) (by omega) (by omega) (.inr fun k x1 x2 => hi k (by omega) x2)).mono ?_
      rintro e w7 ⟨rfl, l7, s7, k7, r7⟩
      have hm7 : l7.getD m 0 = l6.getD m 0 := k7.out (.inl (by omega))
      have lo7 : ∀ k, a' ≤ k → k < m → cf (l7.getD k 0) (l7.getD m 0) < 0 := fun k x1 x2 => by rw [hm7, k7.out (.inl (by omega))]; exact lo k x1 x2
      have hi7 : ∀ k, m < k → k < b' → ¬ cf (l7.getD k 0) (l7.getD m 0) < 0 := fun k x1 x2 => by rw [hm7]; exact k7.all (P := fun x => ¬ cf x (l6.getD m 0) < 0) (fun t t1 t2 => hi t (by omega) t2) k (by omega) x2
      have k67 := (k7.mono (a' := a') (b' := b') (by omega) (Nat.le_refl _) (by omega)).1
      refine ⟨rfl, _, ?_, a', m, l7, rfl, rfl, g1, h1, by omega, rfl, s7, sub k15 (k6.trans k67), ?_, ?_⟩
      · omega
      · exact done_right X.o (d6.sw k67 g1 g3) h1 h2 lo7 hi7 r7
      · rcases p6.sw k67 with h | h
        · exact .inl h
        · exact .inr fun k x1 x2 => h k x1 (by omega)
  refine cnd_i (fun q2 => ?_) (fun q2 => ?_)
  · have q2 : 0 < a' := by simpa using q2
    have e1 : IntKind.i64.wrap ((a' : Int) - 1) = ((a' - 1 : Nat) : Int) := wN (by omega) (by omega)
    rw [e1]
    refine X.cmp s5.drew (a' - 1) pv rfl rfl (by omega) (by omega) fun w6 s6 _ => ?_
    refine cnd_i (fun q3 => ?_) (fun q3 => ?_)
    · have q3 : ¬ cf (l5.getD (a' - 1) 0) (l5.getD pv 0) < 0 := by simpa using q3
      refine (partitionEqual_ok X s6 a' b' pv v1 v2 (by omega)).mono ?_
      rintro e w7 ⟨m, l7, rfl, h1, h2, s7, k7, ea, lo, hi⟩
      have least : ∀ k, a' ≤ k → k < b' → Le cf (l7.getD a' 0) (l7.getD k 0) := by
        rw [ea]
        refine k7.all (P := fun x => Le cf (l5.getD pv 0) x) fun k x1 x2 => X.o.trans q3 ?_
        rcases p5 with h | h
        · omega
        · exact h k x1 x2
      refine ⟨_, rfl, _, ?_, m, b', l7, rfl, rfl, by omega, h2, g3, rfl, s7, sub k15 k7, ?_, ?_⟩
      · omega
      · exact done_equal X.o (d5.sw k7 g1 g3) g1 h1 h2 lo hi least
      · refine .inr fun k x1 x2 => ?_
        by_cases e : m - 1 = a'
        · rw [e]; exact X.o.lt (hi k x1 x2)
        · exact X.o.trans (lo (m - 1) (by omega) (by omega)) (least k (by omega) x2)
    · refine (partition_ok X s6 a' b' pv v1 v2 (by omega)).mono ?_
      rintro e w7 ⟨m, y, l7, rfl, h1, h2, s7, k7, lo, hi⟩
      obtain ⟨A1, A2⟩ := after (y := y) (Q := fun _ _ => true) h1 h2 s7 k7 lo hi
      exact ⟨_, _, rfl, by decide, cnd_i (fun _ => A1) (fun _ => A2)⟩
  · refine (partition_ok X s5.drew a' b' pv v1 v2 (by omega)).mono ?_
    rintro e w7 ⟨m, y, l7, rfl, h1, h2, s7, k7, lo, hi⟩
    obtain ⟨A1, A2⟩ := after (y := y) (Q := fun _ _ => true) h1 h2 s7 k7 lo hi
    exact ⟨_, _, rfl, by decide, cnd_i (fun _ => A1) (fun _ => A2)⟩

/-- slices.SortFunc over ints. -/
theorem sort_ok (X : Cx w p n l fid fv cf) (h : OwI ty_int w p c l) :
    Calls Try.prog slices_SortFunc_int_int.id #[.slice p n c, .func (.func fid) #[] fv] w fun e w' => e = .returned (.tuple #[]) ∧ ∃ l', OwI ty_int w' p c l' ∧ Mod (Bk p) w w' ∧ l'.Perm l ∧ SortedR cf l' 0 l'.length := by
  refine slices_SortFunc_int_int.calls ?_
  have hbd := X.bd
  unfold slices_SortFunc_int_int.w
  rw [wrapU64_of (by omega) (by omega)]
  refine (len_spec n (by omega) w).mono ?_
  rintro e w1 ⟨rfl, h1⟩
  have s1 : St w p c l w1 l := ⟨h.keep (S := fun _ => False) h1.mod fun _ _ => id, h1.mod, .refl l⟩
  refine ⟨_, rfl, (pdq_ok X (n + 1) 0 n _ s1 (Nat.zero_le _) (Nat.le_refl _) (by omega) (.inl rfl)).mono ?_⟩
  rintro e w2 ⟨rfl, l2, s2, k2, r2⟩
  refine ⟨rfl, rfl, l2, s2.o, s2.m, s2.pm, ?_⟩
  rw [← X.len s2]; exact r2
end Go.Proofs.Ytlpmapeojecenaa.W
