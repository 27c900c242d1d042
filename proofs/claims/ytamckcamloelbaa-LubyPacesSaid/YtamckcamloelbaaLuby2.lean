/- Layer 10: paces and powers. -/
import Derived.Test.YtamckcamloelbaaLuby
import Derived.Test.YtamckcamloelbaaFwMem
namespace Go.Proofs.Ytamckcamloelbaa.W
open Go Go.Fw Go.RowKit Go.Luby

/-- May a pace be? -/
def May (u a l : Int) : Prop := 1 ≤ u ∧ u ≤ 1048576 ∧ 1 ≤ a ∧ a ≤ 1073741824 ∧ 1 ≤ l ∧ l ≤ u * (lub a.toNat : Int)
instance (u a l : Int) : Decidable (May u a l) := by unfold May; infer_instance

theorem mul_bd {u : Int} {m : Nat} (h1 : 1 ≤ u) (h2 : u ≤ 1048576) (h3 : 1 ≤ m) (h4 : m ≤ 1073741824) : IntKind.i64.wrap (u * (lub m : Int)) = u * (lub m : Int) ∧ 1 ≤ u * (lub m : Int) ∧ u * (lub m : Int) ≤ 1125899906842624 := by
  have g1 := lub_ge m
  have g2 := lub_le m h3
  obtain ⟨v, rfl⟩ : ∃ v : Nat, u = v := ⟨u.toNat, by omega⟩
  have b1 : v * lub m ≤ 1048576 * 1073741824 := Nat.mul_le_mul (by omega) (by omega)
  have b2 : 1 * 1 ≤ v * lub m := Nat.mul_le_mul (by omega) g1
  rw [← Int.natCast_mul]
  refine ⟨wrap64_of (by omega) (by omega), by omega, by omega⟩

theorem check_spec (u a l : Int) (w : World) : Calls Try.prog luby_Check.id #[.agg #[.int .i64 u, .int .i64 a, .int .i64 l]] w fun e w' => e = .returned (.int .i64 (if May u a l then 0 else 1)) ∧ Grow w w' := by
  refine luby_Check.calls ?_
  unfold luby_Check.w
  simp only [and_self]
  intro n w2 hn
  have H : Has w2.drew n _ := hn.has
  have G : Grow w w2.drew := hn.mod.drew
  have bad : ¬ May u a l → (Ending.returned (.int .i64 1) = .returned (.int .i64 (if May u a l then 0 else 1)) ∧ Grow w w2.drew) := fun h => ⟨by rw [if_neg h], G⟩
  refine ⟨_, cell_add H rfl, cnd_i (fun h1 => bad ?_) (fun h1 => ⟨_, cell_add H rfl, cnd_i (fun h2 => bad ?_) (fun h2 => ⟨_, cell_add H rfl, cnd_i (fun h3 => bad ?_) (fun h3 => ⟨_, cell_add H rfl, cnd_i (fun h4 => bad ?_) (fun h4 => ⟨_, cell_add H rfl, cnd_i (fun h5 => bad ?_) (fun h5 => ⟨_, cell_add H rfl, ?_⟩)⟩)⟩)⟩)⟩)⟩ <;>
    simp only [decide_eq_true_eq, decide_eq_false_iff_not] at * <;> try (unfold May; omega)
  obtain ⟨m, rfl⟩ : ∃ m : Nat, a = m := ⟨a.toNat, by omega⟩
  obtain ⟨b1, b2, b3⟩ := mul_bd (u := u) (m := m) (by omega) (by omega) (by omega) (by omega)
  have num := number_spec m (by omega) (by omega) w2.drew
  have fin : ∀ w', Same w2.drew w' → cnd (decide (l > IntKind.i64.wrap (u * (lub m : Int)))) (Ending.returned (.int .i64 1) = .returned (.int .i64 (if May u m l then 0 else 1)) ∧ Grow w w') (Ending.returned (.int .i64 0) = .returned (.int .i64 (if May u m l then 0 else 1)) ∧ Grow w w') := by
    intro w' hw
    rw [b1]
    refine cnd_i (fun h6 => ⟨?_, G.trans hw.mod⟩) (fun h6 => ⟨?_, G.trans hw.mod⟩) <;> simp only [decide_eq_true_eq, decide_eq_false_iff_not] at h6
    · rw [if_neg]; unfold May; simp only [Int.toNat_natCast]; omega
    · rw [if_pos]; unfold May; simp only [Int.toNat_natCast]; omega
  refine ⟨⟨_, cell_add H rfl, ⟨_, cell_add H rfl, ?_⟩, ?_⟩, ⟨_, cell_add H rfl, ⟨_, cell_add H rfl, ?_⟩, ?_⟩, ?_⟩ <;> refine num.mono ?_ <;> rintro e w' ⟨rfl, hw⟩ <;> have H' := H.keep (S := fun _ => False) hw.mod id <;> refine ⟨_, rfl, ?_⟩
  · exact fin w' hw
  · exact ⟨_, cell_add H' rfl, fin w' hw⟩
  · exact fin w' hw
  · exact ⟨_, cell_add H' rfl, fin w' hw⟩
  · exact ⟨_, cell_add H' rfl, _, cell_add H' rfl, fin w' hw⟩

theorem may_spec (u a l : Int) (w : World) : Calls Try.prog fathomref10_May.id #[.agg #[.int .i64 u, .int .i64 a, .int .i64 l]] w fun e w' => e = .returned (.bool (decide (May u a l))) ∧ Grow w w' := by
  refine fathomref10_May.calls ?_
  unfold fathomref10_May.w
  simp only [and_self]
  intro n w2 hn
  have H : Has w2.drew n _ := hn.has
  have G : Grow w w2.drew := hn.mod.drew
  have bad : ¬ May u a l → (Ending.returned (.bool false) = .returned (.bool (decide (May u a l))) ∧ Grow w w2.drew) := fun h => ⟨by rw [decide_eq_false h], G⟩
  refine ⟨_, cell_add H rfl, cnd_i (fun h1 => ⟨_, cell_add H rfl, cnd_i (fun h2 => ⟨_, cell_add H rfl, cnd_i (fun h3 => ⟨_, cell_add H rfl, cnd_i (fun h4 => ⟨_, cell_add H rfl, cnd_i (fun h5 => ⟨_, cell_add H rfl, ?_⟩) (fun h5 => bad ?_)⟩) (fun h4 => bad ?_)⟩) (fun h3 => bad ?_)⟩) (fun h2 => bad ?_)⟩) (fun h1 => bad ?_)⟩ <;>
    simp only [decide_eq_true_eq, decide_eq_false_iff_not, ge_iff_le] at * <;> try (unfold May; omega)
  obtain ⟨m, rfl⟩ : ∃ m : Nat, a = m := ⟨a.toNat, by omega⟩
  obtain ⟨b1, b2, b3⟩ := mul_bd (u := u) (m := m) (by omega) (by omega) (by omega) (by omega)
  have num := refNumber m (by omega) (by omega) w2.drew
  have fin : ∀ w', Same w2.drew w' → (Ending.returned (.bool (decide (l ≤ IntKind.i64.wrap (u * (lub m : Int))))) = .returned (.bool (decide (May u m l))) ∧ Grow w w') := by
    intro w' hw
    rw [b1]
    refine ⟨?_, G.trans hw.mod⟩
    congr 2
    apply decide_eq_decide.2
    unfold May; simp only [Int.toNat_natCast]; omega
  refine ⟨⟨_, cell_add H rfl, ⟨_, cell_add H rfl, ?_⟩, ?_⟩, ⟨_, cell_add H rfl, ⟨_, cell_add H rfl, ?_⟩, ?_⟩, ?_⟩ <;> refine num.mono ?_ <;> rintro e w' ⟨rfl, hw⟩ <;> have H' := H.keep (S := fun _ => False) hw.mod id <;> refine ⟨_, rfl, ?_⟩
  · exact fin w' hw
  · exact ⟨_, cell_add H' rfl, fin w' hw⟩
  · exact fin w' hw
  · exact ⟨_, cell_add H' rfl, fin w' hw⟩
  · exact ⟨_, cell_add H' rfl, _, cell_add H' rfl, fin w' hw⟩

theorem until_spec (u a l : Int) (w : World) : Calls Try.prog luby_Until.id #[.agg #[.int .i64 u, .int .i64 a, .int .i64 l]] w fun e w' => e = .returned (.int .i64 (if May u a l then l else 0)) ∧ Grow w w' := by
  refine luby_Until.calls ?_
  intro n w2 hn
  refine ⟨_, _, _, cells3 hn.has, (check_spec u a l w2).mono ?_⟩
  rintro e w' ⟨rfl, hw⟩
  refine ⟨_, rfl, cnd_i (fun h => ⟨?_, hn.mod.trans hw⟩) (fun h => ⟨_, cell_add (hn.has.grow hw) rfl, ?_, hn.mod.trans hw⟩)⟩
  · split at h <;> simp at h; rw [if_neg (by assumption)]
  · split at h <;> simp at h; rw [if_pos (by assumption)]

/-- A pace behind a conflict. -/
def tickU (u a l : Int) : Int := if May u a l then u else 0
def tickA (u a l : Int) : Int := if May u a l then (if 1 < l then a else if a = 1073741824 then 1 else a + 1) else 0
def tickL (u a l : Int) : Int := if May u a l then (if 1 < l then l - 1 else u * (lub (tickA u a l).toNat : Int)) else 0
def again (u a l : Int) : Bool := decide (May u a l) && decide (l = 1)

theorem tick_spec (u a l : Int) (w : World) : Calls Try.prog luby_Tick.id #[.agg #[.int .i64 u, .int .i64 a, .int .i64 l]] w fun e w' =>
    e = .returned (.tuple #[.agg #[.int .i64 (tickU u a l), .int .i64 (tickA u a l), .int .i64 (tickL u a l)], .bool (again u a l)]) ∧ Grow w w' := by
  refine luby_Tick.calls ?_
  intro n w2 hn m w4 hm
  have hnm : n ≠ m := hm.ne hn.has
  have G : Grow w w4 := hn.mod.trans hm.mod
  have hn0 : w.heap.size ≤ n := by rw [hn.num]; exact Nat.le_refl _
  have hm0 : w.heap.size ≤ m := by rw [hm.num]; exact hn.mod.size
  refine ⟨_, _, _, cells3 (hn.has.old hm), (check_spec u a l w4).mono ?_⟩
  rintro e w8 ⟨rfl, hw⟩
  have Hn := (hn.has.old hm).grow hw
  have Hm := hm.has.grow hw
  have G := G.trans hw
  refine ⟨_, rfl, ?_⟩
  by_cases hmay : May u a l
  · rw [if_pos hmay]
    refine cnd_f rfl ⟨_, cell_add Hn rfl, ?_⟩
    obtain ⟨h1, h2, h3, h4, h5, h6⟩ := id hmay
    obtain ⟨q, rfl⟩ : ∃ q : Nat, a = q := ⟨a.toNat, by omega⟩
    simp only [Int.toNat_natCast] at h6
    obtain ⟨b1, b2, b3⟩ := mul_bd (u := u) (m := q) (by omega) (by omega) (by omega) (by omega)
    rw [wrap64_of (x := l - 1) (by omega) (by omega)]
    refine store_f Hn rfl rfl fun w15 Hn' Mn => ?_
    have Hm' := Hm.put Mn (Ne.symm hnm)
    have G' := G.fresh Mn hn0
    refine ⟨_, cell_add Hn' rfl, cnd_i (fun h => ?_) (fun h => ?_)⟩ <;> simp only [decide_eq_true_eq, decide_eq_false_iff_not] at h
    · refine ⟨_, _, _, cells3 Hn', store_i Hm' rfl rfl fun w20 Hm2 Mm => ⟨_, _, _, cells3 Hm2, ?_, G'.fresh Mm hm0⟩⟩
      simp only [tickU, tickA, tickL, again, if_pos hmay, if_pos (show 1 < l by omega), decide_eq_false (show ¬ l = 1 by omega), Bool.and_false]
    · have hl : l = 1 := by omega
      subst hl
      refine ⟨_, cell_add Hn' rfl, by decide, ?_⟩
      have e1 : IntKind.i64.wrap ((q : Int).tmod 1073741824 + 1) = (tickA u q 1) := by
        simp only [tickA, if_pos hmay]
        rw [if_neg (by omega)]
        have : (q : Int).tmod 1073741824 = ((q % 1073741824 : Nat) : Int) := by
          rw [Int.tmod_eq_emod_of_nonneg (by omega)]; omega
        rw [this, wrap64_of (by omega) (by omega)]
        split <;> omega
      rw [e1]
      obtain ⟨q', hq', g1, g2⟩ : ∃ q' : Nat, tickA u q 1 = q' ∧ 1 ≤ q' ∧ q' ≤ 1073741824 := by
        simp only [tickA, if_pos hmay]
        rw [if_neg (by omega)]
        split
        · exact ⟨1, rfl, by omega, by omega⟩
        · exact ⟨q + 1, by omega, by omega, by omega⟩
      have hr : (Value.tuple #[.agg #[.int .i64 u, .int .i64 q', .int .i64 (u * (lub q' : Int))], .bool true]) = .tuple #[.agg #[.int .i64 (tickU u q 1), .int .i64 q', .int .i64 (tickL u q 1)], .bool (again u q 1)] := by
        simp only [tickU, tickL, again, if_pos hmay, hq', if_neg (show ¬ (1 : Int) < 1 by omega), decide_eq_true hmay, Int.toNat_natCast]
        rfl
      rw [hq']
      obtain ⟨c1, c2, c3⟩ := mul_bd (u := u) (m := q') (by omega) (by omega) (by omega) (by omega)
      refine store_f Hn' rfl rfl fun w25 Hn2 Mn2 => ?_
      have Hm2 := (Hm'.put Mn2 (Ne.symm hnm)).drew
      have Hn2 : Has w25.drew n _ := Hn2
      have G2 := (G'.fresh Mn2 hn0).drew
      have num := number_spec q' (by omega) (by omega) w25.drew
      refine ⟨_, cell_add Hn2 rfl, ⟨_, cell_add Hn2 rfl, ?_⟩, ?_⟩ <;> refine num.mono ?_ <;> rintro e w' ⟨rfl, hw2⟩ <;> have Hn3 := Hn2.keep (S := fun _ => False) hw2.mod id <;> have Hm3 := Hm2.keep (S := fun _ => False) hw2.mod id <;> have G3 := G2.trans hw2.mod
      · refine ⟨_, rfl, ?_⟩
        rw [c1]
        refine store_f Hn3 rfl rfl fun w30 Hn4 Mn4 => ⟨_, _, _, cells3 Hn4, store_i (Hm3.put Mn4 (Ne.symm hnm)) rfl rfl fun w34 Hm5 Mm5 => ⟨_, _, _, cells3 Hm5, ?_, (G3.fresh Mn4 hn0).fresh Mm5 hm0⟩⟩
        rw [← hr]
      · refine ⟨_, rfl, _, cell_add Hn3 rfl, ?_⟩
        rw [c1]
        refine store_f Hn3 rfl rfl fun w30 Hn4 Mn4 => ⟨_, _, _, cells3 Hn4, store_i (Hm3.put Mn4 (Ne.symm hnm)) rfl rfl fun w34 Hm5 Mm5 => ⟨_, _, _, cells3 Hm5, ?_, (G3.fresh Mn4 hn0).fresh Mm5 hm0⟩⟩
        rw [← hr]
  · rw [if_neg hmay]
    refine cnd_t rfl ?_
    refine store_i Hm rfl rfl fun w10 Hm' Mm => ⟨_, _, _, cells3 Hm', ?_, G.fresh Mm hm0⟩
    simp only [tickU, tickA, tickL, again, if_neg hmay, decide_eq_false hmay, Bool.false_and]

end Go.Proofs.Ytamckcamloelbaa.W
