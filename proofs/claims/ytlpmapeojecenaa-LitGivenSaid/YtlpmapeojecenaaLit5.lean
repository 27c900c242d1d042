/- Layer 1: the statement LitHolds. -/
import Derived.Test.YtlpmapeojecenaaLit4
namespace Go.Proofs.Ytlpmapeojecenaa.W
open Go Go.Fw Go.RowKit Go.SoP Go.LiP
variable {w : World} {p q : Option Addr} {n c : Nat} {l : List Int}

theorem row_ix {hs : List Sl} {cs : List (List Int)} (hc : V2 (Value.int .i64) w q hs cs) {m t : Nat} (hm : m = cs.length) (ht : t < cs.length) {K : Addr → Prop}
    (hk : ∀ a (s : Sl), w.cell? a = some (.slice s.p s.n s.c) → s.n = (cs.getD t []).length → s.n ≤ maxLen → Vw (Value.int .i64) w s.p (cs.getD t []) → s = hs.getD t Sl.nil → K a) : ixK q m (t : Int) 1 K :=
  rowIx hc hm ht fun a s e hs h1 h2 h3 => hk a s e h1 h2 h3 hs

theorem light_ok {k : Int} {hs : List Sl} {cs : List (List Int)} {m d : Nat} (hc : V2 (Value.int .i64) w q hs cs) (hm : m = cs.length) : Calls Try.prog fathomlaw01_Light.id #[.agg #[.int .i64 k, .slice q m d]] w fun e w' => ∃ b : Bool, e = .returned (.bool b) ∧ Grow w w' := by
  refine fathomlaw01_Light.calls ?_
  intro n1 w1 h1
  have g1 := h1.mod
  refine ⟨fun _ I w' k => ∃ t : Nat, I = t ∧ t ≤ 301 ∧ k = 301 - t ∧ Grow w1 w', ⟨_, 0, rfl, Nat.zero_le _, rfl, Mod.refl w1⟩, ?_⟩
  rintro N I w2 k2 _ ⟨t, rfl, ht, rfl, g2⟩
  have H2 := h1.has.grow g2
  have G2 := g1.trans g2
  refine ⟨_, _, _, cell_add H2 rfl, cnd_i (fun s => cnd_i (fun s2 => ?_) (fun _ => ?_)) (fun _ => ?_)⟩
  · have s : t < cs.length := by simp at s; omega
    have s2 : t ≤ 300 := by simp at s2; omega
    refine ⟨_, _, _, cell_add H2 rfl, row_ix (hc.grow G2) hm s fun a x e e1 e2 v _ => ⟨_, _, _, e, cnd_i (fun _ => ⟨false, rfl, G2⟩) (fun _ => ?_)⟩⟩
    refine ⟨_, _, _, cell_add H2 rfl, row_ix (hc.grow G2) hm s fun a x e e1 e2 v _ => ⟨_, _, _, e, _, ?_, t + 1, wN (by omega) (by omega), by omega, rfl, g2⟩⟩
    omega
  · exact ⟨_, _, _, cell_add H2 rfl, cnd_i (fun _ => ⟨_, rfl, G2⟩) (fun _ => ⟨_, rfl, G2⟩)⟩
  · exact ⟨_, _, _, cell_add H2 rfl, cnd_i (fun _ => ⟨_, rfl, G2⟩) (fun _ => ⟨_, rfl, G2⟩)⟩

theorem take_eq_succ {α : Type} {a b : List α} {t : Nat} {d : α} (ha : t < a.length) (hb : t < b.length) (h : a.take t = b.take t) (e : a.getD t d = b.getD t d) : a.take (t + 1) = b.take (t + 1) := by
  have e1 : a[t]? = some (a.getD t d) := by simp [List.getD, ha]
  have e2 : b[t]? = some (b.getD t d) := by simp [List.getD, hb]
  rw [List.take_add_one, List.take_add_one, h, e1, e2, e]

theorem equal_ok {v : List Int} {m d : Nat} (h : Vw (Value.int .i64) w p l) (hn : n = l.length) (hm : n ≤ maxLen) (h2 : Vw (Value.int .i64) w q v) (hn2 : m = v.length) : Calls Try.prog slices_Equal_int_int.id #[.slice p n c, .slice q m d] w fun e w' => e = .returned (.bool (decide (l = v))) ∧ Grow w w' := by
  refine slices_Equal_int_int.calls ?_
  unfold maxLen at hm
  refine cnd_i (fun s => ⟨?_, Mod.refl w⟩) (fun s => ?_)
  · have s : (n : Int) ≠ m := by simpa using s
    rw [decide_eq_false]
    rintro rfl
    omega
  · have s : (n : Int) = m := by simpa using s
    refine ⟨fun I w' k => ∃ t : Nat, I = t ∧ t ≤ n ∧ k = n - t ∧ l.take t = v.take t ∧ Grow w w', ⟨_, 0, rfl, Nat.zero_le _, rfl, rfl, Mod.refl w⟩, ?_⟩
    rintro I w2 k2 _ ⟨t, rfl, ht, rfl, ha, G⟩
    refine cnd_i (fun r => ?_) (fun r => ⟨?_, G⟩)
    · have r : t < n := by simpa using r
      refine (h.grow G).drew.ix 0 (by omega) hn (by omega) fun a e => ⟨_, e, (h2.grow G).drew.ix 0 (by omega) hn2 (by omega) fun a e => ⟨_, e, ?_⟩⟩
      rw [Int.toNat_natCast]
      refine cnd_i (fun r2 => ⟨?_, G.drew⟩) (fun r2 => ⟨_, ?_, t + 1, wN (by omega) (by omega), by omega, rfl, take_eq_succ (d := 0) (by omega) (by omega) ha (by simpa using r2), G.drew⟩)
      · have r2 : l.getD t 0 ≠ v.getD t 0 := by simpa using r2
        rw [decide_eq_false]
        rintro rfl
        exact r2 rfl
      · omega
    · have r : t = n := by simp at r; omega
      subst r
      have e1 : l.take t = l := List.take_of_length_le (by omega)
      have e2 : v.take t = v := List.take_of_length_le (by omega)
      rw [e1, e2] at ha
      rw [decide_eq_true ha]

theorem same1_ok {v : List Int} {m d : Nat} (h : Vw (Value.int .i64) w p l) (hn : n = l.length) (hm : n ≤ maxLen) (h2 : Vw (Value.int .i64) w q v) (hn2 : m = v.length) : Calls Try.prog lit_Same_1.id #[.slice p n c, .slice q m d] w fun e w' => e = .returned (.bool (decide (l = v))) ∧ Grow w w' := by
  refine lit_Same_1.calls ?_
  refine (equal_ok h hn hm h2 hn2).mono ?_
  rintro e w1 ⟨rfl, g1⟩
  exact ⟨_, rfl, rfl, g1⟩
theorem same1_ent : entB Try.prog lit_Same_1.id = true := by kernel_rfl

theorem litSame_ok {j k : Int} {m d : Nat} {hs ks : List Sl} {xs ys : List (List Int)} (ha : V2 (Value.int .i64) w p hs xs) (hb : V2 (Value.int .i64) w q ks ys) (hn : n = xs.length) (hm : m = ys.length) (hx : n ≤ maxLen) :
    Calls Try.prog lit_Same.id #[.agg #[.int .i64 j, .slice p n c], .agg #[.int .i64 k, .slice q m d]] w fun e w' => e = .returned (.bool (decide (j = k ∧ xs = ys))) ∧ Grow w w' := by
  refine lit_Same.calls ?_
  intro n1 w2 h2 n3 w4 h4
  unfold maxLen at hx
  have H1 := h2.has.old h4
  have H3 := h4.has
  have G := h2.mod.trans h4.mod
  refine ⟨_, cell_add H1 rfl, _, cell_add H3 rfl, cnd_i (fun s => ⟨_, _, _, cell_add H1 rfl, _, _, _, cell_add H3 rfl, ?_⟩) (fun s => ⟨?_, G⟩)⟩
  · have s : j = k := by simpa using s
    refine slices_EqualFunc_int_int_int_int.calls ?_
    refine cnd_i (fun s2 => ⟨_, rfl, ?_, G⟩) (fun s2 => ?_)
    · have s2 : (n : Int) ≠ m := by simpa using s2
      rw [decide_eq_false]
      rintro ⟨_, rfl⟩
      omega
    · have s2 : (n : Int) = m := by simpa using s2
      refine ⟨fun I w' k => ∃ t : Nat, I = t ∧ t ≤ n ∧ k = n - t ∧ xs.take t = ys.take t ∧ Grow w w', ⟨_, 0, rfl, Nat.zero_le _, rfl, rfl, G⟩, ?_⟩
      rintro I w5 k2 _ ⟨t, rfl, ht, rfl, he, G5⟩
      refine cnd_i (fun r => ?_) (fun r => ⟨_, rfl, ?_, G5⟩)
      · have r : t < n := by simpa using r
        refine row_ix (ha.grow G5) hn (by omega) fun a x e e1 e2 v _ => ⟨_, _, _, e, row_ix (hb.grow G5) hm (by omega) fun a' y e' f1 f2 v' _ => ⟨_, _, _, e', ?_⟩⟩
        rw [same1_ent]
        show Calls _ _ _ _ _
        have ea : (#[] ++ #[Value.slice x.p x.n x.c, .slice y.p y.n y.c] ++ #[] : Array Value) = #[.slice x.p x.n x.c, .slice y.p y.n y.c] := by simp
        rw [ea]
        refine (same1_ok v e1 e2 v' f1).mono ?_
        rintro e w6 ⟨rfl, g6⟩
        refine ⟨_, rfl, cnd_i (fun r2 => ⟨_, rfl, ?_, G5.trans g6⟩) (fun r2 => ⟨_, ?_, t + 1, wN (by omega) (by omega), by omega, rfl, take_eq_succ (d := []) (by omega) (by omega) he (by simpa using r2), G5.trans g6⟩)⟩
        · have r2 : xs.getD t [] ≠ ys.getD t [] := by simpa using r2
          rw [decide_eq_false]
          rintro ⟨_, rfl⟩
          exact r2 rfl
        · omega
      · have r : t = n := by simp at r; omega
        subst r
        have e1 : xs.take t = xs := List.take_of_length_le (by omega)
        have e2 : ys.take t = ys := List.take_of_length_le (by omega)
        rw [e1, e2] at he
        rw [decide_eq_true ⟨s, he⟩]
  · have s : j ≠ k := by simpa using s
    rw [decide_eq_false fun h => s h.1]

theorem refCnf_ok {k : Int} {hs : List Sl} {cs : List (List Int)} {m d : Nat} (hc : V2 (Value.int .i64) w q hs cs) (hm : m = cs.length) : Calls Try.prog fathomref01_Cnf.id #[.agg #[.int .i64 k, .slice q m d]] w fun e w' => e = .returned (.bool (cnfB k cs)) ∧ Grow w w' := by
  refine fathomref01_Cnf.calls ?_
  intro n1 w1 h1
  have g1 := h1.mod
  have bad : ∀ w', Grow w w' → cnfB k cs = false → (Ending.returned (.bool false) = .returned (.bool (cnfB k cs)) ∧ Grow w w') := fun w' g hf => by rw [hf]; exact ⟨rfl, g⟩
  have no : ¬ (0 ≤ k ∧ k ≤ 1048576 ∧ cs.length ≤ 262144) → cnfB k cs = false := fun h => by unfold cnfB; rw [decide_eq_false h, Bool.false_and]
  refine ⟨_, cell_add h1.has rfl, cnd_i (fun s => bad _ g1 (no (by simp at s; omega))) (fun s1 => ⟨_, cell_add h1.has rfl, cnd_i (fun s => bad _ g1 (no (by simp at s; omega))) (fun s2 => ⟨_, _, _, cell_add h1.has rfl, cnd_i (fun s => bad _ g1 (no (by simp at s; omega))) (fun s3 => ?_)⟩)⟩)⟩
  simp only [decide_eq_false_iff_not] at s1 s2 s3
  have yes : cnfB k cs = cs.all fun c => clB c && c.all fun l => decide (amt l ≤ k) := by unfold cnfB; rw [decide_eq_true (by omega), Bool.true_and]
  refine ⟨fun I w' k2 => ∃ t : Nat, I = t ∧ t ≤ cs.length ∧ k2 = cs.length - t ∧ ((cs.take t).all fun c => clB c && c.all fun l => decide (amt l ≤ k)) = true ∧ Grow w1 w', ⟨_, 0, rfl, Nat.zero_le _, rfl, rfl, Mod.refl w1⟩, ?_⟩
  rintro I w2 k2 _ ⟨t, rfl, ht, rfl, ha, g2⟩
  have H2 := h1.has.grow g2
  have G2 := g1.trans g2
  refine ⟨_, _, _, cell_add H2 rfl, cnd_i (fun s => ?_) (fun s => ⟨?_, G2⟩)⟩
  · have s : t < cs.length := by simp at s; omega
    refine ⟨_, _, _, cell_add H2 rfl, row_ix (hc.grow G2) hm s fun a x e e1 e2 v ex => ⟨_, _, _, e, (refMay_ok v e1 e2).mono ?_⟩⟩
    rintro e w3 ⟨rfl, g3⟩
    have G3 := G2.trans g3
    refine ⟨_, rfl, cnd_i (fun r => bad _ G3 (by rw [yes]; exact allFalse (d := []) s (by rw [show clB (cs.getD t []) = false by simpa using r]; rfl))) (fun r => ?_)⟩
    have r : clB (cs.getD t []) = true := by simpa using r
    have hlen := (clB_all r).2
    refine ⟨fun J w' k3 => ∃ j : Nat, J = j ∧ j ≤ (cs.getD t []).length ∧ k3 = (cs.getD t []).length - j ∧ (((cs.getD t []).take j).all fun l => decide (amt l ≤ k)) = true ∧ Grow w3 w', ⟨_, 0, rfl, Nat.zero_le _, rfl, rfl, Mod.refl w3⟩, ?_⟩
    rintro J w4 k3 _ ⟨j, rfl, hj, rfl, hb, g4⟩
    have H4 := (H2.grow g3).grow g4
    have G4 := G3.trans g4
    refine ⟨_, _, _, cell_add H4 rfl, row_ix (hc.grow G4) hm s fun a x e e1 e2 v ex => ⟨_, _, _, e, cnd_i (fun r2 => ?_) (fun r2 => ?_)⟩⟩
    · have r2 : j < (cs.getD t []).length := by simp at r2; omega
      refine ⟨_, _, _, cell_add H4.drew rfl, row_ix (hc.grow G4).drew hm s fun a x e e1 e2 v ex => ⟨_, _, _, e, v.ix 0 (by omega) e1 (by omega) fun a e => ⟨_, e, ?_⟩⟩⟩
      rw [Int.toNat_natCast]
      have hb' := litB_bd (clB_lit r _ (mem_getD r2))
      have fin : ∀ w5, Grow w4.drew w5 → cnd (decide (amt ((cs.getD t []).getD j 0) > k)) (Ending.returned (.bool false) = .returned (.bool (cnfB k cs)) ∧ Grow w w5)
          (∃ k19, k19 < (cs.getD t []).length - j ∧ ∃ j2 : Nat, IntKind.i64.wrap ((j : Int) + 1) = j2 ∧ j2 ≤ (cs.getD t []).length ∧ k19 = (cs.getD t []).length - j2 ∧ (((cs.getD t []).take j2).all fun l => decide (amt l ≤ k)) = true ∧ Grow w3 w5) := by
        intro w5 g5
        refine cnd_i (fun r3 => bad _ (G4.drew.trans g5) ?_) (fun r3 => ⟨_, ?_, j + 1, wN (by omega) (by omega), by omega, rfl, allTakeS (d := 0) r2 hb (by simp at r3 ⊢; omega), g4.drew.trans g5⟩)
        · rw [yes]
          refine allFalse (d := []) s ?_
          rw [allFalse (d := 0) r2 (by simp at r3 ⊢; omega), Bool.and_false]
        · omega
      refine ⟨(refVar_ok (by omega) _ (by omega)).mono ?_, ⟨_, cell_add H4.drew rfl, (refVar_ok (by omega) _ (by omega)).mono ?_⟩⟩
      · rintro e w5 ⟨rfl, g5⟩
        exact ⟨_, rfl, _, cell_add (H4.drew.grow g5) rfl, fin w5 g5⟩
      · rintro e w5 ⟨rfl, g5⟩
        exact ⟨_, rfl, fin w5 g5⟩
    · have r2 : j = (cs.getD t []).length := by simp at r2; omega
      subst r2
      rw [List.take_length] at hb
      refine ⟨_, ?_, t + 1, wN (by omega) (by omega), by omega, rfl, allTakeS (d := []) s ha (by rw [r, hb]; rfl), (g2.trans g3).trans g4⟩
      omega
  · have s : t = cs.length := by simp at s; omega
    subst s
    rw [List.take_length] at ha
    rw [yes, ha]

theorem litHolds_ok {k : Int} {hs : List Sl} {cs : List (List Int)} {m : List Int} {j d : Nat} (hc : V2 (Value.int .i64) w q hs cs) (hj : j = cs.length) (h : Vw (Value.int .i64) w p m) (hn : n = m.length) (hm : n ≤ maxLen) :
    Calls Try.prog lit_Holds.id #[.agg #[.int .i64 k, .slice q j d], .slice p n c] w fun e w' => e = .returned (.bool (cnfB k cs && holdsP m cs)) ∧ Grow w w' := by
  refine lit_Holds.calls ?_
  intro n1 w1 h1
  have g1 := h1.mod
  refine ⟨_, _, _, _, ⟨cell_add h1.has rfl, cell_add h1.has rfl, trivial⟩, (checkCnf_ok (hc.grow g1) hj).mono ?_⟩
  rintro e w2 ⟨rfl, g2⟩
  have G2 := g1.trans g2
  have H2 := h1.has.grow g2
  cases hcn : cnfB k cs with
  | false => exact ⟨_, rfl, cnd_t rfl ⟨rfl, G2⟩⟩
  | true =>
  have hcl : cs.length ≤ 262144 := by
    unfold cnfB at hcn
    simp only [Bool.and_eq_true, decide_eq_true_eq] at hcn
    omega
  refine ⟨_, rfl, cnd_f rfl ⟨_, _, _, cell_add H2 rfl, ?_⟩⟩
  refine ⟨fun I w' k2 => ∃ t : Nat, I = t ∧ t ≤ cs.length ∧ k2 = cs.length - t ∧ ((cs.take t).all fun c => c.any fun l => decide (valP m l = 1)) = true ∧ Grow w w', ⟨_, 0, rfl, Nat.zero_le _, rfl, rfl, G2⟩, ?_⟩
  rintro I w3 k3 _ ⟨t, rfl, ht, rfl, ha, G3⟩
  refine cnd_i (fun s => ?_) (fun s => ⟨?_, G3⟩)
  · have s : t < cs.length := by simp at s; omega
    refine row_ix (hc.grow G3) hj s fun a x e e1 e2 v ex => ⟨_, _, _, e, ?_⟩
    unfold maxLen at e2
    refine ⟨fun J w' k4 => ∃ i : Nat, J = i ∧ i ≤ (cs.getD t []).length ∧ k4 = (cs.getD t []).length - i ∧ (((cs.getD t []).take i).any fun l => decide (valP m l = 1)) = false ∧ Grow w3 w', ⟨_, 0, rfl, Nat.zero_le _, rfl, rfl, Mod.refl w3⟩, ?_⟩
    rintro J w4 k4 _ ⟨i, rfl, hi, rfl, hb, g4⟩
    have G4 := G3.trans g4
    refine cnd_i (fun r => ?_) (fun r => ⟨?_, G4⟩)
    · have r : i < (cs.getD t []).length := by simp at r; omega
      refine (v.grow g4).ix 0 (by omega) e1 (by omega) fun a e => ⟨_, e, ?_⟩
      rw [Int.toNat_natCast]
      refine (litValue_ok (h.grow G4) hn hm _).mono ?_
      rintro e w5 ⟨rfl, g5⟩
      refine ⟨_, rfl, ?_⟩
      have hv := valP_cases m ((cs.getD t []).getD i 0)
      refine cnd_i (fun r2 => ?_) (fun r2 => ?_)
      · have r2 : valP m ((cs.getD t []).getD i 0) = 1 := by
          have := of_decide_eq_true r2
          omega
        refine ⟨_, ?_, t + 1, wN (by omega) (by omega), by omega, rfl, allTakeS (d := []) s ha ?_, G4.trans g5⟩
        · omega
        · exact List.any_eq_true.2 ⟨_, mem_getD r, decide_eq_true r2⟩
      · refine ⟨_, ?_, i + 1, wN (by omega) (by omega), by omega, rfl, ?_, g4.trans g5⟩
        · omega
        · rw [any_take_succ r (d := 0), hb, Bool.false_or]
          simp at r2 ⊢; omega
    · have r : i = (cs.getD t []).length := by simp at r; omega
      subst r
      rw [List.take_length] at hb
      have : holdsP m cs = false := by unfold holdsP; exact allFalse (d := []) s hb
      rw [this]; rfl
  · have s : t = cs.length := by simp at s; omega
    subst s
    rw [List.take_length] at ha
    have : holdsP m cs = true := ha
    rw [this]; rfl
end Go.Proofs.Ytlpmapeojecenaa.W
