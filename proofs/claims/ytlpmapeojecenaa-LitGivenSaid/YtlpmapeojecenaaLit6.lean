/- Layer 1: the statement LitHolds, told. -/
import Derived.Test.YtlpmapeojecenaaLit5
namespace Go.Proofs.Ytlpmapeojecenaa.W
open Go Go.Fw Go.RowKit Go.SoP Go.LiP
variable {w : World} {p q : Option Addr} {n c : Nat} {l : List Int}

theorem cnfCells {nb : Nat} {k : Int} {q : Option Addr} {j d : Nat} (h : Has w nb #[.int .i64 k, .slice q j d]) : CellsAt w ⟨nb, 0, none⟩ 0 [.int .i64 k, .slice q j d] := ⟨cell_add h rfl, cell_add h rfl, trivial⟩

theorem LitHolds_calls {k1 k2 : Int} {q1 q2 : Option Addr} {j1 j2 d1 d2 : Nat} {hs1 hs2 : List Sl} {xs ys : List (List Int)} {m : List Int} (hx : V2 (Value.int .i64) w q1 hs1 xs) (hj1 : j1 = xs.length) (hm1 : j1 ≤ maxLen)
    (hy : V2 (Value.int .i64) w q2 hs2 ys) (hj2 : j2 = ys.length) (h : Vw (Value.int .i64) w p m) (hn : n = m.length) (hm : n ≤ maxLen) :
    Calls Try.prog fathomlaw01_LitHolds.id #[.agg #[.int .i64 k1, .slice q1 j1 d1], .agg #[.int .i64 k2, .slice q2 j2 d2], .slice p n c] w fun e w' => e = .returned (.bool true) ∧ Grow w w' := by
  refine fathomlaw01_LitHolds.calls ?_
  intro n1 w1 h1 n3 w3 h3
  have G3 := h1.mod.trans h3.mod
  have H1 := h1.has.old h3
  have H3 := h3.has
  refine ⟨_, _, _, _, cnfCells H1, (light_ok (hx.grow G3) hj1).mono ?_⟩
  rintro e w5 ⟨b1, rfl, g5⟩
  have G5 := G3.trans g5
  refine ⟨_, rfl, cnd_i (fun _ => awk01 G5) (fun _ => ⟨_, _, _, _, cnfCells (H3.grow g5), (light_ok (hy.grow G5) hj2).mono ?_⟩)⟩
  rintro e w6 ⟨b2, rfl, g6⟩
  have G6 := G5.trans g6
  have I1 := (H1.grow g5).grow g6
  have I3 := (H3.grow g5).grow g6
  refine ⟨_, rfl, cnd_i (fun _ => awk01 G6) (fun _ => ⟨fun w' => Grow w6 w', ?_, ?_⟩)⟩
  · have rd1 : ∀ {w' : World}, Grow w6 w' → CellsAt w' ⟨n1, 0, none⟩ 0 [.int .i64 k1, .slice q1 j1 d1] := fun g => cnfCells (I1.grow g)
    have rd3 : ∀ {w' : World}, Grow w6 w' → CellsAt w' ⟨n3, 0, none⟩ 0 [.int .i64 k2, .slice q2 j2 d2] := fun g => cnfCells (I3.grow g)
    have L48 : ∀ {w' : World} (_ : Grow w6 w') {K : Ending → World → Prop}, (∀ w2, Grow w6 w2 → K (.returned (.bool (decide (k1 = k2 ∧ xs = ys)))) w2) →
        Calls Try.prog lit_Same.id #[.agg #[.int .i64 k1, .slice q1 j1 d1], .agg #[.int .i64 k2, .slice q2 j2 d2]] w' K := by
      intro w' g K hK
      refine (litSame_ok (hx.grow (G6.trans g)) (hy.grow (G6.trans g)) hj1 hj2 hm1).mono ?_
      rintro e w2 ⟨rfl, g2⟩
      exact hK w2 (g.trans g2)
    have L49 : ∀ {w' : World} (_ : Grow w6 w') {K : Ending → World → Prop}, (∀ w2, Grow w6 w2 → K (.returned (.bool (decide (k1 = k2 ∧ xs = ys)))) w2) →
        Calls Try.prog fathomref01_Same.id #[.agg #[.int .i64 k1, .slice q1 j1 d1], .agg #[.int .i64 k2, .slice q2 j2 d2]] w' K := by
      intro w' g K hK
      refine (refSame_ok (hx.grow (G6.trans g)) (hy.grow (G6.trans g)) hj1 hj2 hm1).mono ?_
      rintro e w2 ⟨rfl, g2⟩
      exact hK w2 (g.trans g2)
    have fin : ∀ {w' : World}, Grow w6 w' → ∃ x30 : Int, ∃ x31_p : Option Addr, ∃ x31_n : Nat, ∃ x31_c : Nat, CellsAt w' (Addr.mk n1 0 none) 0 [.int .i64 x30, .slice x31_p x31_n x31_c] ∧
        ∃ x32 : Int, ∃ x33_p : Option Addr, ∃ x33_n : Nat, ∃ x33_c : Nat, CellsAt w' (Addr.mk n1 0 none) 0 [.int .i64 x32, .slice x33_p x33_n x33_c] ∧
        Calls Try.prog lit_Same.id #[.agg #[.int .i64 x30, .slice x31_p x31_n x31_c], .agg #[.int .i64 x32, .slice x33_p x33_n x33_c]] w' fun e w34 => ∃ r35 : Bool, e = .returned (.bool r35) ∧
        cnd (!r35) (Ending.returned (.bool false) = .returned (.bool true) ∧ Grow w w34) (Grow w6 w34) := by
      intro w' g
      refine ⟨_, _, _, _, rd1 g, _, _, _, _, rd1 g, (litSame_ok (hx.grow (G6.trans g)) (hx.grow (G6.trans g)) hj1 hj1 hm1).mono ?_⟩
      rintro e w2 ⟨rfl, g2⟩
      exact ⟨_, rfl, cnd_f (by simp) (g.trans g2)⟩
    have G0 : Grow w6 w6.drew := (Mod.refl w6).drew
    refine ⟨_, _, _, _, rd1 G0, _, _, _, _, rd3 G0, ?_, ⟨_, _, _, _, rd1 G0, ?_, ⟨_, _, _, _, rd3 G0, ?_⟩⟩, ⟨_, _, _, _, rd3 G0, ?_, ⟨_, _, _, _, rd1 G0, ?_⟩⟩⟩
    · exact L48 G0 fun w2 g2 => ⟨_, rfl, _, _, _, _, rd1 g2, _, _, _, _, rd3 g2, L49 g2 fun w3 g3 => ⟨_, rfl, cnd_f (by simp) (fin g3)⟩⟩
    · exact L48 G0 fun w2 g2 => ⟨_, rfl, _, _, _, _, rd3 g2, L49 g2 fun w3 g3 => ⟨_, rfl, cnd_f (by simp) (fin g3)⟩⟩
    · exact L48 G0 fun w2 g2 => ⟨_, rfl, L49 g2 fun w3 g3 => ⟨_, rfl, cnd_f (by simp) (fin g3)⟩⟩
    · exact L48 G0 fun w2 g2 => ⟨_, rfl, _, _, _, _, rd1 g2, L49 g2 fun w3 g3 => ⟨_, rfl, cnd_f (by simp) (fin g3)⟩⟩
    · exact L48 G0 fun w2 g2 => ⟨_, rfl, L49 g2 fun w3 g3 => ⟨_, rfl, cnd_f (by simp) (fin g3)⟩⟩
  · rintro w7 _ (g7 : Grow w6 w7)
    have G7 := G6.trans g7
    have J1 := I1.grow g7
    have G7 := G6.trans g7
    refine ⟨_, _, _, _, cnfCells J1, (refCnf_ok (hx.grow G7) hj1).mono ?_⟩
    rintro e w8 ⟨rfl, g8⟩
    have G8 := G7.trans g8
    have J8 := J1.grow g8
    refine ⟨_, rfl, cnd_i (fun s => ?_) (fun s => ?_)⟩
    · have s : cnfB k1 xs = false := by simpa using s
      refine ⟨_, _, _, _, cnfCells J8, (checkCnf_ok (hx.grow G8) hj1).mono ?_⟩
      rintro e w9 ⟨rfl, g9⟩
      rw [s]
      have G9 := G8.trans g9
      refine ⟨_, rfl, cnd_t rfl ⟨_, _, _, _, cnfCells (J8.grow g9), (litHolds_ok (hx.grow G9) hj1 (h.grow G9) hn hm).mono ?_⟩⟩
      rintro e w10 ⟨rfl, g10⟩
      exact ⟨_, rfl, cnd_t (by rw [s]; rfl) (awk01 (G9.trans g10))⟩
    · have s : cnfB k1 xs = true := by simpa using s
      have hxl : j1 ≤ maxLen := hm1
      refine ⟨_, _, _, _, cnfCells J8.drew, (checkCnf_ok (hx.grow G8.drew) hj1).mono ?_⟩
      rintro e w9 ⟨rfl, g9⟩
      rw [s]
      have G9 := G8.drew.trans g9
      have J9 := J8.drew.grow g9
      have LH : ∀ {w' : World} (_ : Grow w9 w') {K : Ending → World → Prop}, (∀ w2, Grow w9 w2 → K (.returned (.bool (holdsP m xs))) w2) → Calls Try.prog lit_Holds.id #[.agg #[.int .i64 k1, .slice q1 j1 d1], .slice p n c] w' K := by
        intro w' g K hK
        refine (litHolds_ok (hx.grow (G9.trans g)) hj1 (h.grow (G9.trans g)) hn hm).mono ?_
        rintro e w2 ⟨rfl, g2⟩
        rw [s, Bool.true_and]
        exact hK w2 (g.trans g2)
      have LR : ∀ {w' : World} (_ : Grow w9 w') {K : Ending → World → Prop}, (∀ w2, Grow w9 w2 → K (.returned (.bool (holdsP m xs))) w2) → Calls Try.prog fathomref01_Holds.id #[.agg #[.int .i64 k1, .slice q1 j1 d1], .slice p n c] w' K := by
        intro w' g K hK
        refine (refHolds_ok (hx.grow (G9.trans g)) hj1 hxl (h.grow (G9.trans g)) hn hm).mono ?_
        rintro e w2 ⟨rfl, g2⟩
        exact hK w2 (g.trans g2)
      have G0 := Mod.refl (S := fun _ => False) w9
      refine ⟨_, rfl, cnd_t rfl ⟨_, _, _, _, cnfCells J9, ?_, ⟨_, _, _, _, cnfCells J9, ?_⟩⟩⟩
      · exact LH G0 fun w2 g2 => ⟨_, rfl, _, _, _, _, cnfCells (J9.grow g2), LR g2 fun w3 g3 => ⟨_, rfl, cnd_t (by simp) (awk01 (G9.trans g3))⟩⟩
      · exact LH G0 fun w2 g2 => ⟨_, rfl, LR g2 fun w3 g3 => ⟨_, rfl, cnd_t (by simp) (awk01 (G9.trans g3))⟩⟩

/-- The formula of an argument. -/
theorem cnf_of_rd {v : Value} (h : RdV w (.cons (.int .i64) (.cons (.sl (.sl (.int .i64))) .nil)) v) : ∃ k q j d hs cs, v = .agg #[.int .i64 k, .slice q j d] ∧ j = cs.length ∧ j ≤ maxLen ∧ V2 (Value.int .i64) w q hs cs ∧ (-9223372036854775808 ≤ k ∧ k < 9223372036854775808) := by
  obtain ⟨cs, rfl, x, y, rfl, ⟨k, rfl, hk⟩, z, u, rfl, hz, rfl⟩ := h
  have hv : ∃ s, z = [s] ∧ RdV w (.sl (.sl (.int .i64))) s := by
    rcases hz with rfl | ⟨a', len', cap', rfl, g⟩
    · exact ⟨_, rfl, .inl rfl⟩
    · exact ⟨_, rfl, .inr ⟨a', len', cap', rfl, g⟩⟩
  obtain ⟨s, rfl, hs'⟩ := hv
  obtain ⟨q, m, d, ss, rows, rfl, hm, hm1, hm2, hc⟩ := rows_of_rd (fun v => ints_of_rd') hs'
  exact ⟨k, q, m, d, ss, rows, rfl, hm, Nat.le_trans hm1 hm2, hc, bd64_of_wf hk⟩

theorem LitHolds_law (v0 v1 v2 : Value) (W : World) (h0 : RdV W (.cons (.int .i64) (.cons (.sl (.sl (.int .i64))) .nil)) v0) (h1 : RdV W (.cons (.int .i64) (.cons (.sl (.sl (.int .i64))) .nil)) v1) (h2 : RdV W (.sl (.int .i64)) v2) : Calls Try.prog fathomlaw01_LitHolds.id #[v0, v1, v2] W fun e W' => e = .returned (.bool true) ∧ Grow W W' := by
  obtain ⟨k1, q1, j1, d1, hs1, xs, rfl, hj1, hm1, hx, _⟩ := cnf_of_rd h0
  obtain ⟨k2, q2, j2, d2, hs2, ys, rfl, hj2, hm2, hy, _⟩ := cnf_of_rd h1
  obtain ⟨p, n, c, l, rfl, hn, a1, a2, h⟩ := ints_of_rd' h2
  exact LitHolds_calls hx hj1 hm1 hy hj2 h hn (Nat.le_trans a1 a2)
end Go.Proofs.Ytlpmapeojecenaa.W
