/- Layer 1: the statement LitGiven. -/
import Derived.Test.YtlpmapeojecenaaLit8
namespace Go.Proofs.Ytlpmapeojecenaa.W
open Go Go.Fw Go.RowKit Go.SoP Go.LiP
variable {w : World} {p q : Option Addr} {n c : Nat} {l : List Int}

theorem givP_cnf {k x : Int} {cs : List (List Int)} (h : cnfB k cs = true) : cnfB k (givP x cs) = true := by
  unfold cnfB at h ⊢
  simp only [Bool.and_eq_true, decide_eq_true_eq, List.all_eq_true] at h ⊢
  have hl := givP_len x cs
  refine ⟨⟨h.1.1, h.1.2.1, by omega⟩, fun d hd => ?_⟩
  unfold givP at hd
  split at hd
  · obtain ⟨c, hc, rfl⟩ := List.mem_map.1 hd
    have hc' := h.2 c (List.mem_filter.1 hc).1
    have h1 := clB_all hc'.1
    have h2 := wo_len (l := c) (x := -x)
    refine ⟨?_, fun y hy => hc'.2 y (List.mem_filter.1 hy).1⟩
    unfold clB
    rw [decide_eq_true (by omega), Bool.and_true, List.all_eq_true]
    exact fun y hy => h1.1 y (List.mem_filter.1 hy).1
  · exact h.2 d hd

theorem givP_holds {m : List Int} {x : Int} (hx : litB x = true) (hv : valP m x = 1) (cs : List (List Int)) : holdsP m (givP x cs) = holdsP m cs := by
  have hn := valP_neg (m := m) hx
  unfold holdsP givP
  rw [if_pos hx, Bool.eq_iff_iff, List.all_eq_true, List.all_eq_true]
  constructor
  · intro h c hc
    by_cases hi : x ∈ c
    · exact List.any_eq_true.2 ⟨x, hi, decide_eq_true hv⟩
    · have := h (wo c (-x)) (List.mem_map.2 ⟨c, List.mem_filter.2 ⟨hc, by simp [hi]⟩, rfl⟩)
      obtain ⟨y, hy, ey⟩ := List.any_eq_true.1 this
      exact List.any_eq_true.2 ⟨y, (List.mem_filter.1 hy).1, ey⟩
  · intro h d hd
    obtain ⟨c, hc, rfl⟩ := List.mem_map.1 hd
    obtain ⟨y, hy, ey⟩ := List.any_eq_true.1 (h c (List.mem_filter.1 hc).1)
    refine List.any_eq_true.2 ⟨y, List.mem_filter.2 ⟨hy, ?_⟩, ey⟩
    rw [bne_iff_ne]
    rintro rfl
    have := of_decide_eq_true ey
    omega

theorem LitGiven_calls {k1 : Int} {q1 : Option Addr} {j1 d1 : Nat} {hs1 : List Sl} {xs : List (List Int)} {m : List Int} (hx : V2 (Value.int .i64) w q1 hs1 xs) (hj1 : j1 = xs.length)
    (h : Vw (Value.int .i64) w p m) (hn : n = m.length) (hm : n ≤ maxLen) {x : Int} (hb : -9223372036854775808 ≤ x ∧ x < 9223372036854775808) :
    Calls Try.prog fathomlaw01_LitGiven.id #[.agg #[.int .i64 k1, .slice q1 j1 d1], .int .i64 x, .slice p n c] w fun e w' => e = .returned (.bool true) ∧ Grow w w' := by
  refine fathomlaw01_LitGiven.calls ?_
  intro n1 w1 h1
  have g1 := h1.mod
  have H1 := h1.has
  refine ⟨_, _, _, _, cnfCells H1, (light_ok (hx.grow g1) hj1).mono ?_⟩
  rintro e w5 ⟨b1, rfl, g5⟩
  have G5 := g1.trans g5
  have H5 := H1.grow g5
  refine ⟨_, rfl, cnd_i (fun _ => awk01 G5) (fun _ => ⟨_, _, _, _, cnfCells H5, (litGiven_ok (hx.grow G5) hj1 hb).mono ?_⟩)⟩
  rintro e w6 ⟨P, C, hs, rows, k', rfl, v6, g6, hrl, hval⟩
  have G6 := G5.trans g6
  have H6 := H5.grow g6
  refine ⟨_, _, _, _, rfl, fun n14 w15 h15 => ?_⟩
  have e15 := h15.num
  refine store_i h15.has rfl rfl fun w16 K16 m16 => ?_
  have g16 : Grow w6 w16 := h15.mod.fresh m16 (by omega)
  have K16 : Has w16 n14 #[.int .i64 k', .slice P rows.length C] := K16
  have G16 := G6.trans g16
  have H16 := H6.grow g16
  have v16 := v6.grow g16
  refine ⟨_, _, _, _, cnfCells H16, (refCnf_ok (hx.grow G16) hj1).mono ?_⟩
  rintro e w19 ⟨rfl, g19⟩
  have G19 := G16.trans g19
  have H19 := H16.grow g19
  have K19 := K16.grow g19
  have v19 := v16.grow g19
  refine ⟨_, rfl, cnd_i (fun s => ?_) (fun s => ?_)⟩
  · have s : cnfB k1 xs = false := by simpa using s
    rw [s, if_neg Bool.false_ne_true] at hval
    obtain ⟨rfl, rfl⟩ := hval
    refine ⟨_, _, _, _, cnfCells K19, (refSame_ok v19 (V2.nil (w := w19) (p := none)) rfl rfl (Nat.zero_le _)).mono ?_⟩
    rintro e w20 ⟨rfl, g20⟩
    exact ⟨_, rfl, cnd_t (by simp) (awk01 (G19.trans g20))⟩
  have s : cnfB k1 xs = true := by simpa using s
  rw [s, if_pos rfl] at hval
  obtain ⟨rfl, rfl⟩ := hval
  refine (refLit_ok x w19).mono ?_
  rintro e w20 ⟨rfl, g20⟩
  have G20 := G19.trans g20
  have H20 := H19.grow g20
  have K20 := K19.grow g20
  have v20 := v19.grow g20
  refine ⟨_, rfl, cnd_i (fun r => ?_) (fun r => ?_)⟩
  · have r : litB x = false := by simpa using r
    refine ⟨_, _, _, _, cnfCells K20, _, _, _, _, cnfCells H20, (refSame_ok v20 (hx.grow G20) rfl hj1 hrl).mono ?_⟩
    rintro e w21 ⟨rfl, g21⟩
    refine ⟨_, rfl, cnd_t (decide_eq_true ⟨rfl, ?_⟩) (awk01 (G20.trans g21))⟩
    unfold givP
    rw [r]; rfl
  have r : litB x = true := by simpa using r
  have G0 : Grow w20 w20.drew := (Mod.refl w20).drew
  -- the formulas are alike: on
  have aft : ∀ w', Grow w20 w' → Calls Try.prog fathomref01_Value.id #[.slice p n c, .int .i64 x] w'.drew fun e w46 => ∃ r47 : Int, e = .returned (.int .i64 r47) ∧
        cnd (r47 != (1 : Int))
        ((Calls Try.prog fathomlaw01_awake.id #[] w46 fun e w48 => ∃ r49 : Bool, e = .returned (.bool r49) ∧ (Ending.returned (.bool r49) = .returned (.bool true) ∧ Grow w w48)) ∧
        (Calls Try.prog fathomlaw01_awake.id #[] w46 fun e w50 => ∃ r51 : Bool, e = .returned (.bool r51) ∧ (Ending.returned (.bool r51) = .returned (.bool true) ∧ Grow w w50)))
        (∃ x52 : Int, ∃ x53_p : Option Addr, ∃ x53_n : Nat, ∃ x53_c : Nat, CellsAt w46 (Addr.mk n1 0 none) 0 [.int .i64 x52, .slice x53_p x53_n x53_c] ∧
        (Calls Try.prog lit_Holds.id #[.agg #[.int .i64 x52, .slice x53_p x53_n x53_c], .slice p n c] w46 fun e w54 => ∃ r55 : Bool, e = .returned (.bool r55) ∧
        ∃ x56 : Int, ∃ x57_p : Option Addr, ∃ x57_n : Nat, ∃ x57_c : Nat, CellsAt w54 (Addr.mk n14 0 none) 0 [.int .i64 x56, .slice x57_p x57_n x57_c] ∧
        Calls Try.prog lit_Holds.id #[.agg #[.int .i64 x56, .slice x57_p x57_n x57_c], .slice p n c] w54 fun e w58 => ∃ r59 : Bool, e = .returned (.bool r59) ∧
        cnd (r55 == r59)
        (Calls Try.prog fathomlaw01_awake.id #[] w58 fun e w60 => ∃ r61 : Bool, e = .returned (.bool r61) ∧ (Ending.returned (.bool r61) = .returned (.bool true) ∧ Grow w w60))
        (Ending.returned (.bool false) = .returned (.bool true) ∧ Grow w w58)) ∧
        (∃ x62 : Int, ∃ x63_p : Option Addr, ∃ x63_n : Nat, ∃ x63_c : Nat, CellsAt w46 (Addr.mk n14 0 none) 0 [.int .i64 x62, .slice x63_p x63_n x63_c] ∧
        Calls Try.prog lit_Holds.id #[.agg #[.int .i64 x52, .slice x53_p x53_n x53_c], .slice p n c] w46 fun e w64 => ∃ r65 : Bool, e = .returned (.bool r65) ∧
        Calls Try.prog lit_Holds.id #[.agg #[.int .i64 x62, .slice x63_p x63_n x63_c], .slice p n c] w64 fun e w66 => ∃ r67 : Bool, e = .returned (.bool r67) ∧
        cnd (r65 == r67)
        (Calls Try.prog fathomlaw01_awake.id #[] w66 fun e w68 => ∃ r69 : Bool, e = .returned (.bool r69) ∧ (Ending.returned (.bool r69) = .returned (.bool true) ∧ Grow w w68))
        (Ending.returned (.bool false) = .returned (.bool true) ∧ Grow w w66))) := by
    intro w' g
    refine (refValue_ok (h.grow (G20.trans g)).drew hn hm x).mono ?_
    rintro e w46 ⟨rfl, g46⟩
    have G46' : Grow w20 w46 := g.drew.trans g46
    have G46 := G20.trans G46'
    refine ⟨_, rfl, cnd_i (fun _ => ⟨awk01 G46, awk01 G46⟩) (fun t => ?_)⟩
    have t : valP m x = 1 := by simpa using t
    have H46 := H20.grow G46'
    have K46 := K20.grow G46'
    have hf := givP_holds r t xs
    have LF : ∀ {w' : World} (_ : Grow w46 w') {K : Ending → World → Prop}, (∀ w2, Grow w46 w2 → K (.returned (.bool (holdsP m xs))) w2) → Calls Try.prog lit_Holds.id #[.agg #[.int .i64 k', .slice q1 j1 d1], .slice p n c] w' K := by
      intro w' g K hK
      refine (litHolds_ok (hx.grow (G46.trans g)) hj1 (h.grow (G46.trans g)) hn hm).mono ?_
      rintro e w2 ⟨rfl, g2⟩
      rw [s, Bool.true_and]
      exact hK w2 (g.trans g2)
    have LG : ∀ {w' : World} (_ : Grow w46 w') {K : Ending → World → Prop}, (∀ w2, Grow w46 w2 → K (.returned (.bool (holdsP m xs))) w2) → Calls Try.prog lit_Holds.id #[.agg #[.int .i64 k', .slice P (givP x xs).length C], .slice p n c] w' K := by
      intro w' g K hK
      refine (litHolds_ok (v20.grow (G46'.trans g)) rfl (h.grow (G46.trans g)) hn hm).mono ?_
      rintro e w2 ⟨rfl, g2⟩
      rw [givP_cnf s, Bool.true_and, hf]
      exact hK w2 (g.trans g2)
    have G00 := Mod.refl (S := fun _ => False) w46
    refine ⟨_, _, _, _, cnfCells H46, ?_, ⟨_, _, _, _, cnfCells K46, ?_⟩⟩
    · exact LF G00 fun w2 g2 => ⟨_, rfl, _, _, _, _, cnfCells (K46.grow g2), LG g2 fun w3 g3 => ⟨_, rfl, cnd_t (by simp) (awk01 (G46.trans g3))⟩⟩
    · exact LF G00 fun w2 g2 => ⟨_, rfl, LG g2 fun w3 g3 => ⟨_, rfl, cnd_t (by simp) (awk01 (G46.trans g3))⟩⟩
  refine ⟨_, _, _, _, cnfCells H20.drew, ⟨_, _, _, _, cnfCells K20.drew, (refGiven_ok (hx.grow (G20.trans G0)) hj1 s r).mono ?_⟩, (refGiven_ok (hx.grow (G20.trans G0)) hj1 s r).mono ?_⟩
  · rintro e w41 ⟨P2, C2, hs2, rfl, v41, g41⟩
    have g := G0.trans g41
    refine ⟨_, _, _, _, rfl, (refSame_ok (v20.grow g) v41 rfl rfl hrl).mono ?_⟩
    rintro e w44 ⟨rfl, g44⟩
    exact ⟨_, rfl, cnd_f (by simp) (aft w44 (g.trans g44))⟩
  · rintro e w41 ⟨P2, C2, hs2, rfl, v41, g41⟩
    have g := G0.trans g41
    refine ⟨_, _, _, _, rfl, _, _, _, _, cnfCells (K20.grow g), (refSame_ok (v20.grow g) v41 rfl rfl hrl).mono ?_⟩
    rintro e w44 ⟨rfl, g44⟩
    exact ⟨_, rfl, cnd_f (by simp) (aft w44 (g.trans g44))⟩

theorem LitGiven_law (v0 v1 v2 : Value) (W : World) (h0 : RdV W (.cons (.int .i64) (.cons (.sl (.sl (.int .i64))) .nil)) v0) (h1 : RdV W (.int .i64) v1) (h2 : RdV W (.sl (.int .i64)) v2) : Calls Try.prog fathomlaw01_LitGiven.id #[v0, v1, v2] W fun e W' => e = .returned (.bool true) ∧ Grow W W' := by
  obtain ⟨k1, q1, j1, d1, hs1, xs, rfl, hj1, hm1, hx, _⟩ := cnf_of_rd h0
  obtain ⟨x, rfl, hxw⟩ := h1
  obtain ⟨p, n, c, l, rfl, hn, a1, a2, h⟩ := ints_of_rd' h2
  exact LitGiven_calls hx hj1 h hn (Nat.le_trans a1 a2) (bd64_of_wf hxw)
end Go.Proofs.Ytlpmapeojecenaa.W
