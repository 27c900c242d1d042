/- Layer 18: the law of building. -/
import Derived.Test.YtambabpklfeaoaaTs8
namespace Go.Proofs.Ytambabpklfeaoaa.W
open Go Go.Fw Go.RowKit Go.TsP

theorem light18_ok {w : World} {p q : Option Addr} {g : List (Int × Int)} {n c m d : Nat} {hs : List Sl} {cs : List (List Int)} (hn : n = g.length) (hm : m = cs.length) (hx : m ≤ maxLen) (hc : V2 (Value.int .i64) w q hs cs) :
    Calls Try.prog fathomlaw18_light.id #[.slice p n c, .slice q m d] w fun e w' => (∃ r, e = .returned (.bool r) ∧ (r = true → g.length ≤ 12 ∧ cs.length ≤ 12 ∧ ∀ t, t < cs.length → (cs.getD t []).length ≤ 30)) ∧ Grow w w' := by
  subst hn hm
  unfold maxLen at hx
  refine fathomlaw18_light.calls ?_
  refine ⟨fun v w' z => ∃ t : Nat, v = t ∧ t ≤ cs.length ∧ (∀ i, i < t → (cs.getD i []).length ≤ 30) ∧ Grow w w' ∧ z + t = cs.length, ⟨_, 0, rfl, Nat.zero_le _, fun i hi => by omega, Mod.refl _, rfl⟩, ?_⟩
  rintro v w5 z _ ⟨t, rfl, ht, ha, G, hz⟩
  have fin : (12 < cs.length ∨ t = cs.length) → cnd (decide ((g.length : Int) ≤ (12 : Int))) ((∃ r, Ending.returned (.bool (decide ((cs.length : Int) ≤ (12 : Int)))) = .returned (.bool r) ∧ (r = true → g.length ≤ 12 ∧ cs.length ≤ 12 ∧ ∀ t, t < cs.length → (cs.getD t []).length ≤ 30)) ∧ Grow w w5) ((∃ r, Ending.returned (.bool false) = .returned (.bool r) ∧ (r = true → g.length ≤ 12 ∧ cs.length ≤ 12 ∧ ∀ t, t < cs.length → (cs.getD t []).length ≤ 30)) ∧ Grow w w5) := fun h =>
    cnd_i (fun q => ⟨⟨_, rfl, fun h2 => by
      simp only [decide_eq_true_eq] at q h2
      refine ⟨by omega, by omega, fun i hi => ha i (by omega)⟩⟩, G⟩) (fun q => ⟨⟨_, rfl, fun h2 => by cases h2⟩, G⟩)
  refine cnd_i (fun q => cnd_i (fun q2 => ?_) (fun q2 => fin (.inl ?_))) (fun q => fin (.inr ?_)) <;> simp only [decide_eq_true_eq, decide_eq_false_iff_not] at *
  · have ht' : t < cs.length := by omega
    refine rowIx (hc.grow G) rfl ht' fun a sl e _ hsn hsm hv => ⟨_, _, _, e, cnd_i (fun q3 => ⟨⟨_, rfl, fun h2 => by cases h2⟩, G⟩) (fun q3 => ⟨z - 1, by omega, t + 1, by rw [wrap64_of (by omega) (by omega)]; omega, ht', fun i hi => ?_, G, by omega⟩)⟩
    simp only [decide_eq_false_iff_not] at q3
    rcases Nat.lt_or_ge i t with c | c
    · exact ha i c
    · have : i = t := by omega
      subst this; omega
  · omega
  · omega

theorem aw_H : ∀ k, 1 ≤ k → k ≤ 3 → inP [(-1, -1), (-1, -1), (2, 4)] [[6]] k = true := by
  have h3 : H [(-1, -1), (-1, -1), (2, 4)] [[6]] 3 := .hit ⟨[6], by simp, 6, by simp, by decide⟩
  intro k h1 h2
  rw [inP_iff]
  have : k = 1 ∨ k = 2 ∨ k = 3 := by omega
  rcases this with rfl | rfl | rfl
  · exact .kid (i := 2) (by omega) (by decide) ⟨by decide, .inl (by decide)⟩ h3
  · exact .kid (i := 2) (by omega) (by decide) ⟨by decide, .inr (by decide)⟩ h3
  · exact h3

theorem cnt_congr {P Q : Nat → Bool} : ∀ {n : Nat}, (∀ k, 1 ≤ k → k ≤ n → P k = Q k) → cnt P n = cnt Q n
  | 0, _ => rfl
  | n + 1, h => by rw [cnt_succ, cnt_succ, cnt_congr (n := n) fun k h1 h2 => h k h1 (by omega), h (n + 1) (by omega) (by omega)]
theorem vs_congr {P Q : Nat → Bool} {n : Nat} (h : ∀ k, 1 ≤ k → k ≤ n → P k = Q k) : vs P n = vs Q n := by
  unfold vs
  apply List.map_congr_left
  intro i hi
  have hi := List.mem_range.1 hi
  rw [h (i + 1) (by omega) (by omega), cnt_congr fun k h1 h2 => h k h1 (by omega)]
theorem gcls_congr {g : List (Int × Int)} {P Q : Nat → Bool} {n : Nat} (h : ∀ k, 1 ≤ k → k ≤ n → P k = Q k) : gcls g P n = gcls g Q n := by
  induction n with
  | zero => rfl
  | succ n ih =>
    rw [gcls_succ, gcls_succ, ih fun k h1 h2 => h k h1 (by omega)]
    unfold gcl
    rw [h (n + 1) (by omega) (by omega)]

theorem aw_K : tK [(-1, -1), (-1, -1), (2, 4)] [[6]] = 3 := by
  unfold tK
  rw [cnt_congr (Q := fun _ => true) (n := List.length [((-1 : Int), (-1 : Int)), (-1, -1), (2, 4)]) aw_H]
  rfl
theorem aw_V : tV [(-1, -1), (-1, -1), (2, 4)] [[6]] = [1, 2, 3] := by
  unfold tV
  rw [vs_congr (Q := fun _ => true) (n := List.length [((-1 : Int), (-1 : Int)), (-1, -1), (2, 4)]) aw_H]
  decide
theorem aw_C : (tC [(-1, -1), (-1, -1), (2, 4)] [[6]]).length = 4 := by
  unfold tC
  rw [aw_V]
  unfold allC
  rw [gcls_congr (Q := fun _ => true) (n := List.length [((-1 : Int), (-1 : Int)), (-1, -1), (2, 4)]) aw_H]
  decide

theorem awake18 {w0 w : World} (G0 : Grow w0 w) : Calls Try.prog fathomlaw18_awake.id #[] w fun e w' => e = .returned (.bool true) ∧ Grow w0 w' := by
  refine fathomlaw18_awake.calls ?_
  intro n1 w2 h2 n3 w4 h4 n5 w6 h6
  have R : Row 2 gateV ty_api_Gate w2 (some ⟨n1, 0, none⟩) 3 [(-1, -1), (-1, -1), (2, 4)] := Row.of_some gateE.len h2.at (Nat.le_refl _) (by unfold maxLen; simp) rfl rfl
  have L : OwI ty_int w4 (some ⟨n3, 0, none⟩) 1 [6] := Ow.of_some h4.at (Nat.le_refl _) (by unfold maxLen; simp) rfl rfl
  have hv : Vw Sl.v w6 (some ⟨n5, 0, none⟩) [⟨some ⟨n3, 0, none⟩, 1, 1⟩] := vw_heads h6.has
  have hc : V2 (Value.int .i64) w6 (some ⟨n5, 0, none⟩) [⟨some ⟨n3, 0, none⟩, 1, 1⟩] [[6]] := (VR.one (L.grow h6.mod).vw rfl (by unfold maxLen; simp)).v2 hv
  have G6 := ((G0.trans h2.mod).trans h4.mod).trans h6.mod
  refine (build_ok (g := [(-1, -1), (-1, -1), (2, 4)]) (cs := [[6]]) rfl (by simp) rfl (by simp) (((R.vr gateE).grow h4.mod).grow h6.mod) hc).mono ?_
  rintro e w7 ⟨⟨hf, _⟩ | ⟨_, pc, cc, pv, cv, rfl, C⟩, g7⟩
  · exact absurd hf (by decide)
  · rw [aw_K, aw_V, aw_C] at *
    refine ⟨_, _, _, _, _, _, _, _, rfl, ?_⟩
    intro n12 w13 h13
    refine store_i h13.has rfl rfl fun w14 h14 m14 => ?_
    have g14 : Grow w7 w14 := h13.mod.fresh m14 (by have := h13.num; omega)
    refine cnd_t rfl ⟨_, cell_add2 h14 rfl, cnd_t rfl ⟨_, _, _, cell_add2 h14 rfl, cnd_t rfl ⟨_, _, _, _, _, _, _, cells3 h14, (code_ok' (C.v.grow g14) rfl (fun x hx => by simp at hx; rcases hx with rfl | rfl | rfl <;> omega) (by omega) (by omega)).mono ?_⟩⟩⟩
    rintro e w20 ⟨rfl, g20⟩
    exact ⟨_, rfl, rfl, ((G6.trans g7).trans g14).trans g20⟩

theorem codeE {v : List Int} {i : Nat} (h : i < v.length) : codeP v (2 * (i : Int) + 2) = v.getD i 0 := by
  unfold codeP
  have e1 : (2 * (i : Int) + 2).tdiv 2 = i + 1 := by rw [Int.tdiv_eq_ediv_of_nonneg (by omega)]; omega
  have e2 : (2 * (i : Int) + 2).tmod 2 = 0 := by rw [Int.tmod_eq_emod_of_nonneg (by omega)]; omega
  rw [e1, e2, if_neg (by omega), if_neg (by omega), show ((i : Int) + 1 - 1).toNat = i by omega]
theorem codeO {v : List Int} {i : Nat} (h : i < v.length) : codeP v (2 * (i : Int) + 3) = - v.getD i 0 := by
  unfold codeP
  have e1 : (2 * (i : Int) + 3).tdiv 2 = i + 1 := by rw [Int.tdiv_eq_ediv_of_nonneg (by omega)]; omega
  have e2 : (2 * (i : Int) + 3).tmod 2 = 1 := by rw [Int.tmod_eq_emod_of_nonneg (by omega)]; omega
  rw [e1, e2, if_neg (by omega), if_pos rfl, show ((i : Int) + 1 - 1).toNat = i by omega]

theorem TseitinBuilds_calls {W : World} {p q : Option Addr} {g : List (Int × Int)} {c d : Nat} {hs : List Sl} {cs : List (List Int)} (h : Vr 2 gateV W p g) (hc : V2 (Value.int .i64) W q hs cs) (hx : cs.length ≤ maxLen) :
    Calls Try.prog fathomlaw18_TseitinBuilds.id #[.slice p g.length c, .slice q cs.length d] W fun e W' => e = .returned (.bool true) ∧ Grow W W' := by
  refine fathomlaw18_TseitinBuilds.calls ?_
  refine (light18_ok rfl rfl hx hc).mono ?_
  rintro e w1 ⟨⟨r, rfl, hl⟩, g1⟩
  refine ⟨_, rfl, cnd_i (fun _ => (awake18 g1).mono ?_) (fun t => ?_)⟩
  · rintro e w3 ⟨rfl, g3⟩
    exact ⟨_, rfl, rfl, g3⟩
  obtain ⟨hg, hcl, _⟩ := hl (by simpa using t)
  refine (build_ok rfl (by omega) rfl (by omega) (h.grow g1) (hc.grow g1)).mono ?_
  rintro e w5 ⟨ho, g5⟩
  have G5 := g1.trans g5
  rcases ho with ⟨hf, rfl⟩ | ⟨ht, pc, cc, pv, cv, rfl, C⟩
  · refine ⟨_, _, _, _, _, _, _, _, rfl, ?_⟩
    intro n10 w11 h11
    refine store_i h11.has rfl rfl fun w12 h12 m12 => ?_
    have g12 : Grow w5 w12 := h11.mod.fresh m12 (by have := h11.num; omega)
    have G12 := G5.trans g12
    refine (refMayT_ok (h.grow G12) rfl (by omega) (hc.grow G12) rfl (by omega)).mono ?_
    rintro e w13 ⟨rfl, g13⟩
    have h13 := h12.grow g13
    rw [hf]
    have e0 : (Addr.mk n10 0 none).add 0 = ⟨n10, 0, none⟩ := by rw [add_at]
    refine ⟨_, rfl, cnd_t rfl (cnd_t rfl ⟨_, _, _, _, by rw [e0]; exact ⟨cell_add h13 rfl, cell_add h13 rfl, trivial⟩, ?_⟩)⟩
    refine (refSame_ok (V2.nil (f := Value.int .i64) (p := none)) V2.nil rfl rfl (Nat.zero_le _)).mono ?_
    rintro e w17 ⟨rfl, g17⟩
    refine ⟨_, rfl, cnd_t rfl ⟨_, _, _, cell_add (h13.grow g17) rfl, cnd_t rfl ((awake18 ((G12.trans g13).trans g17)).mono ?_)⟩⟩
    rintro e w20 ⟨rfl, g20⟩
    exact ⟨_, rfl, rfl, g20⟩
  refine ⟨_, _, _, _, _, _, _, _, rfl, ?_⟩
  intro n10 w11 h11
  refine store_i h11.has rfl rfl fun w12 h12 m12 => ?_
  have g12 : Grow w5 w12 := h11.mod.fresh m12 (by have := h11.num; omega)
  have G12 := G5.trans g12
  refine (refMayT_ok (h.grow G12) rfl (by omega) (hc.grow G12) rfl (by omega)).mono ?_
  rintro e w13 ⟨rfl, g13⟩
  rw [ht]
  refine ⟨_, rfl, cnd_f rfl ((refBuild_ok rfl (by omega) rfl (by omega) (h.grow (G12.trans g13)) (hc.grow (G12.trans g13)) ht).mono ?_)⟩
  rintro e w22 ⟨⟨pc2, cc2, pv2, cv2, rfl, C2⟩, g22⟩
  refine ⟨_, _, _, _, _, _, _, rfl, ?_⟩
  intro n26 w27 h27
  refine store_i h27.has rfl rfl fun w28 h28 m28 => ?_
  have g28 : Grow w22 w28 := h27.mod.fresh m28 (by have := h27.num; omega)
  have G28 := ((G12.trans g13).trans g22).trans g28
  have H10 : Has w28 n10 #[.int .i64 (tK g cs), .slice pc (tC g cs).length cc, .slice pv (tV g cs).length cv] := ((h12.grow g13).grow g22).grow g28
  have H26 : Has w28 n26 #[.int .i64 (tK g cs), .slice pc2 (tC g cs).length cc2, .slice pv2 (tV g cs).length cv2] := h28
  have C1 := (((C.grow g12).grow g13).grow g22).grow g28
  have C2 := C2.grow g28
  obtain ⟨hs1, V1⟩ := C1.c
  obtain ⟨hs2, V2'⟩ := C2.c
  have e0 : (Addr.mk n10 0 none).add 0 = ⟨n10, 0, none⟩ := by rw [add_at]
  have e2 : (Addr.mk n26 0 none).add 0 = ⟨n26, 0, none⟩ := by rw [add_at]
  have hal : (tC g cs).length ≤ 48 := by
    refine Nat.le_trans (outC_len _ _) ?_
    unfold allC
    rw [List.length_append]
    have := gcl_len g (inP g cs) g.length
    omega
  have hvl : (tV g cs).length = g.length := vs_len _ _
  have sm := vs_small (inP g cs) (n := g.length) (by omega)
  refine cnd_f rfl ⟨_, _, _, _, by rw [e0]; exact ⟨cell_add H10 rfl, cell_add H10 rfl, trivial⟩, _, _, _, _, by rw [e2]; exact ⟨cell_add H26 rfl, cell_add H26 rfl, trivial⟩, (refSame_ok V1 V2' rfl rfl (by unfold maxLen; omega)).mono ?_⟩
  rintro e w33 ⟨rfl, g33⟩
  refine ⟨_, rfl, cnd_f (by simp) ⟨_, _, _, cell_add (H10.grow g33) rfl, _, _, _, cell_add (H26.grow g33) rfl, (refInts_ok (C1.v.grow g33) (C2.v.grow g33) rfl rfl (by rw [hvl]; unfold maxLen; omega)).mono ?_⟩⟩
  rintro e w37 ⟨rfl, g37⟩
  have g37' := g33.trans g37
  replace H10 := H10.grow g37'
  replace H26 := H26.grow g37'
  have v1 := C1.v.grow g37'
  have v2 := C2.v.grow g37'
  have G37 := G28.trans g37'
  refine ⟨_, rfl, cnd_f (by simp) ⟨fun v w' z => ∃ t : Nat, v = t ∧ t ≤ g.length ∧ Grow w37 w' ∧ z + t = g.length, ⟨_, 0, rfl, Nat.zero_le _, Mod.refl _, rfl⟩, ?_⟩⟩
  rintro v w43 z _ ⟨t, rfl, htt, G, hz⟩
  refine cnd_i (fun q1 => ?_) (fun q1 => ?_) <;> simp only [decide_eq_true_eq, decide_eq_false_iff_not] at q1
  · have ht' : t < g.length := by omega
    have l1 : IntKind.i64.wrap (2 * (t : Int)) = 2 * (t : Int) := wrap64_of (by omega) (by omega)
    have l2 : IntKind.i64.wrap (2 * (t : Int) + 2) = 2 * (t : Int) + 2 := wrap64_of (by omega) (by omega)
    have l3 : IntKind.i64.wrap (2 * (t : Int) + 3) = 2 * (t : Int) + 3 := wrap64_of (by omega) (by omega)
    have l4 : IntKind.i64.wrap ((t : Int) + 1) = ((t + 1 : Nat) : Int) := by rw [wrap64_of (by omega) (by omega)]; omega
    rw [l1, l2, l3, l4]
    have cE : codeP (tV g cs) (2 * (t : Int) + 2) = (tV g cs).getD t 0 := codeE (by omega)
    have cO : codeP (tV g cs) (2 * (t : Int) + 3) = - (tV g cs).getD t 0 := codeO (by omega)
    have sm1 := sm _ (getD_mem (l := tV g cs) (t := t) (by omega) 0)
    have l5 : IntKind.i64.wrap (0 - (tV g cs).getD t 0) = - (tV g cs).getD t 0 := by rw [wrap64_of (by omega) (by omega)]; omega
    have r0 : Grow w37 w43.drew := G.drew
    have hvt : (t : Int) < (tV g cs).length := by omega
    have done : ∀ w', Grow w37 w' → ∃ k41 : Nat, k41 < z ∧ ∃ t' : Nat, ((t + 1 : Nat) : Int) = t' ∧ t' ≤ g.length ∧ Grow w37 w' ∧ k41 + t' = g.length := fun w' g => ⟨z - 1, by omega, t + 1, rfl, ht', g, by omega⟩
    clear G
    repeat' first
      | exact done _ (by assumption)
      | apply And.intro
      | refine ⟨_, _, _, _, _, _, _, cells3 (H10.grow (by assumption)), ?_⟩
      | refine ⟨_, _, _, cell_add (H26.grow (by assumption)) rfl, ?_⟩
      | (refine (code_ok' (v1.grow (by assumption)) rfl sm (by omega) (by omega)).mono ?_
         rintro e w' ⟨rfl, gg⟩
         have ggg : Grow w37 w' := Mod.trans (by assumption) gg
         try replace ea := cell_keep gg ea id
         refine ⟨_, rfl, ?_⟩
         first | rw [cE] | rw [cO])
      | (refine (v2.grow (by assumption)).ix 0 (by omega) rfl hvt fun a ea => ?_
         rw [Int.toNat_natCast] at ea)
      | refine ⟨_, ea, ?_⟩
      | refine cnd_f (by rw [l5]; exact bne_self_eq_false _) ?_
      | refine cnd_f (bne_self_eq_false _) ?_
  · have c0 : codeP (tV g cs) 0 = 0 := by unfold codeP; rw [if_pos (.inl (by omega))]
    have c1 : codeP (tV g cs) 1 = 0 := by unfold codeP; rw [if_pos (.inl (by omega))]
    have c5 : codeP (tV g cs) (-5) = 0 := by unfold codeP; rw [if_pos (.inl (by omega))]
    have l1 : IntKind.i64.wrap (2 * (g.length : Int)) = 2 * (g.length : Int) := wrap64_of (by omega) (by omega)
    have l2 : IntKind.i64.wrap (2 * (g.length : Int) + 2) = 2 * (g.length : Int) + 2 := wrap64_of (by omega) (by omega)
    have cn : codeP (tV g cs) (2 * (g.length : Int) + 2) = 0 := by
      unfold codeP
      rw [if_pos (.inr (by rw [hvl, Int.tdiv_eq_ediv_of_nonneg (by omega)]; omega))]
    rw [l1, l2]
    refine ⟨_, _, _, _, _, _, _, cells3 (H10.grow G), (code_ok' (v1.grow G) rfl sm (l := 0) (by omega) (by omega)).mono ?_⟩
    rintro e w111 ⟨rfl, g111⟩
    rw [c0]
    have G1 := G.trans g111
    refine ⟨_, rfl, cnd_t rfl ⟨_, _, _, _, _, _, _, cells3 (H10.grow G1), (code_ok' (v1.grow G1) rfl sm (l := 1) (by omega) (by omega)).mono ?_⟩⟩
    rintro e w116 ⟨rfl, g116⟩
    rw [c1]
    have G2 := G1.trans g116
    refine ⟨_, rfl, cnd_t rfl ⟨_, _, _, _, _, _, _, cells3 (H10.grow G2), (code_ok' (v1.grow G2) rfl sm (l := 2 * (g.length : Int) + 2) (by omega) (by omega)).mono ?_⟩⟩
    rintro e w121 ⟨rfl, g121⟩
    rw [cn]
    have G3 := G2.trans g121
    refine ⟨_, rfl, cnd_t rfl ⟨_, _, _, _, _, _, _, cells3 (H10.grow G3), (code_ok' (v1.grow G3) rfl sm (l := -5) (by omega) (by omega)).mono ?_⟩⟩
    rintro e w126 ⟨rfl, g126⟩
    rw [c5]
    refine ⟨_, rfl, cnd_t rfl ((awake18 ((G37.trans G3).trans g126)).mono ?_)⟩
    rintro e w128 ⟨rfl, g128⟩
    exact ⟨_, rfl, rfl, g128⟩

/-- The gates of an argument. -/
theorem gates_of_rd {w : World} {v : Value} (h : RdV w (.sl (.cons (.int .i64) (.cons (.int .i64) .nil))) v) : ∃ p n c g, v = .slice p n c ∧ n = g.length ∧ n ≤ maxLen ∧ Vr 2 gateV w p g := by
  rcases h with rfl | ⟨a, len, cap, rfl, h1, h2, h3⟩
  · exact ⟨none, 0, 0, [], rfl, rfl, Nat.zero_le _, Vr.nil⟩
  · have : ∀ i, ∃ x : Int × Int, i < len → CellsAt w (a.add (i * 2)) 0 (gateV x) := by
      intro i
      by_cases hi : i < len
      · obtain ⟨es, _, hc, _, _, rfl, ⟨d, rfl, _⟩, _, _, rfl, ⟨v, rfl, _⟩, rfl⟩ := h3 i hi
        exact ⟨(d, v), fun _ => hc⟩
      · exact ⟨(0, 0), fun h => absurd h hi⟩
    refine ⟨some a, len, cap, (List.range len).map fun i => Classical.choose (this i), rfl, by simp, Nat.le_trans h1 h2, fun j hj => ⟨a, rfl, ?_⟩⟩
    have hj' : j < len := by simpa using hj
    have := Classical.choose_spec (this j) hj'
    simpa using this

theorem TseitinBuilds_law (v0 v1 : Value) (W : World) (h0 : RdV W (.sl (.cons (.int .i64) (.cons (.int .i64) .nil))) v0) (h1 : RdV W (.sl (.sl (.int .i64))) v1) : Calls Try.prog fathomlaw18_TseitinBuilds.id #[v0, v1] W fun e W' => e = .returned (.bool true) ∧ Grow W W' := by
  obtain ⟨p, n, c, g, rfl, rfl, hn, hg⟩ := gates_of_rd h0
  obtain ⟨q, m, d, hs, cs, rfl, rfl, hm1, hm2, hc⟩ := rows_of_rd (fun v => ints_of_rd') h1
  exact TseitinBuilds_calls hg hc (Nat.le_trans hm1 hm2)
end Go.Proofs.Ytambabpklfeaoaa.W
