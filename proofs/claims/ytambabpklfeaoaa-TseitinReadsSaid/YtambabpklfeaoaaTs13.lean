/- Layer 18: the law of reading. -/
import Derived.Test.YtambabpklfeaoaaTs12
namespace Go.Proofs.Ytambabpklfeaoaa.W
open Go Go.Fw Go.RowKit Go.TsP

theorem TseitinReads_calls {W : World} {p q : Option Addr} {g : List (Int × Int)} {c d : Nat} {hs : List Sl} {cs : List (List Int)} {pv pm pi : Option Addr} {cv cm ci : Nat} {v m : List Int} {ins : List Bool} (h : Vr 2 gateV W p g) (hc : V2 (Value.int .i64) W q hs cs) (hx : cs.length ≤ maxLen)
    (hv : Vw (Value.int .i64) W pv v) (hm : Vw (Value.int .i64) W pm m) (hmx : m.length ≤ maxLen) (hi : Vw Value.bool W pi ins) (hix : ins.length ≤ maxLen) :
    Calls Try.prog fathomlaw18_TseitinReads.id #[.slice p g.length c, .slice q cs.length d, .agg #[.slice pv v.length cv, .slice pm m.length cm, .slice pi ins.length ci]] W fun e W' => e = .returned (.bool true) ∧ Grow W W' := by
  refine fathomlaw18_TseitinReads.calls ?_
  intro n1 w2 h2
  have H := h2.has
  refine (light18_ok rfl rfl hx (hc.grow h2.mod)).mono ?_
  rintro e w3 ⟨⟨r, rfl, hl⟩, g3⟩
  have G3 := h2.mod.trans g3
  refine ⟨_, rfl, cnd_i (fun _ => (awake18 G3).mono ?_) (fun t => ?_)⟩
  · rintro e w5 ⟨rfl, g5⟩
    exact ⟨_, rfl, rfl, g5⟩
  obtain ⟨hg, hcl, _⟩ := hl (by simpa using t)
  refine (refMayG_ok (h.grow G3) rfl (by omega)).mono ?_
  rintro e w7 ⟨rfl, g7⟩
  have G7 := G3.trans g7
  have H7 := (H.grow g3).grow g7
  have aw : ∀ w', Grow W w' → Calls Try.prog fathomlaw18_awake.id #[] w' fun e w16 => ∃ r17 : Bool, e = .returned (.bool r17) ∧ (Ending.returned (.bool r17) = .returned (.bool true) ∧ Grow W w16) := fun w' gg => (awake18 gg).mono (by
    rintro e w16 ⟨rfl, g16⟩
    exact ⟨_, rfl, rfl, g16⟩)
  refine ⟨_, rfl, cnd_i (fun s => ?_) (fun s => ?_)⟩ <;> simp only [Bool.not_eq_true', Bool.not_eq_false'] at s
  · refine ⟨_, _, _, cell_add H7 rfl, _, _, _, cell_add H7 rfl, (tsIns_ok rfl (by omega) (h.grow G7) (hv.grow G7) rfl (hm.grow G7) rfl hmx).mono ?_⟩
    rintro e w11 ⟨⟨hh, _⟩ | ⟨_, rfl⟩, g11⟩
    · rw [hh] at s; cases s
    have G11 := G7.trans g11
    refine ⟨_, _, _, rfl, cnd_t rfl ⟨_, _, _, cell_add (H7.grow g11) rfl, (tsAsked_ok rfl (by omega) (h.grow G11) (hc.grow G11) rfl hx (hi.grow G11) rfl hix (.inl s)).mono ?_⟩⟩
    rintro e w14 ⟨rfl, g14⟩
    rw [s]
    exact ⟨_, rfl, cnd_t rfl (aw _ (G11.trans g14))⟩
  · -- behind the inputs
    have rest : ∀ w20, Grow w7 w20 → Calls Try.prog fathomref18_May.id #[.slice p g.length c, .slice q cs.length d] w20 fun e w23 => ∃ r24 : Bool, e = .returned (.bool r24) ∧ 
          cnd (!r24)
          (Calls Try.prog fathomlaw18_awake.id #[] w23 fun e w25 => ∃ r26 : Bool, e = .returned (.bool r26) ∧ 
            (Ending.returned (.bool r26) = .returned (.bool true) ∧ Grow W w25))
          (∃ x27_p : Option Addr, ∃ x27_n : Nat, ∃ x27_c : Nat, w23.drew.cell? ((Addr.mk n1 0 none).add 2) = some (.slice x27_p x27_n x27_c) ∧ 
            (Calls Try.prog tseitin_Asked.id #[.slice p g.length c, .slice q cs.length d, .slice x27_p x27_n x27_c] w23.drew fun e w28 => ∃ r29 : Bool, e = .returned (.bool r29) ∧ 
            ∃ x30_p : Option Addr, ∃ x30_n : Nat, ∃ x30_c : Nat, w28.cell? ((Addr.mk n1 0 none).add 2) = some (.slice x30_p x30_n x30_c) ∧ 
            Calls Try.prog fathomref18_Asked.id #[.slice p g.length c, .slice q cs.length d, .slice x30_p x30_n x30_c] w28 fun e w31 => ∃ r32 : Bool, e = .returned (.bool r32) ∧ 
            cnd (r29 == r32)
            (Calls Try.prog fathomlaw18_awake.id #[] w31 fun e w33 => ∃ r34 : Bool, e = .returned (.bool r34) ∧ 
            (Ending.returned (.bool r34) = .returned (.bool true) ∧ Grow W w33))
            (Ending.returned (.bool false) = .returned (.bool true) ∧ Grow W w31)) ∧
          (∃ x35_p : Option Addr, ∃ x35_n : Nat, ∃ x35_c : Nat, w23.drew.cell? ((Addr.mk n1 0 none).add 2) = some (.slice x35_p x35_n x35_c) ∧ 
            Calls Try.prog tseitin_Asked.id #[.slice p g.length c, .slice q cs.length d, .slice x27_p x27_n x27_c] w23.drew fun e w36 => ∃ r37 : Bool, e = .returned (.bool r37) ∧ 
            Calls Try.prog fathomref18_Asked.id #[.slice p g.length c, .slice q cs.length d, .slice x35_p x35_n x35_c] w36 fun e w38 => ∃ r39 : Bool, e = .returned (.bool r39) ∧ 
            cnd (r37 == r39)
            (Calls Try.prog fathomlaw18_awake.id #[] w38 fun e w40 => ∃ r41 : Bool, e = .returned (.bool r41) ∧ 
            (Ending.returned (.bool r41) = .returned (.bool true) ∧ Grow W w40))
            (Ending.returned (.bool false) = .returned (.bool true) ∧ Grow W w38))) := by
      intro w20 g20
      have G20 := G7.trans g20
      refine (refMayT_ok (h.grow G20) rfl (by omega) (hc.grow G20) rfl (by omega)).mono ?_
      rintro e w23 ⟨rfl, g23⟩
      have G23 := G20.trans g23
      refine ⟨_, rfl, cnd_i (fun _ => aw _ G23) (fun s2 => ?_)⟩
      have ht : mayT g cs = true := by simpa using s2
      have H23 : Has w23.drew n1 _ := ((H7.grow g20).grow g23).drew
      have Gd : Grow W w23.drew := G23.drew
      have fin : ∀ w28, Grow w23.drew w28 → Calls Try.prog fathomref18_Asked.id #[.slice p g.length c, .slice q cs.length d, .slice pi ins.length ci] w28 fun e w31 => ∃ r32 : Bool, e = .returned (.bool r32) ∧ 
            cnd ((mayG g && askedP g cs ins) == r32)
            (Calls Try.prog fathomlaw18_awake.id #[] w31 fun e w33 => ∃ r34 : Bool, e = .returned (.bool r34) ∧ 
            (Ending.returned (.bool r34) = .returned (.bool true) ∧ Grow W w33))
            (Ending.returned (.bool false) = .returned (.bool true) ∧ Grow W w31) := by
        intro w28 g28
        have G28 := Gd.trans g28
        refine (refAsked_ok rfl (by omega) rfl hx rfl hix s (mayT_bd ht) (h.grow G28) (hc.grow G28) (hi.grow G28)).mono ?_
        rintro e w31 ⟨rfl, g31⟩
        rw [s, Bool.true_and]
        exact ⟨_, rfl, cnd_t (beq_self_eq_true _) (aw _ (G28.trans g31))⟩
      refine ⟨_, _, _, cell_add H23 rfl, ?_, _, _, _, cell_add H23 rfl, ?_⟩
      · refine (tsAsked_ok rfl (by omega) (h.grow Gd) (hc.grow Gd) rfl hx (hi.grow Gd) rfl hix (.inr ht)).mono ?_
        rintro e w28 ⟨rfl, g28⟩
        exact ⟨_, rfl, _, _, _, cell_add (H23.grow g28) rfl, fin w28 g28⟩
      · refine (tsAsked_ok rfl (by omega) (h.grow Gd) (hc.grow Gd) rfl hx (hi.grow Gd) rfl hix (.inr ht)).mono ?_
        rintro e w36 ⟨rfl, g36⟩
        exact ⟨_, rfl, fin w36 g36⟩
    refine ⟨_, _, _, cell_add H7 rfl, _, _, _, cell_add H7 rfl, (tsIns_ok rfl (by omega) (h.grow G7) (hv.grow G7) rfl (hm.grow G7) rfl hmx).mono ?_⟩
    rintro e w20 ⟨⟨_, hvl, po, co, rfl, O⟩ | ⟨hno, rfl⟩, g20⟩
    · have G20 := G7.trans g20
      have hil : (insP g v m g.length).length ≤ 12 := by rw [insP_len]; have := cntIn_le g g.length; omega
      refine ⟨_, _, _, rfl, _, _, _, cell_add (H7.grow g20) rfl, cnd_f (by rw [hvl]; exact bne_self_eq_false _) ⟨_, _, _, cell_add (H7.grow g20) rfl, _, _, _, cell_add (H7.grow g20) rfl, (refIns_ok rfl (by omega) (h.grow G20) (hv.grow G20) rfl hvl (hm.grow G20) rfl hmx).mono ?_⟩⟩
      rintro e w44 ⟨⟨p2, c2, rfl, O2⟩, g44⟩
      have O1 := O.grow g44
      refine ⟨_, _, _, rfl, cnd_f (bne_self_eq_false _) ⟨fun vv w' z => ∃ t : Nat, vv = t ∧ t ≤ (insP g v m g.length).length ∧ Grow w44 w' ∧ z + t = (insP g v m g.length).length, ⟨_, 0, rfl, Nat.zero_le _, Mod.refl _, rfl⟩, ?_⟩⟩
      rintro vv w50 z _ ⟨t, rfl, htt, G, hz⟩
      refine cnd_i (fun s2 => ?_) (fun s2 => rest w50 ((g20.trans g44).trans G))
      simp only [decide_eq_true_eq] at s2
      refine (O1.grow G).drew.ix false (by omega) rfl s2 fun a e => ⟨_, e, (O2.grow G).drew.ix false (by omega) rfl s2 fun a e => ⟨_, e, cnd_f (by simp) ⟨z - 1, by omega, t + 1, by rw [wrap64_of (by omega) (by omega)]; omega, by omega, G.drew, by omega⟩⟩⟩
    · have hvl : ¬ v.length = g.length := fun e => hno ⟨s, e⟩
      refine ⟨_, _, _, rfl, _, _, _, cell_add (H7.grow g20) rfl, cnd_t (by simp; omega) (cnd_f rfl (rest w20 g20))⟩

theorem sl_rdv {w : World} {s : Sh} {cs : List Value} (h : Rd w (.sl s) cs) : ∃ u, cs = [u] ∧ RdV w (.sl s) u := by
  rcases h with rfl | ⟨a', len', cap', rfl, g⟩
  · exact ⟨_, rfl, .inl rfl⟩
  · exact ⟨_, rfl, .inr ⟨a', len', cap', rfl, g⟩⟩

theorem TseitinReads_law (v0 v1 v2 : Value) (W : World) (h0 : RdV W (.sl (.cons (.int .i64) (.cons (.int .i64) .nil))) v0) (h1 : RdV W (.sl (.sl (.int .i64))) v1) (h2 : RdV W (.cons (.sl (.int .i64)) (.cons (.sl (.int .i64)) (.cons (.sl .bool) .nil))) v2) : Calls Try.prog fathomlaw18_TseitinReads.id #[v0, v1, v2] W fun e W' => e = .returned (.bool true) ∧ Grow W W' := by
  obtain ⟨p, n, c, g, rfl, rfl, hn, hg⟩ := gates_of_rd h0
  obtain ⟨q, m, d, hs, cs, rfl, rfl, hm1, hm2, hc⟩ := rows_of_rd (fun v => ints_of_rd') h1
  obtain ⟨cells, rfl, _, _, rfl, ha, _, _, rfl, hb, _, _, rfl, hd, rfl⟩ := h2
  obtain ⟨u, rfl, hu⟩ := sl_rdv ha
  obtain ⟨u2, rfl, hu2⟩ := sl_rdv hb
  obtain ⟨u3, rfl, hu3⟩ := sl_rdv hd
  obtain ⟨pv, nv, cv, v, rfl, rfl, _, _, hv⟩ := ints_of_rd' hu
  obtain ⟨pm, nm, cm, mm, rfl, rfl, hm3, hm4, hm⟩ := ints_of_rd' hu2
  obtain ⟨pi, ni, ci, ins, rfl, rfl, hi1, hi2, hi⟩ := bools_of_rd hu3
  exact TseitinReads_calls hg hc (Nat.le_trans hm1 hm2) hv hm (Nat.le_trans hm3 hm4) hi (Nat.le_trans hi1 hi2)
end Go.Proofs.Ytambabpklfeaoaa.W
