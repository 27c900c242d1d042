/- Layer 18: inputs of a model; the law of meaning. -/
import Derived.Test.YtambabpklfeaoaaTs9
import Derived.Test.YtambabpklfeaoaaTsMean
namespace Go.Proofs.Ytambabpklfeaoaa.W
open Go Go.Fw Go.RowKit Go.TsP

theorem tsIns_ok {w : World} {p q r : Option Addr} {g : List (Int × Int)} {n c k b : Nat} {k0 : Int} {p1 : Option Addr} {n1 c1 nv cv : Nat} {v m : List Int} (hn : n = g.length) (hg : n ≤ 4194304) (h : Vr 2 gateV w p g) (hv : Vw (Value.int .i64) w q v) (hnv : nv = v.length) (hm : Vw (Value.int .i64) w r m) (hk : k = m.length) (hkx : k ≤ maxLen) :
    Calls Try.prog tseitin_Ins.id #[.slice p n c, .agg #[.int .i64 k0, .slice p1 n1 c1, .slice q nv cv], .slice r k b] w fun e w' => ((mayG g = true ∧ v.length = g.length ∧ ∃ po co, e = .returned (.slice po (insP g v m g.length).length co) ∧ OwB ty_bool w' po co (insP g v m g.length)) ∨ (¬ (mayG g = true ∧ v.length = g.length) ∧ e = .returned (.slice none 0 0))) ∧ Grow w w' := by
  subst hn hnv
  refine tseitin_Ins.calls ?_
  intro n1 w2 h2
  have H := h2.has
  refine (aigCheck_ok (h.grow h2.mod) rfl (by unfold maxLen; omega)).mono ?_
  rintro e w3 ⟨rfl, g3⟩
  have G3 := h2.mod.trans g3
  refine ⟨_, rfl, cnd_i (fun s => ?_) (fun s => ?_)⟩
  · refine ⟨.inr ⟨fun hh => ?_, rfl⟩, G3⟩
    rw [hh.1] at s; simp at s
  have hgm : mayG g = true := by
    cases hh : mayG g with
    | true => rfl
    | false => rw [hh] at s; simp at s
  have H3 := H.grow g3
  refine ⟨_, _, _, cell_add H3 rfl, cnd_i (fun s2 => ?_) (fun s2 => ?_)⟩
  · refine ⟨.inr ⟨fun hh => ?_, rfl⟩, G3⟩
    rw [hh.2] at s2; simp at s2
  have hvl : v.length = g.length := by
    have : (v.length : Int) = g.length := by simpa using s2
    omega
  refine ⟨fun po no co vv w' z => ∃ t : Nat, no = (insP g v m t).length ∧ vv = t ∧ t ≤ g.length ∧ OwB ty_bool w' po co (insP g v m t) ∧ (∀ j, blk po = some j → w3.heap.size ≤ j) ∧ Grow w3 w' ∧ z + t = g.length, ⟨_, 0, rfl, rfl, Nat.zero_le _, Ow.nil _ _ _, by simp [blk], Mod.refl _, rfl⟩, ?_⟩
  rintro po no co vv w11 z _ ⟨t, rfl, rfl, ht, O, fr, G, hz⟩
  have G11 := G3.trans G
  refine cnd_i (fun s3 => ?_) (fun s3 => ?_) <;> simp only [decide_eq_true_eq, decide_eq_false_iff_not] at s3
  · have ht' : t < g.length := by omega
    have is_ := insP_succ g v m t
    have ev : IntKind.i64.wrap ((t : Int) + 1) = ((t + 1 : Nat) : Int) := by rw [wrap64_of (by omega) (by omega)]; omega
    rw [ev]
    refine gIx (h.grow G11) rfl ht' fun a x0 x1 => ⟨_, _, ⟨x0, x1, trivial⟩, ?_⟩
    generalize hx : g.getD t (0, 0) = x at *
    obtain ⟨A, B⟩ := x
    intro n15 w16 h15
    refine store_i h15.has rfl rfl fun w17 h17 m17 => ?_
    have g17 : Grow w11 w17 := h15.mod.fresh m17 (by have := h15.num; omega)
    have h17 : Has w17 n15 #[.int .i64 A, .int .i64 B] := h17
    refine ⟨_, _, ⟨cell_add h17 rfl, cell_add h17 rfl, trivial⟩, (tsAnd_ok A B w17).mono ?_⟩
    rintro e w20 ⟨rfl, g20⟩
    have g20' := g17.trans g20
    have hlen := insP_len g v m t
    have hcl := cntIn_le g t
    refine ⟨_, rfl, cnd_i (fun s4 => ?_) (fun s4 => ?_)⟩ <;> simp only [Bool.not_eq_true', Bool.not_eq_false', decide_eq_true_eq, decide_eq_false_iff_not, ge_iff_le] at s4
    · have hA : A < 0 := by omega
      rw [if_pos (show (A, B).1 < 0 from hA)] at is_
      refine ⟨_, _, _, cell_add ((H3.grow G).grow g20') rfl, (hv.grow (G11.trans g20')).ix 0 (by omega) rfl (by omega) fun a e => ⟨_, e, (litValue_ok (hm.grow (G11.trans g20')) hk hkx _).mono ?_⟩⟩
      rw [Int.toNat_natCast]
      rintro e w25 ⟨rfl, g25⟩
      refine ⟨_, rfl, ?_⟩
      intro n27 w28 h27
      have G28 := ((G.trans g20').trans g25).trans h27.mod
      refine (((O.grow g20').grow g25).grow h27.mod).app1 ts_sl_bool _ h27.has rfl rfl oneBool (by omega) fun w29 p29 c29 O29 m29 hp z29 => ⟨z - 1, by omega, t + 1, by rw [is_]; simp, rfl, ht', by rw [is_]; exact O29, fun j hj => ?_, G28.then m29 fun j hj e => by have := fr j e; omega, by omega⟩
      rcases hp with h1 | h1 <;> rw [h1] at hj
      · exact fr j hj
      · have := blk_some hj; have := G28.size; omega
    · rw [if_neg (show ¬ (A, B).1 < 0 from by simp only; omega), List.append_nil] at is_
      exact ⟨z - 1, by omega, t + 1, by rw [is_], rfl, ht', by rw [is_]; exact O.grow g20', fr, G.trans g20', by omega⟩
  · have : t = g.length := by omega
    subst this
    exact ⟨.inl ⟨hgm, hvl, po, co, rfl, O⟩, G11⟩

theorem mayT_bd {g : List (Int × Int)} {cs : List (List Int)} (h : mayT g cs = true) : ∀ t, t < cs.length → ∀ l ∈ cs.getD t [], -1073741824 ≤ l ∧ l ≤ 2 * g.length + 1 := by
  intro t ht l hl
  obtain ⟨j, hj⟩ := List.getElem?_of_mem hl
  have hjl := (List.getElem?_eq_some_iff.1 hj).1
  have := mayT_l h ht hjl
  rw [show (cs.getD t []).getD j 0 = l by simp only [List.getD_eq_getElem?_getD] at hj ⊢; rw [hj]; rfl] at this
  exact ⟨by omega, this.2⟩

theorem TseitinMeans_calls {W : World} {p q : Option Addr} {g : List (Int × Int)} {c d : Nat} {hs : List Sl} {cs : List (List Int)} {m : Int} (hm0 : 0 ≤ m ∧ m < 65536) (h : Vr 2 gateV W p g) (hc : V2 (Value.int .i64) W q hs cs) (hx : cs.length ≤ maxLen) :
    Calls Try.prog fathomlaw18_TseitinMeans.id #[.slice p g.length c, .slice q cs.length d, .int .u16 m] W fun e W' => e = .returned (.bool true) ∧ Grow W W' := by
  refine fathomlaw18_TseitinMeans.calls ?_
  refine (light18_ok rfl rfl hx hc).mono ?_
  rintro e w1 ⟨⟨r, rfl, hl⟩, g1⟩
  refine ⟨_, rfl, cnd_i (fun _ => (awake18 g1).mono ?_) (fun t => ?_)⟩
  · rintro e w3 ⟨rfl, g3⟩
    exact ⟨_, rfl, rfl, g3⟩
  obtain ⟨hg, hcl, _⟩ := hl (by simpa using t)
  refine (refMayT_ok (h.grow g1) rfl (by omega) (hc.grow g1) rfl (by omega)).mono ?_
  rintro e w5 ⟨rfl, g5⟩
  have G5 := g1.trans g5
  refine ⟨_, rfl, cnd_i (fun _ => (awake18 G5).mono ?_) (fun t => ?_)⟩
  · rintro e w7 ⟨rfl, g7⟩
    exact ⟨_, rfl, rfl, g7⟩
  have ht : mayT g cs = true := by simpa using t
  refine (build_ok rfl (by omega) rfl (by omega) (h.grow G5) (hc.grow G5)).mono ?_
  rintro e w9 ⟨⟨hf, _⟩ | ⟨_, pc, cc, pv, cv, rfl, C⟩, g9⟩
  · rw [hf] at ht; cases ht
  have G9 := G5.trans g9
  refine ⟨_, _, _, _, _, _, _, _, rfl, ?_⟩
  intro n14 w15 h15
  refine store_i h15.has rfl rfl fun w16 h16 m16 => ?_
  have g16 : Grow w9 w16 := h15.mod.fresh m16 (by have := h15.num; omega)
  have G16 := G9.trans g16
  have H16 : Has w16 n14 #[.int .i64 (tK g cs), .slice pc (tC g cs).length cc, .slice pv (tV g cs).length cv] := h16
  have C16 := C.grow g16
  have hvl : (tV g cs).length = g.length := vs_len _ _
  have hcn := cnt_le (inP g cs) g.length
  have hgm := mayT_g ht
  have hK : tK g cs ≤ g.length := by unfold tK; omega
  refine cnd_f rfl ⟨_, _, _, cell_add H16 rfl, cnd_f (by rw [hvl]; exact bne_self_eq_false _) ⟨_, cell_add2 H16 rfl, cnd_f (decide_eq_false (by omega)) ⟨_, cell_add2 H16 rfl, ?_⟩⟩⟩
  have em : IntKind.i64.wrap m = ((m.toNat : Nat) : Int) := by rw [wrap64_of (by omega) (by omega)]; omega
  rw [em]
  refine (refModel_ok (k := cnt (inP g cs) g.length) (n := m.toNat) (by omega) (by omega) w16).mono ?_
  rintro e w20 ⟨⟨pm, cm, rfl, OM, _⟩, g20⟩
  have hml := modelP_len (cnt (inP g cs) g.length) m.toNat
  have hmb := modelP_bd (cnt (inP g cs) g.length) m.toNat
  generalize modelP (cnt (inP g cs) g.length) m.toNat = M at *
  have H20 := H16.grow g20
  have C20 := C16.grow g20
  have G20 := G16.trans g20
  refine ⟨_, _, _, rfl, _, _, _, _, _, _, _, cells3 H20, (tsIns_ok rfl (by omega) (h.grow G20) C20.v rfl OM.vw hml.symm (by unfold maxLen; omega)).mono ?_⟩
  rintro e w25 ⟨⟨_, _, po, co, rfl, OI⟩ | ⟨hno, _⟩, g25⟩
  rotate_left
  · exact absurd ⟨hgm, hvl⟩ hno
  have G25 := G20.trans g25
  have hil : (insP g (tV g cs) M g.length).length ≤ 12 := by rw [insP_len]; have := cntIn_le g g.length; omega
  refine ⟨_, _, _, rfl, (refAsked_ok rfl (by omega) rfl (by unfold maxLen; omega) rfl (by unfold maxLen; omega) hgm (mayT_bd ht) (h.grow G25) (hc.grow G25) OI.vw).mono ?_⟩
  rintro e w27 ⟨rfl, g27⟩
  have g27' := g25.trans g27
  have H27 := H20.grow g27'
  have C27 := C20.grow g27'
  have G27 := G25.trans g27
  have OM27 := OM.grow g27'
  have OI27 := OI.grow g27
  have key := means ht (by omega) hml hmb
  refine ⟨_, rfl, ?_⟩
  refine ⟨fun f v w' z => ∃ t : Nat, v = t ∧ t ≤ g.length ∧ (f = true ↔ askedP g cs (insP g (tV g cs) M g.length) = true ∧ ∀ i, i < t → inP g cs (i + 1) = true → tvP (tV g cs) M i = truth g (insP g (tV g cs) M g.length) (2 * i + 2)) ∧ Grow w27 w' ∧ z + t = g.length,
    ⟨_, 0, rfl, Nat.zero_le _, ⟨fun h => ⟨h, fun i hi => by omega⟩, fun h => h.1⟩, Mod.refl _, rfl⟩, ?_⟩
  rintro f v w34 z _ ⟨t, rfl, htt, hf, G, hz⟩
  refine cnd_i (fun s => ?_) (fun s => ?_) <;> simp only [decide_eq_true_eq, decide_eq_false_iff_not] at s
  · have ht' : t < g.length := by omega
    have ev : IntKind.i64.wrap ((t : Int) + 1) = ((t + 1 : Nat) : Int) := by rw [wrap64_of (by omega) (by omega)]; omega
    have l1 : IntKind.i64.wrap (2 * (t : Int)) = 2 * (t : Int) := wrap64_of (by omega) (by omega)
    have l2 : IntKind.i64.wrap (2 * (t : Int) + 2) = 2 * (t : Int) + 2 := wrap64_of (by omega) (by omega)
    rw [ev, l1, l2]
    have hvt := vs_get (inP g cs) ht'
    have step : ∀ (f' : Bool), (f' = true ↔ f = true ∧ (inP g cs (t + 1) = true → tvP (tV g cs) M t = truth g (insP g (tV g cs) M g.length) (2 * t + 2))) → (f' = true ↔ askedP g cs (insP g (tV g cs) M g.length) = true ∧ ∀ i, i < t + 1 → inP g cs (i + 1) = true → tvP (tV g cs) M i = truth g (insP g (tV g cs) M g.length) (2 * i + 2)) := by
      intro f' hf'
      rw [hf', hf]
      constructor
      · rintro ⟨⟨h1, h2⟩, h3⟩
        refine ⟨h1, fun i hi => ?_⟩
        by_cases e : i < t
        · exact h2 i e
        · have : i = t := by omega
          subst this; exact h3
      · rintro ⟨h1, h2⟩
        exact ⟨⟨h1, fun i hi => h2 i (by omega)⟩, h2 t (by omega)⟩
    refine ⟨_, _, _, cell_add (H27.grow G) rfl, (C27.v.grow G).ix 0 (by omega) rfl (by rw [hvl]; exact s) fun a e => ⟨_, e, ?_⟩⟩
    rw [Int.toNat_natCast]
    refine cnd_i (fun s2 => ?_) (fun s2 => ?_) <;> simp only [decide_eq_true_eq, decide_eq_false_iff_not] at s2
    · have hP : inP g cs (t + 1) = true := by
        cases hh : inP g cs (t + 1) with
        | true => rfl
        | false => rw [hh] at hvt; rw [hvt] at s2; simp at s2
      refine ⟨_, _, _, cell_add (H27.grow G) rfl, (C27.v.grow G).ix 0 (by omega) rfl (by rw [hvl]; exact s) fun a e => ⟨_, e, (refValue_ok (OM27.grow G).vw hml.symm (by unfold maxLen; omega) _).mono ?_⟩⟩
      rw [Int.toNat_natCast]
      rintro e w41 ⟨rfl, g41⟩
      have g41' := G.trans g41
      refine ⟨_, rfl, (refTrue_ok rfl (by omega) rfl (by unfold maxLen; omega) hgm 30 w41 (2 * (t : Int) + 2) (by omega) (by omega) (by omega) (h.grow (G27.trans g41')) (OI27.grow g41').vw).mono ?_⟩
      rintro e w43 ⟨rfl, g43⟩
      have etv : (valP M ((tV g cs).getD t 0) == 1) = tvP (tV g cs) M t := by
        unfold tvP
        rw [Bool.eq_iff_iff]; simp
      rw [etv]
      refine ⟨_, rfl, cnd_i (fun s3 => ?_) (fun s3 => ?_)⟩ <;> simp only [Bool.not_eq_true', Bool.not_eq_false', beq_iff_eq, beq_eq_false_iff_ne] at s3
      · refine ⟨z - 1, by omega, t + 1, rfl, ht', step _ ⟨fun h => (by cases h), fun h => absurd (h.2 hP) s3⟩, g41'.trans g43, by omega⟩
      · refine ⟨z - 1, by omega, t + 1, rfl, ht', step _ ⟨fun h => ⟨h, fun _ => s3⟩, fun h => h.1⟩, g41'.trans g43, by omega⟩
    · have hP : ¬ inP g cs (t + 1) = true := fun hh => by
        have := cnt_pos (inP g cs) hh
        rw [hh, if_pos rfl] at hvt
        rw [hvt] at s2
        omega
      exact ⟨z - 1, by omega, t + 1, rfl, ht', step _ ⟨fun h => ⟨h, fun hh => absurd hh hP⟩, fun h => h.1⟩, G, by omega⟩
  · have : t = g.length := by omega
    subst this
    have e0 : (Addr.mk n14 0 none).add 0 = ⟨n14, 0, none⟩ := by rw [add_at]
    obtain ⟨hs1, V1⟩ := (C27.grow G).c
    have hal : (tC g cs).length ≤ 48 := by
      refine Nat.le_trans (outC_len _ _) ?_
      unfold allC
      rw [List.length_append]
      have := gcl_len g (inP g cs) g.length
      omega
    refine ⟨_, _, _, _, by rw [e0]; exact ⟨cell_add (H27.grow G) rfl, cell_add (H27.grow G) rfl, trivial⟩, (refHolds_ok V1 rfl (by unfold maxLen; omega) (OM27.grow G).vw hml.symm (by unfold maxLen; omega)).mono ?_⟩
    rintro e w47 ⟨rfl, g47⟩
    refine ⟨_, rfl, cnd_t ?_ ((awake18 ((G27.trans G).trans g47)).mono ?_)⟩
    · rw [beq_iff_eq]
      exact Bool.eq_iff_iff.2 (key.trans hf.symm)
    · rintro e w49 ⟨rfl, g49⟩
      exact ⟨_, rfl, rfl, g49⟩

theorem TseitinMeans_law (v0 v1 v2 : Value) (W : World) (h0 : RdV W (.sl (.cons (.int .i64) (.cons (.int .i64) .nil))) v0) (h1 : RdV W (.sl (.sl (.int .i64))) v1) (h2 : RdV W (.int .u16) v2) : Calls Try.prog fathomlaw18_TseitinMeans.id #[v0, v1, v2] W fun e W' => e = .returned (.bool true) ∧ Grow W W' := by
  obtain ⟨p, n, c, g, rfl, rfl, hn, hg⟩ := gates_of_rd h0
  obtain ⟨q, m, d, hs, cs, rfl, rfl, hm1, hm2, hc⟩ := rows_of_rd (fun v => ints_of_rd') h1
  obtain ⟨k, rfl, hk⟩ := h2
  refine TseitinMeans_calls ?_ hg hc (Nat.le_trans hm1 hm2)
  simp [Lit.wf, IntKind.min, IntKind.max, IntKind.signed, IntKind.bits] at hk
  omega
end Go.Proofs.Ytambabpklfeaoaa.W
