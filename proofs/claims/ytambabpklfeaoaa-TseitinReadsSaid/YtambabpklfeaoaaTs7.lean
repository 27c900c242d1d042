/- Layer 18: the walk of Build. -/
import Derived.Test.YtambabpklfeaoaaTs6
namespace Go.Proofs.Ytambabpklfeaoaa.W
open Go Go.Fw Go.RowKit Go.TsP

/-- A formula of nodes and clauses, told. -/
structure Coded (w : World) (pc : Option Addr) (cl : List (List Int)) (pv : Option Addr) (v : List Int) : Prop where
  c : ∃ hs, V2 (Value.int .i64) w pc hs cl
  v : Vw (Value.int .i64) w pv v
theorem Coded.grow {w w' : World} {pc pv : Option Addr} {cl : List (List Int)} {v : List Int} (h : Coded w pc cl pv v) (g : Grow w w') : Coded w' pc cl pv v := by
  obtain ⟨⟨hs, h1⟩, h2⟩ := h
  exact ⟨⟨hs, h1.grow g⟩, h2.grow g⟩

noncomputable abbrev tV (g : List (Int × Int)) (cs : List (List Int)) : List Int := vs (inP g cs) g.length
noncomputable abbrev tK (g : List (Int × Int)) (cs : List (List Int)) : Int := (cnt (inP g cs) g.length : Nat)
noncomputable abbrev tC (g : List (Int × Int)) (cs : List (List Int)) : List (List Int) := outC (tV g cs) (allC g cs (inP g cs))

theorem build_ok {w : World} {p q : Option Addr} {g : List (Int × Int)} {n c m d : Nat} {hs : List Sl} {cs : List (List Int)} (hn : n = g.length) (hg : n ≤ 4096) (hm : m = cs.length) (hx : m ≤ 4096) (h : Vr 2 gateV w p g) (hc : V2 (Value.int .i64) w q hs cs) :
    Calls Try.prog tseitin_Build.id #[.slice p n c, .slice q m d] w fun e w' => ((mayT g cs = false ∧ e = .returned (.tuple #[.agg #[.int .i64 0, .slice none 0 0, .slice none 0 0], .int .i64 1])) ∨
      (mayT g cs = true ∧ ∃ pc cc pv cv, e = .returned (.tuple #[.agg #[.int .i64 (tK g cs), .slice pc (tC g cs).length cc, .slice pv (tV g cs).length cv], .int .i64 0]) ∧ Coded w' pc (tC g cs) pv (tV g cs))) ∧ Grow w w' := by
  subst hn hm
  refine tseitin_Build.calls ?_
  intro n1 w2 h2
  have H1 := h2.has
  have e1 := h2.num
  have z2 := New.size h2
  refine (tsMay_ok (h.grow h2.mod) rfl (by omega) (hc.grow h2.mod) rfl (by omega)).mono ?_
  rintro e w3 ⟨rfl, g3⟩
  have G3 := h2.mod.trans g3
  have z3 := g3.size
  refine ⟨_, rfl, cnd_i (fun s => ?_) (fun s => ?_)⟩ <;> simp only [Bool.not_eq_true', Bool.not_eq_false'] at s
  · refine store_i (H1.grow g3) rfl rfl fun w5 h5 m5 => ⟨_, _, _, _, _, _, _, cells3 h5, .inl ⟨s, rfl⟩, G3.then m5 fun k hk e => by omega⟩
  refine (cone_ok rfl (by omega) rfl (by omega) s (h.grow G3) (hc.grow G3)).mono ?_
  rintro e w9 ⟨⟨r, cr, inn, rfl, O, hil, hin⟩, g9⟩
  have G9 := G3.trans g9
  have z9 := g9.size
  have hinn : ∀ k, k ≤ g.length → inn.getD k false = inP g cs k := fun k hk => by
    exact Bool.eq_iff_iff.2 ((hin k hk).trans inP_iff.symm)
  refine ⟨_, _, _, rfl, ?_⟩
  intro n11 w12 h12
  have e12 := h12.num
  have B0 : BRep w12 n11 ⟨0, none, 0, [], [], none, 0, []⟩ := ⟨h12.has, OV.nil, Ow.nil _ _ _, (by rintro (e | ⟨s, hs, _⟩) <;> simp [blk] at *), (by simp [blk]), (by simp [blk])⟩
  have F0 : ∀ k, Bd.foot ⟨0, none, 0, [], [], none, 0, []⟩ n11 k → w9.heap.size ≤ k := by
    rintro k (rfl | (e | ⟨s, hs, _⟩) | e)
    · omega
    · simp [blk] at e
    · simp at hs
    · simp [blk] at e
  refine ⟨fun v w' z => ∃ (t : Nat) (x : Bd), v = t ∧ t ≤ g.length ∧ BRep w' n11 x ∧ x.k = cnt (inP g cs) t ∧ x.v = vs (inP g cs) t ∧ x.cl = [] ∧ (∀ k, x.foot n11 k → w9.heap.size ≤ k) ∧ Grow w9 w' ∧ z + t = g.length,
    ⟨_, 0, _, rfl, Nat.zero_le _, B0, rfl, rfl, rfl, F0, h12.mod, rfl⟩, ?_⟩
  clear B0 F0
  rintro v w17 z _ ⟨t, x, rfl, ht, B, xk, xv, xc, F, G, hz⟩
  have O17 := O.grow G
  refine cnd_i (fun q1 => ?_) (fun q1 => ?_) <;> simp only [decide_eq_true_eq, decide_eq_false_iff_not] at q1
  · have ht' : t < g.length := by omega
    have ew : IntKind.i64.wrap ((t : Int) + 1) = ((t + 1 : Nat) : Int) := by rw [wrap64_of (by omega) (by omega)]; omega
    have hxl : x.v.length = t := by rw [xv, vs_len]
    have hcl := cnt_le (inP g cs) t
    rw [ew]
    refine O17.ix false (by omega) hil.symm (by omega) fun a e => ⟨_, e, ?_⟩
    rw [Int.toNat_natCast, hinn (t + 1) (by omega)]
    refine cnd_i (fun q2 => ?_) (fun q2 => ?_)
    · have ek : IntKind.i64.wrap (x.k + 1) = ((cnt (inP g cs) (t + 1) : Nat) : Int) := by
        rw [xk, wrap64_of (by omega) (by omega)]
        rw [cnt_succ, if_pos q2]; omega
      refine ⟨_, rfl, _, cell_add3 B.me rfl, _, rfl, store_f3 B.me rfl rfl fun w23 h23 m23 => ?_⟩
      have B2 : BRep w23 n11 { x with k := IntKind.i64.wrap (x.k + 1) } := B.setK h23 m23
      have G23 : Grow w9 w23 := G.then m23 fun k hk e => by have := F n11 (.inl rfl); omega
      refine ⟨_, rfl, _, cell_add3 B2.me rfl, _, rfl, _, _, _, cell_add2 B2.me rfl, ?_⟩
      refine pushVar B2 F G23 _ (by simp only; omega) fun w' x' B' k' c' v' F' G' => ⟨z - 1, by omega, t + 1, x', rfl, ht', B', ?_, ?_, by rw [c']; exact xc, F', G', by omega⟩
      · rw [k']; exact ek
      · rw [v', vs_succ, if_pos q2, ← xv]; simp only; rw [ek]
    · refine ⟨_, rfl, _, _, _, cell_add2 B.me rfl, ?_⟩
      refine pushVar B F G _ (by omega) fun w' x' B' k' c' v' F' G' => ⟨z - 1, by omega, t + 1, x', rfl, ht', B', ?_, ?_, by rw [c']; exact xc, F', G', by omega⟩
      · rw [k', xk, cnt_succ, q2]; rfl
      · rw [v', vs_succ, q2, ← xv]; rfl
  have et : t = g.length := by omega
  subst et
  have sm := vs_small (inP g cs) (n := g.length) (by omega)
  have hcn := cnt_le (inP g cs) g.length
  have hgm := mayT_g s
  have hgl := gcl_len g (inP g cs)
  -- the clauses of gates
  refine ⟨fun v w' z => ∃ (t : Nat) (x : Bd), v = t ∧ t ≤ g.length ∧ BRep w' n11 x ∧ x.k = tK g cs ∧ x.v = tV g cs ∧ x.cl = outC (tV g cs) (gcls g (inP g cs) t) ∧ (∀ k, x.foot n11 k → w9.heap.size ≤ k) ∧ Grow w9 w' ∧ z + t = g.length,
    ⟨_, 0, x, rfl, Nat.zero_le _, B, xk, xv, by rw [xc]; rfl, F, G, rfl⟩, ?_⟩
  clear B xk xv xc F G O17 hz
  rintro v w46 z _ ⟨t, x, rfl, ht, B, xk, xv, xc, F, G, hz⟩
  refine cnd_i (fun q1 => ?_) (fun q1 => ?_) <;> simp only [decide_eq_true_eq, decide_eq_false_iff_not] at q1
  · have ht' : t < g.length := by omega
    have ew : IntKind.i64.wrap ((t : Int) + 1) = ((t + 1 : Nat) : Int) := by rw [wrap64_of (by omega) (by omega)]; omega
    rw [ew]
    have hok := mayG_at hgm ht'
    refine gIx (h.grow (G9.trans G)) rfl ht' fun a x0 x1 => ⟨_, _, ⟨x0, x1, trivial⟩, ?_⟩
    intro n50 w51 h51
    have e51 := h51.num
    have z51 := New.size h51
    refine store_i h51.has rfl rfl fun w52 h52 m52 => ?_
    have g52 : Grow w46 w52 := h51.mod.fresh m52 (by omega)
    have G52 := G.trans g52
    have z52 := g52.size
    have hlt := B.lt
    have gs := gcls_succ g (inP g cs) t
    generalize hgt : g.getD t (0, 0) = gt at *
    obtain ⟨A, C⟩ := gt
    have h52 : Has w52 n50 #[.int .i64 A, .int .i64 C] := h52
    have same : ∀ w', Grow w46 w' → gcl g (inP g cs) t = [] → ∃ k44 : Nat, k44 < z ∧ ∃ (t' : Nat) (x : Bd), ((t + 1 : Nat) : Int) = t' ∧ t' ≤ g.length ∧ BRep w' n11 x ∧ x.k = tK g cs ∧ x.v = tV g cs ∧ x.cl = outC (tV g cs) (gcls g (inP g cs) t') ∧ (∀ k, x.foot n11 k → w9.heap.size ≤ k) ∧ Grow w9 w' ∧ k44 + t' = g.length := fun w' gg hno =>
      ⟨z - 1, by omega, t + 1, x, rfl, ht', B.grow gg, xk, xv, by rw [gs, hno, List.append_nil]; exact xc, F, G.trans gg, by omega⟩
    refine (O.grow G52).ix false (by omega) hil.symm (by omega) fun a e => ⟨_, e, ?_⟩
    rw [Int.toNat_natCast, hinn (t + 1) (by omega)]
    refine cnd_i (fun q2 => same _ g52 ?_) (fun q2 => ⟨_, _, ⟨cell_add h52 rfl, cell_add h52 rfl, trivial⟩, (tsAnd_ok A C w52).mono ?_⟩) <;> simp only [Bool.not_eq_true', Bool.not_eq_false'] at q2
    · unfold gcl; rw [q2]; simp
    rintro e w57 ⟨rfl, g57⟩
    refine ⟨_, rfl, cnd_i (fun q3 => same _ (g52.trans g57) ?_) (fun q3 => ?_)⟩ <;> simp only [Bool.not_eq_true', Bool.not_eq_false', decide_eq_true_eq, decide_eq_false_iff_not, ge_iff_le] at q3
    · unfold gcl; rw [hgt, if_neg (fun hh => q3 hh.2)]
    have hb := okG_and hok q3
    simp only at hb
    have gc : gcl g (inP g cs) t = [[2 * (t : Int) + 3, A], [2 * (t : Int) + 3, C], [2 * (t : Int) + 2, flipL A, flipL C]] := by
      unfold gcl; rw [hgt, if_pos ⟨q2, q3⟩]
    have l2 : IntKind.i64.wrap (2 * ((t + 1 : Nat) : Int)) = 2 * (t : Int) + 2 := by rw [wrap64_of (by omega) (by omega)]; omega
    have f1 : flip (2 * (t : Int) + 2) = 2 * (t : Int) + 3 := by unfold flip; rw [if_pos (by omega)]; omega
    have fl : ∀ y, flip y = flipL y := fun _ => rfl
    rw [l2, xor1 (by omega) (by omega), f1]
    have G57 := G52.trans g57
    have h57 := h52.grow g57
    have B57 := B.grow (g52.trans g57)
    have z57 := g57.size
    have hcl0 : x.cl.length ≤ 3 * t := by rw [xc]; exact Nat.le_trans (outC_len _ _) (hgl t)
    refine ⟨_, cell_add h57 rfl, ?_⟩
    intro n60 w61 h61
    have L1 : OwI ty_int w61 (some ⟨n60, 0, none⟩) 2 [2 * (t : Int) + 3, A] := Ow.of_some h61.at (Nat.le_refl _) (by unfold maxLen; omega) rfl rfl
    refine (add_ok (B57.grow h61.mod) (by rw [xv]; exact sm) (by omega) L1.vw rfl (fun y hy => by simp at hy; rcases hy with rfl | rfl <;> omega) (by simp)).mono ?_
    rintro e w62 ⟨rfl, x2, B2, k2, v2, c2, f2, m2⟩
    have G62 : Grow w9 w62 := (G57.trans h61.mod).then m2 fun k hk e => by have := F k e; omega
    have F2 : ∀ k, x2.foot n11 k → w9.heap.size ≤ k := fun k hk => by
      rcases f2 k hk with e | e
      · exact F k e
      · have := (G57.trans h61.mod).size; omega
    have n50f : ¬ x.foot n11 n50 := fun e => by have := hlt n50 e; omega
    have h62 := (h57.old h61).keep m2 n50f
    refine ⟨rfl, _, cell_add h62 rfl, ?_⟩
    intro n64 w65 h65
    have L2 : OwI ty_int w65 (some ⟨n64, 0, none⟩) 2 [2 * (t : Int) + 3, C] := Ow.of_some h65.at (Nat.le_refl _) (by unfold maxLen; omega) rfl rfl
    have hcl1 : x2.cl.length ≤ 3 * t + 1 := by
      rw [c2, List.length_append]
      have : (clP x.v [2 * (t : Int) + 3, A]).toList.length ≤ 1 := by cases clP x.v [2 * (t : Int) + 3, A] <;> simp
      omega
    refine (add_ok (B2.grow h65.mod) (by rw [v2, xv]; exact sm) (by omega) L2.vw rfl (fun y hy => by simp at hy; rcases hy with rfl | rfl <;> omega) (by simp)).mono ?_
    rintro e w66 ⟨rfl, x3, B3, k3, v3, c3, f3, m3⟩
    have G66 : Grow w9 w66 := (G62.trans h65.mod).then m3 fun k hk e => by have := F2 k e; omega
    have F3 : ∀ k, x3.foot n11 k → w9.heap.size ≤ k := fun k hk => by
      rcases f3 k hk with e | e
      · exact F2 k e
      · have := (G62.trans h65.mod).size; omega
    have n50f2 : ¬ x2.foot n11 n50 := fun e => by
      rcases f2 n50 e with e | e
      · exact n50f e
      · have := h57.lt; have := h61.mod.size; omega
    have h66 := (h62.old h65).keep m3 n50f2
    refine ⟨rfl, _, cell_add h66 rfl, _, cell_add h66 rfl, ?_⟩
    rw [xor1 q3 (by omega), xor1 hb.1 (by omega), fl, fl]
    intro n69 w70 h70
    have L3 : OwI ty_int w70 (some ⟨n69, 0, none⟩) 3 [2 * (t : Int) + 2, flipL A, flipL C] := Ow.of_some h70.at (Nat.le_refl _) (by unfold maxLen; omega) rfl rfl
    have hcl2 : x3.cl.length ≤ 3 * t + 2 := by
      rw [c3, List.length_append]
      have : (clP x2.v [2 * (t : Int) + 3, C]).toList.length ≤ 1 := by cases clP x2.v [2 * (t : Int) + 3, C] <;> simp
      omega
    have fA : 0 ≤ flipL A ∧ flipL A ≤ 2 * t + 1 := by unfold flipL; split <;> omega
    have fC : 0 ≤ flipL C ∧ flipL C ≤ 2 * t + 1 := by unfold flipL; split <;> omega
    refine (add_ok (B3.grow h70.mod) (by rw [v3, v2, xv]; exact sm) (by omega) L3.vw rfl (fun y hy => by simp at hy; rcases hy with rfl | rfl | rfl <;> omega) (by simp)).mono ?_
    rintro e w71 ⟨rfl, x4, B4, k4, v4, c4, f4, m4⟩
    refine ⟨rfl, z - 1, by omega, t + 1, x4, rfl, ht', B4, by rw [k4, k3, k2, xk], by rw [v4, v3, v2, xv], ?_, fun k hk => ?_, (G66.trans h70.mod).then m4 fun k hk e => by have := F3 k e; omega, by omega⟩
    · rw [c4, c3, c2, xc, v3, v2, xv, gs, gc, outC_app]
      rw [show ([[2 * (t : Int) + 3, A], [2 * (t : Int) + 3, C], [2 * (t : Int) + 2, flipL A, flipL C]] : List (List Int)) = [[2 * (t : Int) + 3, A]] ++ ([[2 * (t : Int) + 3, C]] ++ [[2 * (t : Int) + 2, flipL A, flipL C]]) from rfl, outC_app, outC_app, outC_one, outC_one, outC_one]
      simp only [List.append_assoc]
    · rcases f4 k hk with e | e
      · exact F3 k e
      · have := (G66.trans h70.mod).size; omega
  have et : t = g.length := by omega
  subst et
  -- the clauses that are given
  refine ⟨fun v w' z => ∃ (t : Nat) (x : Bd), v = t ∧ t ≤ cs.length ∧ BRep w' n11 x ∧ x.k = tK g cs ∧ x.v = tV g cs ∧ x.cl = outC (tV g cs) (gcls g (inP g cs) g.length ++ cs.take t) ∧ (∀ k, x.foot n11 k → w9.heap.size ≤ k) ∧ Grow w9 w' ∧ z + t = cs.length,
    ⟨_, 0, x, rfl, Nat.zero_le _, B, xk, xv, by rw [xc]; simp, F, G, rfl⟩, ?_⟩
  clear B xk xv xc F G hz
  rintro v w76 z _ ⟨t, x, rfl, ht, B, xk, xv, xc, F, G, hz⟩
  refine cnd_i (fun q1 => ?_) (fun q1 => ?_) <;> simp only [decide_eq_true_eq, decide_eq_false_iff_not] at q1
  · have ht' : t < cs.length := by omega
    have hgl' := hgl g.length
    refine rowIx (hc.grow (G9.trans G)) rfl ht' fun a sl e _ hsn hsm hv => ⟨_, _, _, e, ?_⟩
    have hcl : x.cl.length ≤ 3 * g.length + cs.length := by
      rw [xc]
      refine Nat.le_trans (outC_len _ _) ?_
      rw [List.length_append, List.length_take]; omega
    have hmc : (cs.getD t []).length ≤ 4096 := by
      have h' := s
      simp only [mayT, Bool.and_eq_true, List.all_eq_true] at h'
      have := h'.2 (cs.getD t []) (by simp [List.getD, ht'])
      simp only [mayC, Bool.and_eq_true, decide_eq_true_eq] at this
      exact this.2
    refine (add_ok B (by rw [xv]; exact sm) (by omega) hv hsn (fun y hy => ?_) (by omega)).mono ?_
    · obtain ⟨j, hj⟩ := List.getElem?_of_mem hy
      have hjl := (List.getElem?_eq_some_iff.1 hj).1
      have := mayT_l s ht' hjl
      rw [show (cs.getD t []).getD j 0 = y by simp only [List.getD_eq_getElem?_getD] at hj ⊢; rw [hj]; rfl] at this
      omega
    · rintro e w79 ⟨rfl, x2, B2, k2, v2, c2, f2, m2⟩
      refine ⟨rfl, z - 1, by omega, t + 1, x2, by rw [wrap64_of (by omega) (by omega)]; omega, ht', B2, by rw [k2, xk], by rw [v2, xv], ?_, fun k hk => ?_, G.then m2 fun k hk e => by have := F k e; omega, by omega⟩
      · rw [c2, xc, xv, List.take_add_one, ← List.append_assoc]
        have : cs[t]? = some (cs.getD t []) := by simp [List.getD, ht']
        rw [this, Option.toList_some, outC_snoc]
      · rcases f2 k hk with e | e
        · exact F k e
        · have := G.size; omega
  have et : t = cs.length := by omega
  subst et
  rw [List.take_length] at xc
  have xc' : x.cl = tC g cs := xc
  have e0 : ((Addr.mk n11 0 none).add 0).add 0 = ⟨n11, 0, none⟩ := by rw [add_at, add_at]
  have e00 : (Addr.mk n11 0 none).add 0 = ⟨n11, 0, none⟩ := by rw [add_at]
  refine ⟨_, rfl, _, _, _, _, by rw [e0]; exact ⟨cell_add B.me rfl, cell_add B.me rfl, trivial⟩, (checkCnf_ok B.c.v2 rfl).mono ?_⟩
  rintro e w83 ⟨rfl, g83⟩
  have B83 := B.grow g83
  rw [xc', xk, out_cnf s (by omega) (by omega)]
  refine ⟨_, rfl, cnd_f rfl ⟨_, rfl, _, _, _, _, _, _, _, by rw [e00]; exact cells3 B83.me, ?_⟩⟩
  have H1' : Has w83 n1 _ := (((H1.grow g3).grow g9).grow G).grow g83
  refine store_i H1' rfl rfl fun w93 h93 m93 => ⟨_, _, _, _, _, _, _, cells3 h93, .inr ⟨s, x.pc, x.cc, x.pv, x.cv, ?_, ⟨x.hs, ?_⟩, ?_⟩, ((G9.trans G).trans g83).then m93 fun k hk e => by omega⟩
  · rw [xk, xc', xv]
  · rw [← xc']
    exact (B83.c.keep m93 fun k hk e => by have := F k (.inr (.inl hk)); omega).v2
  · rw [← xv]
    exact (B83.v.keep m93 fun k hk e => by have := F k (.inr (.inr hk)); omega).vw
end Go.Proofs.Ytambabpklfeaoaa.W
