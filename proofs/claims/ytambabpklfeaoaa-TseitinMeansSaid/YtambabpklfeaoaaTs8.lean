/- Layer 18: the document's formula. -/
import Derived.Test.YtambabpklfeaoaaTs7
namespace Go.Proofs.Ytambabpklfeaoaa.W
open Go Go.Fw Go.RowKit Go.TsP

theorem pushVar' {wb w : World} {b : Nat} {x : Bd} (h : BRep w b x) (F : ∀ k, x.foot b k → wb.heap.size ≤ k) (G : Grow wb w) (y : Int) (hl : x.v.length ≤ 1000000) {K : World → Prop}
    (hk : ∀ w' x', BRep w' b x' → x'.k = x.k → x'.cl = x.cl → x'.v = x.v ++ [y] → (∀ k, x'.foot b k → wb.heap.size ≤ k) → Grow wb w' → K w') :
    ∀ (n28 : Nat) (w29 : World), New (.cells #[.int .i64 y] 3) w n28 w29 → 
      ∃ w30 : World, ∃ r31_p : Option Addr, ∃ r31_n : Nat, ∃ r31_c : Nat, (Builtin.append_ #[24, 24] 24 #[.slice x.pv x.v.length x.cv, .slice (some (Addr.mk n28 0 none)) 1 1]).run Try.prog w29 = .ok (.slice r31_p r31_n r31_c) w30 ∧ 
      ∃ w33 : World, StoreAt ((Addr.mk b 0 none).add 2) 0 [.slice r31_p r31_n r31_c] w30 w33 ∧ K w33 := by
  intro n28 w29 h28
  obtain ⟨w30, p', n', c', hr, a, ha, w33, hs, hk'⟩ := pushVar h F G y hl hk n28 w29 h28
  simp only [Option.some.injEq] at ha
  subst ha
  refine ⟨w30, p', n', c', hr, w33, ?_, hk'⟩
  rwa [show (Addr.mk b 0 none).add 0 = ⟨b, 0, none⟩ by rw [add_at]] at hs

theorem vw_heads {w : World} {n : Nat} {l : List Sl} (h : Has w n (l.map Sl.v).toArray) : Vw Sl.v w (some ⟨n, 0, none⟩) l := by
  intro j hj
  exact ⟨_, rfl, cell_add h (by simp [hj])⟩

theorem vr3 {w : World} {s1 s2 s3 : Sl} {l1 l2 l3 : List Int} (h1 : VR (Value.int .i64) w [s1] [l1]) (h2 : VR (Value.int .i64) w [s2] [l2]) (h3 : VR (Value.int .i64) w [s3] [l3]) : VR (Value.int .i64) w [s1, s2, s3] [l1, l2, l3] := (h1.app h2).app h3

theorem rfoot3 {n1 n2 n3 a b c : Nat} {k : Nat} (h : rfoot [⟨some ⟨n1, 0, none⟩, a, a⟩, ⟨some ⟨n2, 0, none⟩, b, b⟩, ⟨some ⟨n3, 0, none⟩, c, c⟩] k) : k = n1 ∨ k = n2 ∨ k = n3 := by
  obtain ⟨s, hm, _, hk⟩ := h
  simp only [List.mem_cons, List.not_mem_nil, or_false] at hm
  rcases hm with rfl | rfl | rfl
  · exact .inl (blk_some hk)
  · exact .inr (.inl (blk_some hk))
  · exact .inr (.inr (blk_some hk))

theorem allC_bd {g : List (Int × Int)} {cs : List (List Int)} (h : mayT g cs = true) {c : List Int} (hc : c ∈ allC g cs (inP g cs)) : (∀ l ∈ c, 0 ≤ l ∧ l ≤ 2 * g.length + 1) ∧ c.length ≤ 4096 := by
  have hgm := mayT_g h
  rcases List.mem_append.1 hc with hca | hca
  · obtain ⟨i, hi, hci⟩ := List.mem_flatMap.1 hca
    have hi : i < g.length := List.mem_range.1 hi
    unfold gcl at hci
    split at hci
    · rename_i hP
      obtain ⟨hP, hA⟩ := hP
      have hb := okG_and (mayG_at hgm hi) hA
      have fA : 0 ≤ flipL (g.getD i (0, 0)).1 ∧ flipL (g.getD i (0, 0)).1 ≤ 2 * i + 1 := by unfold flipL; split <;> omega
      have fB : 0 ≤ flipL (g.getD i (0, 0)).2 ∧ flipL (g.getD i (0, 0)).2 ≤ 2 * i + 1 := by unfold flipL; split <;> omega
      simp only [List.mem_cons, List.not_mem_nil, or_false] at hci
      rcases hci with rfl | rfl | rfl
      · refine ⟨fun l hl => ?_, by simp⟩
        simp only [List.mem_cons, List.not_mem_nil, or_false] at hl
        rcases hl with rfl | rfl <;> omega
      · refine ⟨fun l hl => ?_, by simp⟩
        simp only [List.mem_cons, List.not_mem_nil, or_false] at hl
        rcases hl with rfl | rfl <;> omega
      · refine ⟨fun l hl => ?_, by simp⟩
        simp only [List.mem_cons, List.not_mem_nil, or_false] at hl
        rcases hl with rfl | rfl | rfl <;> omega
    · simp at hci
  · have h' := h
    simp only [mayT, Bool.and_eq_true, List.all_eq_true] at h'
    have hc1 := h'.2 c hca
    simp only [mayC, Bool.and_eq_true, List.all_eq_true, decide_eq_true_eq] at hc1
    refine ⟨fun l hl => ?_, hc1.2⟩
    have := hc1.1 l hl
    simpa [isL] using this

theorem refBuild_ok {w : World} {p q : Option Addr} {g : List (Int × Int)} {n c m d : Nat} {hs : List Sl} {cs : List (List Int)} (hn : n = g.length) (hg : n ≤ 4096) (hm : m = cs.length) (hx : m ≤ 4096) (h : Vr 2 gateV w p g) (hc : V2 (Value.int .i64) w q hs cs) (s : mayT g cs = true) :
    Calls Try.prog fathomref18_Build.id #[.slice p n c, .slice q m d] w fun e w' => (∃ pc cc pv cv, e = .returned (.agg #[.int .i64 (tK g cs), .slice pc (tC g cs).length cc, .slice pv (tV g cs).length cv]) ∧ Coded w' pc (tC g cs) pv (tV g cs)) ∧ Grow w w' := by
  subst hn hm
  refine fathomref18_Build.calls ?_
  intro n1 w2 h2 n3 w4 h4
  have e1 := h2.num
  have e3 := h4.num
  have z2 := New.size h2
  have z4 := New.size h4
  have H1 := h2.has.old h4
  have G4 := h2.mod.trans h4.mod
  refine store_i h4.has rfl rfl fun w5 h5 m5 => ?_
  have G5 : Grow w w5 := G4.then m5 fun k hk e => by omega
  have H1 := H1.keep m5 (by omega)
  have B0 : BRep w5 n3 ⟨0, none, 0, [], [], none, 0, []⟩ := ⟨h5, OV.nil, Ow.nil _ _ _, (by rintro (e | ⟨s, hs, _⟩) <;> simp [blk] at *), (by simp [blk]), (by simp [blk])⟩
  have F0 : ∀ k, Bd.foot ⟨0, none, 0, [], [], none, 0, []⟩ n3 k → w2.heap.size ≤ k := by
    rintro k (rfl | (e | ⟨s, hs, _⟩) | e)
    · omega
    · simp [blk] at e
    · simp at hs
    · simp [blk] at e
  have G25 : Grow w2 w5 := h4.mod.then m5 fun k hk e => by omega
  refine ⟨fun v w' z => ∃ (t : Nat) (x : Bd), v = t ∧ t ≤ g.length ∧ BRep w' n3 x ∧ x.k = cnt (inP g cs) t ∧ x.v = vs (inP g cs) t ∧ x.cl = [] ∧ (∀ k, x.foot n3 k → w2.heap.size ≤ k) ∧ Grow w2 w' ∧ z + t = g.length,
    ⟨_, 0, _, rfl, Nat.zero_le _, B0, rfl, rfl, rfl, F0, G25, rfl⟩, ?_⟩
  clear B0 F0 G25 m5 h5 H1 G4 G5 h4
  rintro v w10 z _ ⟨t, x, rfl, ht, B, xk, xv, xc, F, G, hz⟩
  have G10 := h2.mod.trans G
  refine cnd_i (fun q1 => ?_) (fun q1 => ?_) <;> simp only [decide_eq_true_eq, decide_eq_false_iff_not] at q1
  · have ht' : t < g.length := by omega
    have ew : IntKind.i64.wrap ((t : Int) + 1) = ((t + 1 : Nat) : Int) := by rw [wrap64_of (by omega) (by omega)]; omega
    have hxl : x.v.length = t := by rw [xv, vs_len]
    have hcl := cnt_le (inP g cs) t
    rw [ew]
    refine (hangs_ok rfl (by omega) rfl (by omega) s g.length w10 (t + 1) (by omega) (by omega) (h.grow G10) (hc.grow G10)).mono ?_
    rintro e w11 ⟨⟨r, rfl, hr⟩, g11⟩
    have hrP : r = inP g cs (t + 1) := Bool.eq_iff_iff.2 (hr.trans inP_iff.symm)
    replace B := B.grow g11
    replace G := G.trans g11
    refine ⟨_, rfl, cnd_i (fun q2 => ?_) (fun q2 => ?_)⟩ <;> rw [hrP] at q2
    · have ek : IntKind.i64.wrap (x.k + 1) = ((cnt (inP g cs) (t + 1) : Nat) : Int) := by
        rw [xk, wrap64_of (by omega) (by omega)]
        rw [cnt_succ, if_pos q2]; omega
      refine ⟨_, cell_add2 B.me rfl, store_f2 B.me rfl rfl fun w23 h23 m23 => ?_⟩
      have B2 : BRep w23 n3 { x with k := IntKind.i64.wrap (x.k + 1) } := B.setK h23 m23
      have G23 : Grow w2 w23 := G.then m23 fun k hk e => by have := F n3 (.inl rfl); omega
      refine ⟨_, cell_add2 B2.me rfl, _, _, _, cell_add B2.me rfl, ?_⟩
      refine pushVar' B2 F G23 _ (by simp only; omega) fun w' x' B' k' c' v' F' G' => ⟨z - 1, by omega, t + 1, x', rfl, ht', B', ?_, ?_, by rw [c']; exact xc, F', G', by omega⟩
      · rw [k']; exact ek
      · rw [v', vs_succ, if_pos q2, ← xv]; simp only; rw [ek]
    · refine ⟨_, _, _, cell_add B.me rfl, ?_⟩
      refine pushVar' B F G _ (by omega) fun w' x' B' k' c' v' F' G' => ⟨z - 1, by omega, t + 1, x', rfl, ht', B', ?_, ?_, by rw [c']; exact xc, F', G', by omega⟩
      · rw [k', xk, cnt_succ, q2]; rfl
      · rw [v', vs_succ, q2, ← xv]; rfl
  have et : t = g.length := by omega
  subst et
  have sm := vs_small (inP g cs) (n := g.length) (by omega)
  have hcn := cnt_le (inP g cs) g.length
  have hgm := mayT_g s
  have hgl := gcl_len g (inP g cs)
  intro n28 w29 h28
  have e28 := h28.num
  have B29 := B.grow h28.mod
  have hlt := B.lt
  have z10 := G10.size
  have zG10 := G.size
  have A0 : OV (Value.int .i64) ty_sl_int w29 (some ⟨n28, 0, none⟩) 0 [] [] := ⟨Ow.of_some h28.at (Nat.le_refl _) (Nat.zero_le _) rfl rfl, VR.nil, fun k ⟨s, hs, _⟩ => by simp at hs⟩
  have G29 := G.trans h28.mod
  -- all clauses of gates
  refine ⟨fun pa na ca v w' z => ∃ (t : Nat) (ha : List Sl), na = ha.length ∧ v = t ∧ t ≤ g.length ∧ BRep w' n3 x ∧ OV (Value.int .i64) ty_sl_int w' pa ca ha (gcls g (inP g cs) t) ∧ (∀ k, OV.foot pa ha k → w10.heap.size ≤ k) ∧ Grow w10 w' ∧ z + t = g.length,
    ⟨_, 0, [], rfl, rfl, Nat.zero_le _, B29, A0, (by rintro k (e | ⟨s, hs, _⟩); (have := blk_some e; omega); (simp at hs)), h28.mod, rfl⟩, ?_⟩
  clear A0 B29 G29 hz
  rintro pa na ca v w35 z _ ⟨t, ha, rfl, rfl, ht, B, A, AF, GA, hz⟩
  have zA := GA.size
  refine cnd_i (fun q1 => ?_) (fun q1 => ?_) <;> simp only [decide_eq_true_eq, decide_eq_false_iff_not] at q1
  · have ht' : t < g.length := by omega
    have ew : IntKind.i64.wrap ((t : Int) + 1) = ((t + 1 : Nat) : Int) := by rw [wrap64_of (by omega) (by omega)]; omega
    rw [ew]
    have hok := mayG_at hgm ht'
    have gs := gcls_succ g (inP g cs) t
    have hg35 := h.grow (G10.trans GA)
    have hgt' : ∀ {w' : World} {K : Addr → Prop}, Grow w35 w' → (∀ a, w'.cell? (a.add 0) = some (.int .i64 (g.getD t (0, 0)).1) → w'.cell? (a.add 1) = some (.int .i64 (g.getD t (0, 0)).2) → K a) → ixK p g.length (t : Int) 2 K := fun gg hk => gIx (hg35.grow gg) rfl ht' hk
    generalize hgt : g.getD t (0, 0) = gt at *
    obtain ⟨P, Q⟩ := gt
    have hvx : x.v = tV g cs := xv
    have same : ∀ w', Grow w35 w' → gcl g (inP g cs) t = [] → ∃ k44 : Nat, k44 < z ∧ ∃ (t' : Nat) (ha' : List Sl), ha.length = ha'.length ∧ ((t + 1 : Nat) : Int) = t' ∧ t' ≤ g.length ∧ BRep w' n3 x ∧ OV (Value.int .i64) ty_sl_int w' pa ca ha' (gcls g (inP g cs) t') ∧ (∀ k, OV.foot pa ha' k → w10.heap.size ≤ k) ∧ Grow w10 w' ∧ k44 + t' = g.length := fun w' gg hno =>
      ⟨z - 1, by omega, t + 1, ha, rfl, rfl, ht', B.grow gg, by rw [gs, hno, List.append_nil]; exact A.grow gg, AF, GA.trans gg, by omega⟩
    refine ⟨_, _, _, cell_add B.me rfl, B.v.ix 0 (by omega) rfl (by rw [hvx, vs_len]; omega) fun a e => ⟨_, e, ?_⟩⟩
    rw [Int.toNat_natCast, hvx, vs_get _ ht']
    refine cnd_i (fun q2 => ?_) (fun q2 => same _ (Mod.refl _) ?_)
    rotate_left
    · unfold gcl
      rw [if_neg]
      intro hh
      have hp := cnt_pos _ hh.1
      rw [if_pos hh.1] at q2
      simp only [decide_eq_false_iff_not] at q2
      omega
    have hP : inP g cs (t + 1) = true := by
      cases hh : inP g cs (t + 1) with
      | true => rfl
      | false => rw [hh] at q2; simp at q2
    refine hgt' (Mod.refl _) fun a x0 _ => ⟨_, x0, cnd_i (fun q3 => ?_) (fun q3 => same _ (Mod.refl _) ?_)⟩ <;> simp only [decide_eq_true_eq, decide_eq_false_iff_not, ge_iff_le] at q3
    rotate_left
    · unfold gcl; rw [hgt, if_neg (fun hh => q3 hh.2)]
    have hb := okG_and hok q3
    simp only at hb
    have gc : gcl g (inP g cs) t = [[2 * (t : Int) + 3, P], [2 * (t : Int) + 3, Q], [2 * (t : Int) + 2, flipL P, flipL Q]] := by
      unfold gcl; rw [hgt, if_pos ⟨hP, q3⟩]
    have l1 : IntKind.i64.wrap (2 * (t : Int)) = 2 * (t : Int) := wrap64_of (by omega) (by omega)
    have l2 : IntKind.i64.wrap (2 * (t : Int) + 2) = 2 * (t : Int) + 2 := wrap64_of (by omega) (by omega)
    have f1 : flipL (2 * (t : Int) + 2) = 2 * (t : Int) + 3 := by unfold flipL; rw [if_pos (by omega)]; omega
    have d0 : Grow w35 w35.drew := (Mod.refl w35).drew
    refine hgt' d0 fun a41 x41 _ => ⟨_, x41, hgt' d0 fun a43 _ x43 => ⟨_, x43, ?_⟩⟩
    rw [l1, l2]
    refine (refNot_ok (l := 2 * (t : Int) + 2) (by omega) (by omega) _).mono ?_
    rintro e w45 ⟨rfl, g45⟩
    rw [f1]
    refine ⟨_, rfl, ?_⟩
    intro n47 w48 h47
    refine (refNot_ok (l := 2 * (t : Int) + 2) (by omega) (by omega) _).mono ?_
    rintro e w49 ⟨rfl, g49⟩
    rw [f1]
    refine ⟨_, rfl, ?_⟩
    intro n51 w52 h51
    refine (refNot_ok (l := P) (by omega) (by omega) _).mono ?_
    rintro e w53 ⟨rfl, g53⟩
    refine ⟨_, rfl, (refNot_ok (l := Q) (by omega) (by omega) _).mono ?_⟩
    rintro e w55 ⟨rfl, g55⟩
    refine ⟨_, rfl, ?_⟩
    intro n57 w58 h57 n59 w60 h59
    have e47 := h47.num
    have e51 := h51.num
    have e57 := h57.num
    have e59 := h59.num
    have z45 := g45.size
    have z48 := h47.mod.size
    have z49 := g49.size
    have z52 := h51.mod.size
    have z53 := g53.size
    have z55 := g55.size
    have z58 := h57.mod.size
    have z60 := h59.mod.size
    have zd : w35.drew.heap.size = w35.heap.size := rfl
    have L1 : OwI ty_int w48 (some ⟨n47, 0, none⟩) 2 [2 * (t : Int) + 3, P] := Ow.of_some h47.at (Nat.le_refl _) (by unfold maxLen; omega) rfl rfl
    have L2 : OwI ty_int w52 (some ⟨n51, 0, none⟩) 2 [2 * (t : Int) + 3, Q] := Ow.of_some h51.at (Nat.le_refl _) (by unfold maxLen; omega) rfl rfl
    have L3 : OwI ty_int w58 (some ⟨n57, 0, none⟩) 3 [2 * (t : Int) + 2, flipL P, flipL Q] := Ow.of_some h57.at (Nat.le_refl _) (by unfold maxLen; omega) rfl rfl
    have g5 := ((g53.trans g55).trans h57.mod).trans h59.mod
    have L1' := ((L1.grow g49).grow h51.mod).grow g5
    have L2' := L2.grow g5
    have L3' := L3.grow h59.mod
    have G60 : Grow w35 w60 := ((((d0.trans g45).trans h47.mod).trans g49).trans h51.mod).trans g5
    have hlA := A.lt
    have hga := hgl t
    refine (A.grow G60).app (ns := [⟨some ⟨n47, 0, none⟩, 2, 2⟩, ⟨some ⟨n51, 0, none⟩, 2, 2⟩, ⟨some ⟨n57, 0, none⟩, 3, 3⟩]) (nrows := [[2 * (t : Int) + 3, P], [2 * (t : Int) + 3, Q], [2 * (t : Int) + 2, flipL P, flipL Q]]) sl_sl (vw_heads h59.has)
      (vr3 (VR.one L1'.vw rfl (by unfold maxLen; simp)) (VR.one L2'.vw rfl (by unfold maxLen; simp)) (VR.one L3'.vw rfl (by unfold maxLen; simp))) rfl rfl (fun k hk e => ?_) (by rw [A.v.n]; simp; omega) fun w61 p61 c61 A61 m61 hp61 z61 => ?_
    · have := hlA k (.inl e)
      have := rfoot3 hk
      omega
    · refine ⟨z - 1, by omega, t + 1, _, rfl, rfl, ht', (B.grow G60).keep m61 fun k hk e => ?_, by rw [gs, gc]; exact A61, fun k hk => ?_, (GA.trans G60).then m61 fun k hk e => by have := AF k (.inl e); omega, by omega⟩
      · have := AF k (.inl e)
        have := hlt k hk
        omega
      · rcases hk with hk | hk
        · rcases hp61 with h1 | h1 <;> rw [h1] at hk
          · exact AF k (.inl hk)
          · have := blk_some hk; omega
        · rcases rfoot_app.1 hk with hk | hk
          · exact AF k (.inr hk)
          · have := rfoot3 hk; omega
  have et : t = g.length := by omega
  subst et
  -- and those that are given
  have hc35 := hc.grow (G10.trans GA)
  have hcf : ∀ k, rfoot hs k → k < w.heap.size := hc.vr.lt
  have hga := hgl g.length
  refine A.app sl_sl hc35.h hc35.vr rfl hc.n.symm (fun k hk e => by have := hcf k hk; have := AF k (.inl e); omega) (by rw [A.v.n, hc.n]; omega) fun w63 p63 c63 A63 m63 hp63 z63 => ?_
  have hA : gcls g (inP g cs) g.length ++ cs = allC g cs (inP g cs) := rfl
  rw [hA] at A63
  have B63 := B.keep m63 fun k hk e => by have := AF k (.inl e); have := hlt k hk; omega
  have G63 : Grow w w63 := (G10.trans GA).then m63 fun k hk e => by have := AF k (.inl e); omega
  have D63 : ∀ k, OV.foot p63 (ha ++ hs) k → ¬ x.foot n3 k := fun k hk e => by
    have := hlt k e
    have := F k e
    rcases hk with hk | hk
    · rcases hp63 with h1 | h1 <;> rw [h1] at hk
      · have := AF k (.inl hk); omega
      · have := blk_some hk; omega
    · rcases rfoot_app.1 hk with hk | hk
      · have := AF k (.inr hk); omega
      · have := hcf k hk; omega
  have hal : (allC g cs (inP g cs)).length = (ha ++ hs).length := A63.v.n.symm
  have hal2 : (allC g cs (inP g cs)).length ≤ 3 * g.length + cs.length := by unfold allC; rw [List.length_append]; omega
  have n1f : n1 < w2.heap.size := h2.has.lt
  refine ⟨fun v w' z => ∃ (t : Nat) (x : Bd), v = t ∧ t ≤ (allC g cs (inP g cs)).length ∧ BRep w' n3 x ∧ x.k = tK g cs ∧ x.v = tV g cs ∧ x.cl = outC (tV g cs) ((allC g cs (inP g cs)).take t) ∧ (∀ k, x.foot n3 k → w2.heap.size ≤ k) ∧ (∀ k, OV.foot p63 (ha ++ hs) k → ¬ x.foot n3 k) ∧ OV (Value.int .i64) ty_sl_int w' p63 c63 (ha ++ hs) (allC g cs (inP g cs)) ∧ Grow w2 w' ∧ z + t = (allC g cs (inP g cs)).length,
    ⟨_, 0, x, rfl, Nat.zero_le _, B63, xk, xv, by rw [xc]; rfl, F, D63, A63, (G.trans GA).then m63 (fun k hk e => by have := AF k (.inl e); omega), rfl⟩, ?_⟩
  clear B B63 D63 A63 hlt xk xv xc F A AF hz m63 hp63 G63 GA hc35
  rintro v w69 z _ ⟨t, x, rfl, ht, B, xk, xv, xc, F, D, A, G69, hz⟩
  refine cnd_i (fun q1 => ?_) (fun q1 => ?_) <;> simp only [decide_eq_true_eq, decide_eq_false_iff_not] at q1
  · have ht' : t < (allC g cs (inP g cs)).length := by omega
    have B' := B.grow (Mod.refl w69).drew
    have A' := A.drew
    have ew : IntKind.i64.wrap ((t : Int) + 1) = ((t + 1 : Nat) : Int) := by rw [wrap64_of (by omega) (by omega)]; omega
    rw [ew]
    refine ⟨_, _, _, cell_add B'.me rfl, rowIx A'.v2 hal.symm ht' fun a sl e _ hsn hsm hv => ⟨_, _, _, e, ?_⟩⟩
    have hall : (allC g cs (inP g cs)).getD t [] ∈ allC g cs (inP g cs) := by simp [List.getD, ht']
    obtain ⟨bd1, bd2⟩ := allC_bd s hall
    refine (refClause_ok B'.v.vw rfl (by rw [xv, vs_len]; omega) (by rw [xv]; exact sm) hv hsn (by rw [xv, vs_len]; exact bd1) (by omega)).mono ?_
    rw [xv]
    have tk : (allC g cs (inP g cs)).take (t + 1) = (allC g cs (inP g cs)).take t ++ [(allC g cs (inP g cs)).getD t []] := by
      rw [List.take_add_one]
      have : (allC g cs (inP g cs))[t]? = some ((allC g cs (inP g cs)).getD t []) := by simp [List.getD, ht']
      rw [this]; rfl
    rintro e w73 ⟨⟨o, qo, co, ho, rfl, O, fo⟩ | ⟨ho, rfl⟩, g73⟩
    · have g73' := (Mod.refl w69).drew.trans g73
      have B73 := B.grow g73'
      refine ⟨_, _, _, _, rfl, cnd_t rfl ⟨_, _, _, cell_add2 B73.me rfl, ?_⟩⟩
      intro n77 w78 h77
      have B78 := B73.grow h77.mod
      have hlt := B.lt
      have zd : w69.drew.heap.size = w69.heap.size := rfl
      have z73 := g73.size
      have z78 := h77.mod.size
      have hxl : x.cl.length ≤ t := by rw [xc]; exact Nat.le_trans (outC_len _ _) (by simp; omega)
      refine B78.app (by omega) (s := ⟨qo, o.length, co⟩) (l := o) h77.has (O.grow h77.mod).vw rfl (by have := clP_len ho; unfold maxLen; simp only; omega) (fun k hk e => ?_) fun w79 p79 c79 o79 f79 m79 => ?_
      · obtain ⟨sx, hm, h0, hk⟩ := hk
        simp at hm; subst hm
        have := fo k hk
        have := hlt k e; omega
      have me79 := B78.me.keep m79 fun e => B78.bc (.inl e)
      have rf : ∀ k, rfoot [(⟨qo, o.length, co⟩ : Sl)] k → w69.heap.size ≤ k := fun k ⟨sx, hm, h0, hk⟩ => by
        simp at hm; subst hm
        have := fo k hk; omega
      have hn3 := hlt n3 (.inl rfl)
      have nb : ¬ OV.foot p79 (x.hs ++ [⟨qo, o.length, co⟩]) n3 := fun e => by
        rcases f79 n3 e with e | e | e
        · exact B.bc e
        · have := rf n3 e; omega
        · omega
      refine store_f2 me79 rfl rfl fun w81 h81 m81 => ⟨z - 1, by omega, t + 1, ⟨x.k, p79, c79, x.hs ++ [⟨qo, o.length, co⟩], x.cl ++ [o], x.pv, x.cv, x.v⟩, rfl, ht', ?_, xk, xv, ?_, ?_, ?_, ?_, ?_, by omega⟩
      · refine ⟨?_, o79.keep m81 fun k hk e => nb (by rw [← e]; exact hk), (B78.v.keep m79 fun k hk e => B.cv k hk (.inl e)).keep m81 fun k hk e => B.bv (by rw [hk, e]), nb, B.bv, fun k hk e => ?_⟩
        · have : (x.cl ++ [o]).length = x.cl.length + 1 := by simp
          show Has w81 n3 #[_, .slice p79 (x.cl ++ [o]).length c79, _]
          rw [this]
          exact h81
        · have := hlt k (.inr (.inr hk))
          rcases f79 k e with e | e | e
          · exact B.cv k hk e
          · have := rf k e; omega
          · omega
      · rw [tk, outC_snoc, ho, xc]; rfl
      · rintro k (rfl | hk | hk)
        · exact F k (.inl rfl)
        · rcases f79 k hk with e | e | e
          · exact F k (.inr (.inl e))
          · have := rf k e; have := G69.size; omega
          · have := G69.size; omega
        · exact F k (.inr (.inr hk))
      · rintro k hk (rfl | e | e)
        · exact D k hk (.inl rfl)
        · have := A.lt k hk
          rcases f79 k e with e | e | e
          · exact D k hk (.inr (.inl e))
          · have := rf k e; omega
          · omega
        · exact D k hk (.inr (.inr e))
      · exact (((A.grow g73').grow h77.mod).keep m79 fun k hk e => D k hk (.inr (.inl (.inl e)))).keep m81 fun k hk e => D k hk (.inl e)
      · exact (((G69.trans g73').trans h77.mod).then m79 fun k hk e => by have := F k (.inr (.inl (.inl e))); omega).then m81 fun k hk e => by have := F n3 (.inl rfl); omega
    · have g73' := (Mod.refl w69).drew.trans g73
      exact ⟨_, _, _, _, rfl, cnd_f rfl ⟨z - 1, by omega, t + 1, x, rfl, ht', B.grow g73', xk, xv, by rw [tk, outC_snoc, ho, xc]; simp, F, D, A.grow g73', G69.trans g73', by omega⟩⟩
  have et : t = (allC g cs (inP g cs)).length := by omega
  subst et
  rw [List.take_length] at xc
  replace xc : x.cl = tC g cs := xc
  have hf1 := F n1
  have H1 : Has w69 n1 #[.int .i64 0, .slice none 0 0, .slice none 0 0] := h2.has.grow G69
  refine ⟨_, _, _, _, _, _, _, cells3 B.me, store_i H1 rfl rfl fun w85 h85 m85 => ⟨_, _, _, _, _, _, _, cells3 h85, ⟨x.pc, x.cc, x.pv, x.cv, ?_, ⟨x.hs, ?_⟩, ?_⟩, (h2.mod.trans G69).then m85 fun k hk e => by omega⟩⟩
  · rw [xk, xc, xv]
  · rw [← xc]
    exact (B.c.keep m85 fun k hk e => by have := F k (.inr (.inl hk)); omega).v2
  · rw [← xv]
    exact (B.v.keep m85 fun k hk e => by have := F k (.inr (.inr hk)); omega).vw
end Go.Proofs.Ytambabpklfeaoaa.W
