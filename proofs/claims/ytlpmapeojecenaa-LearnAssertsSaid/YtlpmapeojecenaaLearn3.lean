/- Layer 12: which trails there may be, by the program. -/
import Derived.Test.YtlpmapeojecenaaLearn2
namespace Go.Proofs.Ytlpmapeojecenaa.W
open Go Go.Fw Go.RowKit Go.SoP Go.LiP Go.LeP
variable {w : World} {p q : Option Addr} {n c m d : Nat} {tr : List As} {l : List Int}

theorem _root_.Go.LeP.TrOk.fresh (ok : TrOk tr) {t : Nat} (ht : t < tr.length) : ¬ atN (tr.take t) (am (nth tr t).lit) < t := by
  intro e
  rw [(atN_take (by omega)).1] at e
  exact ok.uq _ t e ht (atN_hit (by omega))
theorem MI_cast {b n : Nat} {s s' : Int → Int} (h : MI Try.prog ty_int ty_int w b n s) (e : ∀ u, s u = s' u) : MI Try.prog ty_int ty_int w b n s' := by
  rw [← show s = s' from funext e]; exact h
theorem atM_wrap {v : Int} (hl : tr.length ≤ 4096) (h : atN tr v < tr.length) : IntKind.i64.wrap (atM tr v - 1) = (atN tr v : Nat) := by
  unfold atM
  rw [if_pos h, wrap64_of (by omega) (by omega)]; omega

theorem places_ok (h : TV w p tr) (hn : n = tr.length) (ok : TrOk tr) (hl : tr.length ≤ 4096) : Calls Try.prog learn_places.id #[.slice p n c] w fun e w' => ∃ b, e = .returned (.map (some b)) ∧ MI Try.prog ty_int ty_int w' b tr.length (atM tr) ∧ Grow w w' ∧ w.heap.size ≤ b := by
  refine learn_places.calls ?_
  intro n1 w2 h2
  have e1 := h2.num
  have M2 : MI Try.prog ty_int ty_int w2 n1 0 (atM (tr.take 0)) := MI_cast (MI.new h2) fun u => (atM_nil u).symm
  refine ⟨fun I w' k => ∃ t : Nat, I = t ∧ t ≤ tr.length ∧ k = tr.length - t ∧ MI Try.prog ty_int ty_int w' n1 t (atM (tr.take t)) ∧ Grow w w', ⟨_, 0, rfl, Nat.zero_le _, rfl, M2, h2.mod⟩, ?_⟩
  rintro I w7 k _ ⟨t, rfl, ht, rfl, M, G⟩
  refine cnd_i (fun s => ?_) (fun s => ?_)
  · have s : t < tr.length := by simp at s; omega
    refine (h.grow G).ix hn t rfl s fun a x C e1 e2 v => ⟨_, _, _, _, _, C, fun n12 w13 h13 => asCopy h13 fun w14 H G14 => ⟨_, cell_add H rfl, ?_⟩⟩
    have hb := litB_bd (ok.isl t s)
    refine (amount12_ok (by omega) (by omega) w14).mono ?_
    rintro e w16 ⟨rfl, g16⟩
    have G16 := (G.trans G14).trans g16
    obtain ⟨w18, hr, M18, m18⟩ := (M.grow (G14.trans g16)).put mapI_at (by unfold maxLen; omega) (wf_am (ok.isl t s)) (v := (t : Int) + 1) (wf64 (by omega) (by omega))
    refine ⟨_, rfl, w18, by rw [wrap64_of (by omega) (by omega)]; exact hr, _, ?_, t + 1, wN (by omega) (by omega), by omega, rfl, MI_cast M18 fun u => (atM_succ s (ok.fresh s) u).symm, Mod.fresh G16 m18 (by omega)⟩
    omega
  · have s : t = tr.length := by simp at s; omega
    subst s
    rw [List.take_length] at M
    exact ⟨n1, rfl, M, G, by omega⟩

theorem clB_one {x : Int} : clB [x] = litB x := by unfold clB; simp
theorem one_vw {x : Int} {b : Nat} (h : Has w b #[.int .i64 x]) : Vw (Value.int .i64) w (some ⟨b, 0, none⟩) [x] := by
  intro j hj
  have : j = 0 := by simpa using hj
  subst this
  exact ⟨_, rfl, cell_add h rfl⟩

theorem reasoned_ok {t b nn : Nat} (h : TV w p tr) (hn : n = tr.length) (hl : tr.length ≤ 4096) (ht : t < tr.length) (hi : isL (nth tr t).lit = true) (M : MI Try.prog ty_int ty_int w b nn (atM (tr.take t))) (hv : Vw (Value.int .i64) w q (nth tr t).rs) (hm : m = (nth tr t).rs.length) (hx : m ≤ maxLen) :
    Calls Try.prog learn_reasoned.id #[.slice p n c, .map (some b), .agg #[.int .i64 (nth tr t).lit, .int .i64 (nth tr t).lev, .slice q m d]] w fun e w' => e = .returned (.bool (reaB tr t)) ∧ Grow w w' := by
  refine learn_reasoned.calls ?_
  intro n1 w2 h2
  have H := h2.has
  have G2 := h2.mod
  generalize hrs : (nth tr t).rs = rs at *
  generalize hlt : (nth tr t).lit = x0 at *
  have hdef : reaB tr t = (decide (rs.length ≤ 256) && decide (x0 ∈ rs) && brk (tr.take t) (LeP.wo rs x0)) := by unfold reaB; rw [hrs, hlt]
  have hlp : (tr.take t).length = t := len_take (by omega)
  have badx : ∀ {w' : World} {x : Int}, Grow w w' → x ∈ rs → x ≠ x0 → ¬ Br1 (tr.take t) x → (Ending.returned (.bool false) = .returned (.bool (reaB tr t)) ∧ Grow w w') := by
    intro w' x g hx hne hb
    have : brk (tr.take t) (LeP.wo rs x0) = false := by
      cases e : brk (tr.take t) (LeP.wo rs x0) with
      | false => rfl
      | true => exact absurd (brk_iff.1 e x (mem_wo.2 ⟨hx, hne⟩)) hb
    rw [hdef, this, Bool.and_false]; exact ⟨rfl, g⟩
  refine ⟨_, _, _, cell_add H rfl, cnd_i (fun r => ?_) (fun r => ⟨_, _, _, cell_add H rfl, (litCheck_ok (hv.grow G2) hm hx).mono ?_⟩)⟩
  · simp at r
    rw [hdef, decide_eq_false (by omega)]; exact ⟨rfl, G2⟩
  have r : rs.length ≤ 256 := by simp at r; omega
  rintro e w5 ⟨rfl, g5⟩
  have G5 := G2.trans g5
  have H5 := H.grow g5
  refine ⟨_, rfl, cnd_i (fun r2 => ?_) (fun r2 => ⟨_, _, _, cell_add H5 rfl, _, cell_add H5 rfl, (contains_ok (hv.grow G5) hm hx _).mono ?_⟩)⟩
  · have hcl : clB rs = false := by
      cases e : clB rs with
      | false => rfl
      | true => rw [e] at r2; simp at r2
    have hall : rs.all litB = false := by
      unfold clB at hcl
      rw [decide_eq_true (p := _ ≤ 4096) (by omega), Bool.and_true] at hcl
      exact hcl
    rw [List.all_eq_false] at hall
    obtain ⟨x, hx1, hx2⟩ := hall
    refine badx G5 hx1 (fun e => ?_) fun hb => ?_
    · subst e; exact hx2 hi
    · exact hx2 hb.isl
  have hcl : clB rs = true := by
    cases e : clB rs with
    | true => rfl
    | false => rw [e] at r2; simp at r2
  have hlit := (clB_all hcl).1
  rintro e w9 ⟨rfl, g9⟩
  have G9 := G5.trans g9
  have H9 := H5.grow g9
  refine ⟨_, rfl, cnd_i (fun r3 => ?_) (fun r3 => ⟨_, _, _, cell_add H9 rfl, ?_⟩)⟩
  · have r3 : x0 ∉ rs := by simpa using r3
    rw [hdef, decide_eq_false r3, Bool.and_false]; exact ⟨rfl, G9⟩
  have r3 : x0 ∈ rs := by simpa using r3
  refine ⟨fun I w' k => ∃ j : Nat, I = j ∧ j ≤ rs.length ∧ k = rs.length - j ∧ (∀ x ∈ rs.take j, x ≠ x0 → Br1 (tr.take t) x) ∧ Grow w2 w', ⟨_, 0, rfl, Nat.zero_le _, rfl, by simp, g5.trans g9⟩, ?_⟩
  rintro I w16 k _ ⟨j, rfl, hj, rfl, ha, G⟩
  refine cnd_i (fun s => ?_) (fun s => ?_)
  · have s : j < rs.length := by simp at s; omega
    refine (hv.grow (G2.trans G)).ix 0 (by omega) hm (by omega) fun a e => ⟨_, e, _, cell_add (H.grow G) rfl, ?_⟩
    rw [Int.toNat_natCast]
    refine cnd_i (fun r4 => ⟨_, ?_, j + 1, wN (by omega) (by omega), by omega, rfl, fun x hx hne => ?_, G⟩) (fun r4 => ?_)
    · omega
    · rcases (mem_take_succ s).1 hx with e | e
      · exact ha x e hne
      · exact absurd (e.trans (by simpa using r4)) hne
    have r4 : rs.getD j 0 ≠ x0 := by simpa using r4
    have hxi := hlit _ (mem_getD s)
    have hb := litB_bd hxi
    refine (amount12_ok (by omega) (by omega) w16).mono ?_
    rintro e w20 ⟨rfl, g20⟩
    have G20 := (G2.trans G).trans g20
    refine ⟨_, rfl, w20, _, (M.grow G20).look mapI_at (wf_am hxi), cnd_i (fun r5 => ?_) (fun r5 => ?_)⟩
    · refine badx G20 (mem_getD s) r4 fun hB => ?_
      have r5 : atM (tr.take t) (am (rs.getD j 0)) = 0 := by simpa using r5
      exact atM_pos.1 r5 hB.lt
    have r5 : atN (tr.take t) (am (rs.getD j 0)) < (tr.take t).length := Classical.byContradiction fun e => by
      rw [atM_pos.2 e] at r5; simp at r5
    have r6 := r5
    rw [hlp] at r6
    rw [atM_wrap (by omega) r5]
    refine (h.grow G20).ix hn _ rfl (by omega) fun a2 x C e1 e2 v => ⟨_, C.1, ?_⟩
    rw [wrap64_of (by omega) (by omega), Int.zero_sub]
    refine cnd_i (fun r7 => badx G20 (mem_getD s) r4 fun hB => ?_) (fun r7 => ⟨_, ?_, j + 1, wN (by omega) (by omega), by omega, rfl, fun x hx hne => ?_, G.trans g20⟩)
    · have := hB.eq
      rw [nth_take r6] at this
      rw [this] at r7
      simp at r7
    · omega
    · rcases (mem_take_succ s).1 hx with e | e
      · exact ha x e hne
      · subst e
        refine ⟨hxi, r5, ?_⟩
        rw [nth_take r6]
        simpa using r7
  · have s : j = rs.length := by simp at s; omega
    subst s
    rw [List.take_length] at ha
    refine ⟨?_, G2.trans G⟩
    rw [hdef, decide_eq_true r, decide_eq_true r3, brk_iff.2 fun x hx => ha x (mem_wo.1 hx).1 (mem_wo.1 hx).2]; rfl

theorem okT_eq (t : Nat) : okT tr t = (isL (nth tr t).lit && decide (¬ atN (tr.take t) (am (nth tr t).lit) < t) && decide (prev tr t ≤ (nth tr t).lev ∧ (nth tr t).lev ≤ prev tr t + 1) &&
      (if (nth tr t).lev > prev tr t then (nth tr t).rs.isEmpty else reaB tr t)) := rfl

theorem sound_ok (h : TV w p tr) (hn : n = tr.length) : Calls Try.prog learn_sound.id #[.slice p n c] w fun e w' => e = .returned (.bool (mayT tr)) ∧ Grow w w' := by
  refine learn_sound.calls ?_
  refine cnd_i (fun q => ?_) (fun q => ?_)
  · simp at q
    refine ⟨?_, Mod.refl w⟩
    unfold mayT; rw [decide_eq_false (by omega)]; rfl
  have hl : tr.length ≤ 4096 := by simp at q; omega
  intro n1 w2 h2
  have e1 := h2.num
  have M2 : MI Try.prog ty_int ty_int w2 n1 0 (atM (tr.take 0)) := MI_cast (MI.new h2) fun u => (atM_nil u).symm
  refine ⟨fun L I w' k => ∃ t : Nat, I = t ∧ t ≤ tr.length ∧ L = prev tr t ∧ (List.range t).all (okT tr) = true ∧ k = tr.length - t ∧ MI Try.prog ty_int ty_int w' n1 t (atM (tr.take t)) ∧ Grow w w', ⟨_, 0, rfl, Nat.zero_le _, prev_zero.symm, rfl, rfl, M2, h2.mod⟩, ?_⟩
  rintro L I w8 k _ ⟨t, rfl, ht, rfl, ha, rfl, M, G⟩
  refine cnd_i (fun s => ?_) (fun s => ⟨?_, G⟩)
  · have s : t < tr.length := by simp at s; omega
    have bad : ∀ {w' : World}, Grow w w' → okT tr t = false → (Ending.returned (.bool false) = .returned (.bool (mayT tr)) ∧ Grow w w') := fun g hf => by
      rw [mayT_false s hf]; exact ⟨rfl, g⟩
    have okp := mayT_take ht (by omega) ha
    have hlp : (tr.take t).length = t := len_take ht
    have hpv : 0 ≤ prev tr t ∧ prev tr t ≤ t := by
      cases t with
      | zero => rw [prev_zero]; omega
      | succ t =>
        rw [prev_succ]
        have h1 := okp.nn (i := t) (by omega)
        have h2 := okp.le (i := t) (by omega)
        rw [nth_take (by omega)] at h1 h2
        omega
    refine (h.grow G).ix hn t rfl s fun a x C e1 e2 v => ⟨_, _, _, _, _, C, fun n13 w14 h14 => asCopy h14 fun w15 H G15 => ⟨_, cell_add H rfl, fun n17 w18 h18 => ?_⟩⟩
    have vw := one_vw h18.has
    refine (litCheck_ok vw rfl (by unfold maxLen; simp)).mono ?_
    rw [clB_one]
    rintro e w19 ⟨rfl, g19⟩
    have g := (h18.mod.trans g19)
    have G19 := (G.trans G15).trans g
    have H19 := H.grow g
    have okx := okT_eq (tr := tr) t
    refine ⟨_, rfl, cnd_i (fun r => bad G19 ?_) (fun r => ?_)⟩
    · have : isL (nth tr t).lit = false := by
        cases e : isL (nth tr t).lit with
        | false => rfl
        | true => rw [← isL_litB, e] at r; simp at r
      rw [okx, this]; rfl
    have r : isL (nth tr t).lit = true := by
      cases e : isL (nth tr t).lit with
      | true => rfl
      | false => rw [← isL_litB, e] at r; simp at r
    have hb := litB_bd r
    refine ⟨_, cell_add H19 rfl, (amount12_ok (by omega) (by omega) w19).mono ?_⟩
    rintro e w22 ⟨rfl, g22⟩
    have G22 := G19.trans g22
    have H22 := H19.grow g22
    have M22 := M.grow ((G15.trans g).trans g22)
    refine ⟨_, rfl, w22, _, M22.look mapI_at (wf_am r), cnd_i (fun r2 => bad G22 ?_) (fun r2 => ?_)⟩
    · have r2 : atN (tr.take t) (am (nth tr t).lit) < t := Classical.byContradiction fun e => by
        rw [atM_pos.2 (by rw [hlp]; exact e)] at r2; simp at r2
      rw [okx, decide_eq_false (by simp [r2]), Bool.and_false]; rfl
    have r2 : ¬ atN (tr.take t) (am (nth tr t).lit) < t := fun e => by
      unfold atM at r2
      rw [hlp, if_pos e] at r2
      simp at r2
    rw [wrap64_of (by omega) (by omega)]
    refine ⟨_, cell_add H22 rfl, cnd_i (fun r3 => bad G22 ?_) (fun r3 => ⟨_, cell_add H22 rfl, cnd_i (fun r4 => bad G22 ?_) (fun r4 => ⟨_, cell_add H22 rfl, _, _, _, cell_add H22 rfl, ?_⟩)⟩)⟩
    · simp at r3
      rw [okx, decide_eq_false (p := _ ≤ _ ∧ _) (by omega), Bool.and_false]; rfl
    · simp at r4
      rw [okx, decide_eq_false (p := _ ≤ _ ∧ _) (by omega), Bool.and_false]; rfl
    have r3 : prev tr t ≤ (nth tr t).lev := by simpa using r3
    have r4 : (nth tr t).lev ≤ prev tr t + 1 := by simpa using r4
    rw [r, decide_eq_true (p := ¬ _) r2, decide_eq_true (p := _ ≤ _ ∧ _) ⟨r3, r4⟩, Bool.and_true, Bool.and_true, Bool.true_and] at okx
    refine cnd_i (fun r5 => bad G22 ?_) (fun r5 => cnd_i (fun r6 => ?_) (fun r6 => ?_))
    · rw [okx]
      split
      · rename_i e
        rw [decide_eq_true e] at r5
        simp [e1] at r5
        simp [r5]
      · rename_i e
        rw [decide_eq_false e] at r5
        simp [e1] at r5
        unfold reaB
        rw [r5]; simp
    · have r6 : ¬ (nth tr t).lev > prev tr t := by simpa using r6
      rw [if_neg r6] at okx
      refine ⟨_, _, _, _, _, cells3 H22, (reasoned_ok (h.grow G22) hn hl s r M22 (v.grow ((G15.trans g).trans g22)) e1 e2).mono ?_⟩
      rintro e w33 ⟨rfl, g33⟩
      have H33 := H22.grow g33
      refine ⟨_, rfl, cnd_i (fun r7 => bad (G22.trans g33) (by rw [okx]; simpa using r7)) (fun r7 => ⟨_, cell_add H33 rfl, (amount12_ok (by omega) (by omega) w33).mono ?_⟩)⟩
      rintro e w36 ⟨rfl, g36⟩
      obtain ⟨w38, hr, M38, m38⟩ := (M22.grow (g33.trans g36)).put mapI_at (by unfold maxLen; omega) (wf_am r) (v := (t : Int) + 1) (wf64 (by omega) (by omega))
      refine ⟨_, rfl, w38, by rw [wrap64_of (by omega) (by omega)]; exact hr, _, cell_add ((H33.grow g36).put m38 (fun e => ?_)) rfl, _, ?_, t + 1, wN (by omega) (by omega), by omega, prev_succ.symm, range_succ_all ha (by rw [okx]; simpa using r7), rfl, MI_cast M38 fun u => (atM_succ s r2 u).symm, Mod.fresh ((G22.trans g33).trans g36) m38 (by omega)⟩
      · have := h14.num
        have := M.lt
        omega
      · omega
    · have r6 : (nth tr t).lev > prev tr t := by simpa using r6
      rw [if_pos r6] at okx
      have r7 : (nth tr t).rs.isEmpty = true := by
        rw [decide_eq_true r6] at r5
        simp [e1] at r5
        simp [r5]
      refine ⟨_, cell_add H22 rfl, (amount12_ok (by omega) (by omega) w22).mono ?_⟩
      rintro e w36 ⟨rfl, g36⟩
      obtain ⟨w38, hr, M38, m38⟩ := (M22.grow g36).put mapI_at (by unfold maxLen; omega) (wf_am r) (v := (t : Int) + 1) (wf64 (by omega) (by omega))
      refine ⟨_, rfl, w38, by rw [wrap64_of (by omega) (by omega)]; exact hr, _, cell_add ((H22.grow g36).put m38 (fun e => ?_)) rfl, _, ?_, t + 1, wN (by omega) (by omega), by omega, prev_succ.symm, range_succ_all ha (by rw [okx]; exact r7), rfl, MI_cast M38 fun u => (atM_succ s r2 u).symm, Mod.fresh (G22.trans g36) m38 (by omega)⟩
      · have := h14.num
        have := M.lt
        omega
      · omega
  · have s : t = tr.length := by simp at s; omega
    subst s
    rw [mayT_true hl ha]

theorem breaks_ok (h : TV w p tr) (hn : n = tr.length) (ok : TrOk tr) (hl : tr.length ≤ 4096) (hc : Vw (Value.int .i64) w q l) (hk : m = l.length) (hx : m ≤ maxLen) (hi : ∀ x ∈ l, isL x = true) :
    Calls Try.prog learn_breaks.id #[.slice p n c, .slice q m d] w fun e w' => e = .returned (.bool (brk tr l)) ∧ Grow w w' := by
  refine learn_breaks.calls ?_
  have hx' := hx
  unfold maxLen at hx'
  refine (places_ok h hn ok hl).mono ?_
  rintro e w1 ⟨b, rfl, M1, g1, _⟩
  refine ⟨_, rfl, fun I w' k => ∃ t : Nat, I = t ∧ t ≤ l.length ∧ k = l.length - t ∧ (∀ x ∈ l.take t, Br1 tr x) ∧ Grow w1 w', ⟨_, 0, rfl, Nat.zero_le _, rfl, by simp, Mod.refl w1⟩, ?_⟩
  rintro I w7 k _ ⟨t, rfl, ht, rfl, ha, G⟩
  have badx : ∀ {w' : World} {x : Int}, Grow w w' → x ∈ l → ¬ Br1 tr x → (Ending.returned (.bool false) = .returned (.bool (brk tr l)) ∧ Grow w w') := by
    intro w' x g hx hb
    have : brk tr l = false := by
      cases e : brk tr l with
      | false => rfl
      | true => exact absurd (brk_iff.1 e x hx) hb
    rw [this]; exact ⟨rfl, g⟩
  refine cnd_i (fun s => ?_) (fun s => ?_)
  · have s : t < l.length := by simp at s; omega
    refine (hc.grow (g1.trans G)).ix 0 (by omega) hk (by omega) fun a e => ⟨_, e, ?_⟩
    rw [Int.toNat_natCast]
    have hxi := hi _ (mem_getD s)
    have hb := litB_bd hxi
    refine (amount12_ok (by omega) (by omega) w7).mono ?_
    rintro e w10 ⟨rfl, g10⟩
    have G10 := (g1.trans G).trans g10
    refine ⟨_, rfl, w10, _, (M1.grow (G.trans g10)).look mapI_at (wf_am hxi), cnd_i (fun r5 => ?_) (fun r5 => ?_)⟩
    · refine badx G10 (mem_getD s) fun hB => ?_
      have r5 : atM tr (am (l.getD t 0)) = 0 := by simpa using r5
      exact atM_pos.1 r5 hB.lt
    have r5 : atN tr (am (l.getD t 0)) < tr.length := Classical.byContradiction fun e => by
      rw [atM_pos.2 e] at r5; simp at r5
    rw [atM_wrap hl r5]
    refine (h.grow G10).ix hn _ rfl r5 fun a2 x C e1 e2 v => ⟨_, C.1, ?_⟩
    rw [wrap64_of (by omega) (by omega), Int.zero_sub]
    refine cnd_i (fun r7 => badx G10 (mem_getD s) fun hB => ?_) (fun r7 => ⟨_, ?_, t + 1, wN (by omega) (by omega), by omega, rfl, fun x hx => ?_, G.trans g10⟩)
    · rw [hB.eq] at r7
      simp at r7
    · omega
    · rcases (mem_take_succ s).1 hx with e | e
      · exact ha x e
      · subst e
        exact ⟨hxi, r5, by simpa using r7⟩
  · have s : t = l.length := by simp at s; omega
    subst s
    rw [List.take_length] at ha
    rw [brk_iff.2 ha]
    exact ⟨rfl, g1.trans G⟩

/-- May a trail and a broken clause be? -/
def mayL (tr : List As) (l : List Int) : Bool := mayT tr && clB l && brk tr l

theorem learnCheck_ok (h : TV w p tr) (hn : n = tr.length) (hc : Vw (Value.int .i64) w q l) (hk : m = l.length) (hx : m ≤ maxLen) :
    Calls Try.prog learn_Check.id #[.slice p n c, .slice q m d] w fun e w' => e = .returned (.int .i64 (if mayL tr l then 0 else 1)) ∧ Grow w w' := by
  refine learn_Check.calls ?_
  refine (sound_ok h hn).mono ?_
  rintro e w1 ⟨rfl, g1⟩
  refine ⟨_, rfl, cnd_i (fun r => ⟨?_, g1⟩) (fun r => (litCheck_ok (hc.grow g1) hk hx).mono ?_)⟩
  · have r : mayT tr = false := by simpa using r
    unfold mayL; rw [r]; rfl
  have r : mayT tr = true := by simpa using r
  rintro e w3 ⟨rfl, g3⟩
  refine ⟨_, rfl, cnd_i (fun r2 => ⟨?_, g1.trans g3⟩) (fun r2 => ?_)⟩
  · have : clB l = false := by
      cases e : clB l with
      | false => rfl
      | true => rw [e] at r2; simp at r2
    unfold mayL; rw [this, Bool.and_false]; rfl
  have r2 : clB l = true := by
    cases e : clB l with
    | true => rfl
    | false => rw [e] at r2; simp at r2
  obtain ⟨ok, hl⟩ := mayT_ok r
  refine (breaks_ok (h.grow (g1.trans g3)) hn ok hl (hc.grow (g1.trans g3)) hk hx (clB_all r2).1).mono ?_
  rintro e w5 ⟨rfl, g5⟩
  refine ⟨_, rfl, cnd_i (fun r3 => ⟨?_, (g1.trans g3).trans g5⟩) (fun r3 => ⟨?_, (g1.trans g3).trans g5⟩)⟩
  · have r3 : brk tr l = false := by simpa using r3
    unfold mayL; rw [r3, Bool.and_false]; rfl
  · have r3 : brk tr l = true := by simpa using r3
    unfold mayL; rw [r, r2, r3]; rfl
end Go.Proofs.Ytlpmapeojecenaa.W
