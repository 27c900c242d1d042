/- Layer 12: which trails there may be, by the document. -/
import Derived.Test.YtlpmapeojecenaaLearn1
namespace Go.Proofs.Ytlpmapeojecenaa.W
open Go Go.Fw Go.RowKit Go.SoP Go.LiP Go.LeP
variable {w : World} {p q : Option Addr} {n c m d : Nat} {tr : List As} {l : List Int}

theorem mapI_at : mapI Try.prog ty_map_int_int ty_int ty_int = true := by kernel_rfl
theorem mapB_in : mapB Try.prog ty_map_int_bool ty_int ty_bool = true := by kernel_rfl
theorem wf_am {x : Int} (h : isL x = true) : (Lit.int .i64 (am x)).wf = true := by
  have := am_bd (x := x) h
  exact wf64 (by omega) (by omega)
theorem wf_lit {x : Int} (h : isL x = true) : (Lit.int .i64 x).wf = true := by
  have := litB_bd h
  exact wf64 (by omega) (by omega)
/-- A copy of a trail's assignment. -/
theorem asCopy {w2 : World} {u v : Int} {m d : Nat} {K : World → Prop} (h : New (.cells #[.int .i64 0, .int .i64 0, .slice none 0 0] 73) w n w2)
    (hk : ∀ w3, Has w3 n #[.int .i64 u, .int .i64 v, .slice q m d] → Grow w w3 → K w3) : ∃ w3, StoreAt (Addr.mk n 0 none) 0 [.int .i64 u, .int .i64 v, .slice q m d] w2 w3 ∧ K w3 := by
  have e := h.num
  exact store_i h.has rfl rfl fun w3 H m => hk w3 H (h.mod.then m fun k hk (e : k = n) => by omega)
theorem prev_succ {t : Nat} : prev tr (t + 1) = (nth tr t).lev := by unfold prev; rw [if_neg (by omega), Nat.add_sub_cancel]
theorem prev_zero : prev tr 0 = 0 := by unfold prev; rw [if_pos rfl]
theorem wo_eq (l : List Int) (x : Int) : Go.Proofs.Ytlpmapeojecenaa.W.wo l x = LeP.wo l x := rfl
/-- A trail's beginning. -/
theorem TV.pre (h : TV w p tr) {t : Nat} (ht : t ≤ tr.length) {c : Nat} : TV w (if c = 0 then p else p.map (·.add (0 * 3))) (tr.take t) := by
  have e : p.map (·.add (0 * 3)) = p := by cases p <;> simp [Addr.add]
  rw [e, ite_self]
  exact h.take ht

theorem refMay12_ok (h : TV w p tr) (hn : n = tr.length) (hm : n ≤ 1000) (hc : n ≤ c) (hbl : ∀ i, i < tr.length → (nth tr i).lev < 9223372036854775808) : Calls Try.prog fathomref12_May.id #[.slice p n c] w fun e w' => e = .returned (.bool (mayT tr)) ∧ Grow w w' := by
  refine fathomref12_May.calls ?_
  refine ⟨fun L I w' k => ∃ t : Nat, I = t ∧ t ≤ tr.length ∧ L = prev tr t ∧ 0 ≤ L ∧ (List.range t).all (okT tr) = true ∧ k = tr.length - t ∧ Grow w w', ⟨_, 0, rfl, Nat.zero_le _, prev_zero.symm, Int.le_refl _, rfl, rfl, Mod.refl w⟩, ?_⟩
  rintro L I w6 k _ ⟨t, rfl, ht, rfl, h0, ha, rfl, G⟩
  refine cnd_i (fun s => ?_) (fun s => ⟨?_, G⟩)
  · have s : t < tr.length := by simp at s; omega
    have bad : ∀ {w' : World}, Grow w w' → okT tr t = false → (Ending.returned (.bool false) = .returned (.bool (mayT tr)) ∧ Grow w w') := fun g hf => by
      rw [mayT_false s hf]; exact ⟨rfl, g⟩
    refine (h.grow G).ix hn t rfl s fun a x C e1 e2 v => ⟨_, _, _, _, _, C, fun n11 w12 h12 => asCopy h12 fun w13 H G13 => ⟨_, cell_add (Has.drew H) rfl, (refLit_ok _ w13.drew).mono ?_⟩⟩
    rintro e w15 ⟨rfl, g15⟩
    have G15 : Grow w w15 := (G.trans G13).drew.trans g15
    have H15 := (Has.drew H).grow g15
    have okx : okT tr t = (isL (nth tr t).lit && decide (¬ atN (tr.take t) (am (nth tr t).lit) < t) && decide (prev tr t ≤ (nth tr t).lev ∧ (nth tr t).lev ≤ prev tr t + 1) &&
      (if (nth tr t).lev > prev tr t then (nth tr t).rs.isEmpty else decide ((nth tr t).rs.length ≤ 256) && decide ((nth tr t).lit ∈ (nth tr t).rs) && brk (tr.take t) (LeP.wo (nth tr t).rs (nth tr t).lit))) := rfl
    refine ⟨_, rfl, cnd_i (fun r => bad G15 (by rw [okx, isL_litB, show litB (nth tr t).lit = false by simpa using r]; rfl)) (fun r => ?_)⟩
    have r : isL (nth tr t).lit = true := by rw [isL_litB]; simpa using r
    have hb := litB_bd r
    refine slK_i 0 t c rfl rfl rfl (Nat.le_refl _) (by omega) (Nat.zero_le _) ⟨_, cell_add H15 rfl, (refVar_ok (l := (nth tr t).lit) (by omega) w15 (by omega)).mono ?_⟩
    rintro e w19 ⟨rfl, g19⟩
    have G19 := G15.trans g19
    rw [amt_am]
    have okp := mayT_take ht (by omega) ha
    have hlp : (tr.take t).length = t := len_take ht
    refine ⟨_, rfl, (At_ok ((h.grow G19).pre ht) (n := t - 0) (by rw [hlp]; omega) (by unfold maxLen; omega) okp.isl _).mono ?_⟩
    rintro e w21 ⟨rfl, g21⟩
    have G21 := G19.trans g21
    have H21 := (H15.grow g19).grow g21
    rw [hlp]
    refine ⟨_, rfl, cnd_i (fun r2 => bad G21 ?_) (fun r2 => ?_)⟩
    · have r2 : atN (tr.take t) (am (nth tr t).lit) < t := by
        by_cases e : atN (tr.take t) (am (nth tr t).lit) < t
        · exact e
        · rw [if_neg e] at r2; simp at r2
      rw [okx, decide_eq_false (by simp [r2]), Bool.and_false]; rfl
    have r2 : ¬ atN (tr.take t) (am (nth tr t).lit) < t := by
      intro e
      rw [if_pos e] at r2
      simp at r2
    have hlt := hbl t s
    refine ⟨_, cell_add H21 rfl, cnd_i (fun r3 => bad G21 ?_) (fun r3 => ⟨_, cell_add H21 rfl, cnd_i (fun r4 => bad G21 ?_) (fun r4 => ⟨_, cell_add H21 rfl, ?_⟩)⟩)⟩
    · simp at r3
      rw [okx, decide_eq_false (p := _ ≤ _ ∧ _) (by omega), Bool.and_false]; rfl
    · simp at r3
      rw [wrap64_of (by omega) (by omega)] at r4
      simp at r4
      rw [okx, decide_eq_false (p := _ ≤ _ ∧ _) (by omega), Bool.and_false]; rfl
    have r3 : prev tr t ≤ (nth tr t).lev := by simpa using r3
    rw [wrap64_of (by omega) (by omega)] at r4
    have r4 : (nth tr t).lev - 1 ≤ prev tr t := by simpa using r4
    have okr : okT tr t = (if (nth tr t).lev > prev tr t then (nth tr t).rs.isEmpty else decide ((nth tr t).rs.length ≤ 256) && decide ((nth tr t).lit ∈ (nth tr t).rs) && brk (tr.take t) (LeP.wo (nth tr t).rs (nth tr t).lit)) := by
      rw [okx, r, decide_eq_true (p := ¬ _) r2, decide_eq_true (p := _ ≤ _ ∧ _) ⟨r3, by omega⟩]; rfl
    refine cnd_i (fun r5 => ⟨_, _, _, cell_add H21 rfl, cnd_i (fun r6 => bad G21 ?_) (fun r6 => ⟨_, cell_add H21 rfl, _, ?_, t + 1, wN (by omega) (by omega), by omega, prev_succ.symm, by omega, range_succ_all ha ?_, rfl, G21⟩)⟩) (fun r5 => ?_)
    · have r5 : (nth tr t).lev > prev tr t := by simpa using r5
      rw [okr, if_pos r5]
      rw [e1] at r6
      simp at r6
      rw [List.isEmpty_eq_false_iff]
      intro e; rw [e] at r6; simp at r6
    · omega
    · have r5 : (nth tr t).lev > prev tr t := by simpa using r5
      rw [okr, if_pos r5]
      rw [e1] at r6
      simpa using r6
    have r5 : ¬ (nth tr t).lev > prev tr t := by simpa using r5
    rw [if_neg r5] at okr
    refine ⟨_, _, _, cell_add H21.drew rfl, cnd_i (fun r6 => bad G21.drew ?_) (fun r6 => ?_)⟩
    · simp at r6
      rw [okr, decide_eq_false (by omega)]; rfl
    have r6 : (nth tr t).rs.length ≤ 256 := by simp at r6; omega
    rw [decide_eq_true r6] at okr
    have v21 : Vw (Value.int .i64) w21.drew x.p (nth tr t).rs := (((v.grow G13).drew.grow g15).grow (g19.trans g21)).drew
    refine ⟨_, _, _, cell_add H21.drew rfl, _, cell_add H21.drew rfl, (has_ok v21 e1 e2 _).mono ?_⟩
    rintro e w31 ⟨rfl, g31⟩
    have G31 := G21.drew.trans g31
    have H31 := H21.drew.grow g31
    refine ⟨_, rfl, cnd_i (fun r7 => bad G31 ?_) (fun r7 => ?_)⟩
    · have r7 : (nth tr t).lit ∉ (nth tr t).rs := by simpa using r7
      rw [okr, decide_eq_false r7]; rfl
    have r7 : (nth tr t).lit ∈ (nth tr t).rs := by simpa using r7
    rw [decide_eq_true r7] at okr
    refine slK_i 0 t c rfl rfl rfl (Nat.le_refl _) (by omega) (Nat.zero_le _) ⟨_, _, _, cell_add H31 rfl, _, cell_add H31 rfl, (without_ok (v21.grow g31) e1 (by omega) _).mono ?_⟩
    rintro e w36 ⟨q2, d2, rfl, O, g36, _⟩
    have G36 := G31.trans g36
    refine ⟨_, _, _, rfl, (refBreaks_ok ((h.grow G36).pre ht) (n := t - 0) (by rw [hlp]; omega) (by unfold maxLen; omega) okp.isl O.vw rfl ?_).mono ?_⟩
    · have := wo_len (l := (nth tr t).rs) (x := (nth tr t).lit)
      unfold maxLen; omega
    rintro e w38 ⟨rfl, g38⟩
    refine ⟨_, rfl, cnd_i (fun r8 => bad (G36.trans g38) ?_) (fun r8 => ⟨_, ?_, t + 1, wN (by omega) (by omega), by omega, ?_, h0, range_succ_all ha ?_, rfl, G36.trans g38⟩)⟩
    · have r8 : brk (tr.take t) (LeP.wo (nth tr t).rs (nth tr t).lit) = false := by simpa [wo_eq] using r8
      rw [okr, r8]; rfl
    · omega
    · rw [prev_succ]; omega
    · have r8 : brk (tr.take t) (LeP.wo (nth tr t).rs (nth tr t).lit) = true := by simpa [wo_eq] using r8
      rw [okr, r8]; rfl
  · have s : t = tr.length := by simp at s; omega
    subst s
    rw [mayT_true (by omega) ha, decide_eq_true (by omega)]
end Go.Proofs.Ytlpmapeojecenaa.W
