/- Layer 1: the statements LitNorms, LitValues and LitResolves. -/
import Derived.Test.YtlpmapeojecenaaLit3
import Derived.Test.YtlpmapeojecenaaFwRead
namespace Go.Proofs.Ytlpmapeojecenaa.W
open Go Go.Fw Go.RowKit Go.SoP Go.LiP
variable {w : World} {p q : Option Addr} {n c : Nat} {l : List Int}

theorem clvP_mem {m c d : List Int} (h : ∀ x, x ∈ c ↔ x ∈ d) : clvP m c = clvP m d := by
  have e : ∀ f : Int → Bool, c.any f = d.any f := fun f => by
    rw [Bool.eq_iff_iff, List.any_eq_true, List.any_eq_true]
    constructor
    · rintro ⟨x, h1, h2⟩; exact ⟨x, (h x).1 h1, h2⟩
    · rintro ⟨x, h1, h2⟩; exact ⟨x, (h x).2 h1, h2⟩
  unfold clvP
  rw [e, e]
theorem clvP_norm (m c : List Int) : clvP m (norm c) = clvP m c := clvP_mem fun x => (norm_isN c).mem x
theorem clB_norm {c : List Int} (h : clB c = true) : clB (norm c) = true := by
  have h1 := clB_all h
  have := norm_len c
  unfold clB
  rw [decide_eq_true (by omega), Bool.and_true, List.all_eq_true]
  exact norm_lit h1.1
theorem valP_neg {m : List Int} {l : Int} (h : litB l = true) : valP m (-l) = -valP m l := by
  have hb := litB_bd h
  have hb' : litB (-l) = true := by unfold litB; exact decide_eq_true (by omega)
  have ha : amt (-l) = amt l := by unfold amt; split <;> split <;> omega
  unfold valP
  rw [h, hb', ha]
  split
  · rfl
  · split
    · rfl
    · generalize m.getD (amt l - 1).toNat 0 = z at *
      by_cases h1 : z > 0 <;> by_cases h2 : l > 0 <;> by_cases h3 : -l > 0 <;> simp [h1, h2] <;> omega
theorem clvP_take {m : List Int} {t : Nat} (ht : t < l.length) : clvP m (l.take (t + 1)) = imax (clvP m (l.take t)) (valP m (l.getD t 0)) := by
  unfold clvP
  rw [any_take_succ ht (d := 0), any_take_succ ht (d := 0)]
  have hv := valP_cases m (l.getD t 0)
  generalize valP m (l.getD t 0) = v at *
  cases (l.take t).any fun x => decide (valP m x = 1) <;> cases (l.take t).any fun x => decide (valP m x = 0) <;> rcases hv with rfl | rfl | rfl <;> decide

theorem litClause_ok {m : List Int} {k d : Nat} (h : Vw (Value.int .i64) w p m) (hn : n = m.length) (hm : n ≤ maxLen) (hl : Vw (Value.int .i64) w q l) (hk : k = l.length) (hx : k ≤ maxLen) :
    Calls Try.prog lit_Clause.id #[.slice p n c, .slice q k d] w fun e w' => e = .returned (.int .i64 (if clB l then clvP m l else 0)) ∧ Grow w w' := by
  refine lit_Clause.calls ?_
  refine (litCheck_ok hl hk hx).mono ?_
  rintro e w1 ⟨rfl, g1⟩
  cases hc : clB l with
  | false => exact ⟨_, rfl, cnd_t rfl ⟨rfl, g1⟩⟩
  | true =>
  have hlen := (clB_all hc).2
  refine ⟨_, rfl, cnd_f rfl ⟨fun B I w' k => ∃ t : Nat, I = t ∧ t ≤ l.length ∧ k = l.length - t ∧ B = clvP m (l.take t) ∧ Grow w w', ⟨_, 0, rfl, Nat.zero_le _, rfl, rfl, g1⟩, ?_⟩⟩
  rintro B I w2 k2 _ ⟨t, rfl, ht, rfl, rfl, G⟩
  refine cnd_i (fun s => ?_) (fun s => ⟨?_, G⟩)
  · have s : t < l.length := by simp at s; omega
    refine (hl.grow G).ix 0 (by omega) hk (by omega) fun a e => ⟨_, e, ?_⟩
    rw [Int.toNat_natCast]
    refine (litValue_ok (h.grow G) hn hm _).mono ?_
    rintro e w3 ⟨rfl, g3⟩
    refine ⟨_, rfl, _, ?_, t + 1, wN (by omega) (by omega), by omega, rfl, (clvP_take s).symm, G.trans g3⟩
    omega
  · have : t = l.length := by simp at s; omega
    subst this
    rw [List.take_length]; rfl

theorem lit2 {a b : Int} {nb : Nat} {w0 : World} (h : New (.cells #[.int .i64 a, .int .i64 b] 3) w0 nb w) : Vw (Value.int .i64) w (some ⟨nb, 0, none⟩) [a, b] := by
  intro j hj
  have : j = 0 ∨ j = 1 := by simp at hj; omega
  rcases this with rfl | rfl
  · exact ⟨_, rfl, cell_add h.has rfl⟩
  · exact ⟨_, rfl, cell_add h.has rfl⟩
theorem lit3 {a b d : Int} {nb : Nat} {w0 : World} (h : New (.cells #[.int .i64 a, .int .i64 b, .int .i64 d] 3) w0 nb w) : Vw (Value.int .i64) w (some ⟨nb, 0, none⟩) [a, b, d] := by
  intro j hj
  have : j = 0 ∨ j = 1 ∨ j = 2 := by simp at hj; omega
  rcases this with rfl | rfl | rfl
  · exact ⟨_, rfl, cell_add h.has rfl⟩
  · exact ⟨_, rfl, cell_add h.has rfl⟩
  · exact ⟨_, rfl, cell_add h.has rfl⟩

theorem awake01 (w : World) : Calls Try.prog fathomlaw01_awake.id #[] w fun e w' => e = .returned (.bool true) ∧ Grow w w' := by
  refine fathomlaw01_awake.calls ?_
  intro n1 w1 h1 n3 w3 h3
  have v1 := (lit2 h1).grow h3.mod
  have v3 := lit2 h3
  refine (resolve_ok v1 (n := 2) (c := 2) rfl (by decide) v3 (m := 2) (d := 2) rfl (by decide) 1).mono ?_
  rintro e w5 ⟨r, k, rfl, o5, g5⟩
  have eE : resE [1, 2] [-1, 3] 1 = 0 := by decide
  have eL : resL [1, 2] [-1, 3] 1 = [2, 3] := by decide
  rw [eL] at o5
  rw [eL, eE]
  refine ⟨_, _, _, _, rfl, fun n8 w9 h9 => ?_⟩
  refine (norm_ok (lit3 h9) (n := 3) (c := 3) rfl (by decide)).mono ?_
  rintro e w10 ⟨q2, d2, m2, rfl, rfl, o10, g10⟩
  have eN : (if clB [-2, 1, -2] then norm [-2, 1, -2] else []) = [1, -2] := by decide
  have eT : (clB [-2, 1, -2] && taut [-2, 1, -2]) = false := by decide
  rw [eN] at o10
  rw [eN, eT]
  refine ⟨_, _, _, _, rfl, cnd_t rfl fun n13 w14 h14 => ?_⟩
  have o14 := ((o5.grow h9.mod).grow g10).grow h14.mod
  refine (refInts_ok o14.vw (lit2 h14) (n := 2) (m := 2) (c := k) (d := 2) rfl rfl (by decide)).mono ?_
  rintro e w15 ⟨rfl, g15⟩
  refine ⟨_, rfl, cnd_t rfl fun n17 w18 h18 => ?_⟩
  have o18 := ((o10.grow h14.mod).grow g15).grow h18.mod
  refine (refInts_ok o18.vw (lit2 h18) (n := 2) (m := 2) (c := d2) (d := 2) rfl rfl (by decide)).mono ?_
  rintro e w19 ⟨rfl, g19⟩
  refine ⟨_, rfl, cnd_t rfl ⟨rfl, ?_⟩⟩
  exact (((((((h1.mod.trans h3.mod).trans g5).trans h9.mod).trans g10).trans h14.mod).trans g15).trans h18.mod).trans g19

/-- The end of each statement of the layer. -/
theorem awk01 {w0 : World} (g : Grow w0 w) : Calls Try.prog fathomlaw01_awake.id #[] w fun e w1 => ∃ r2 : Bool, e = .returned (.bool r2) ∧ (Ending.returned (.bool r2) = .returned (.bool true) ∧ Grow w0 w1) := by
  refine (awake01 w).mono ?_
  rintro e w1 ⟨rfl, g1⟩
  exact ⟨_, rfl, rfl, g.trans g1⟩

theorem LitNorms_calls (h : Vw (Value.int .i64) w p l) (hn : n = l.length) (hm : n ≤ maxLen) : Calls Try.prog fathomlaw01_LitNorms.id #[.slice p n c] w fun e w' => e = .returned (.bool true) ∧ Grow w w' := by
  refine fathomlaw01_LitNorms.calls ?_
  refine cnd_i (fun _ => awk01 (Mod.refl w)) (fun _ => ?_)
  refine (norm_ok h hn hm).mono ?_
  rintro e w1 ⟨q, d, m, rfl, rfl, o1, g1⟩
  refine ⟨_, _, _, _, rfl, (refMay_ok (h.grow g1) hn hm).mono ?_⟩
  rintro e w2 ⟨rfl, g2⟩
  have G2 := g1.trans g2
  have V2 := h.grow G2
  refine ⟨_, rfl, cnd_i (fun s => ?_) (fun s => ?_)⟩
  · have s : clB l = false := by simpa using s
    refine (litCheck_ok V2 hn hm).mono ?_
    rintro e w3 ⟨rfl, g3⟩
    rw [s]
    exact ⟨_, rfl, cnd_t rfl (cnd_t rfl (cnd_t rfl (awk01 (G2.trans g3))))⟩
  have s : clB l = true := by simpa using s
  have hll := clB_lit s
  rw [s, if_pos rfl] at o1
  rw [s, if_pos rfl, Bool.true_and]
  refine cnd_i (fun _ => ?_) (fun r => ?_)
  · refine (litCheck_ok V2 hn hm).mono ?_
    rintro e w3 ⟨rfl, g3⟩
    rw [s]
    exact ⟨_, rfl, cnd_t rfl (awk01 (G2.trans g3))⟩
  have r : n ≤ 600 := by simp at r; omega
  have hnl := norm_len l
  refine (litCheck_ok V2 hn hm).mono ?_
  rintro e w3 ⟨rfl, g3⟩
  rw [s]
  have G3 := G2.trans g3
  refine ⟨_, rfl, cnd_t rfl ((refOrder_ok (h.grow G3) hn (by omega) hll).mono ?_)⟩
  rintro e w4 ⟨q4, d4, rfl, o4, g4⟩
  have O4 := ((o1.grow g2).grow g3).grow g4
  refine ⟨_, _, _, rfl, (refInts_ok O4.vw o4.vw rfl rfl (by unfold maxLen; omega)).mono ?_⟩
  rintro e w5 ⟨rfl, g5⟩
  have G5 := (G3.trans g4).trans g5
  refine ⟨_, rfl, cnd_t (by simp) ((refTaut_ok (h.grow G5) hn hm hll).mono ?_)⟩
  rintro e w6 ⟨rfl, g6⟩
  have G6 := G5.trans g6
  have O6 := (O4.grow g5).grow g6
  refine ⟨_, rfl, cnd_t (by simp) ((within_ok O6.vw rfl (by unfold maxLen; omega) (h.grow G6) hn hm).mono ?_)⟩
  rintro e w7 ⟨rfl, g7⟩
  refine ⟨_, rfl, cnd_t (decide_eq_true fun x hx => ((norm_isN l).mem x).1 hx) ((within_ok (h.grow (G6.trans g7)) hn hm (O6.grow g7).vw rfl (by unfold maxLen; omega)).mono ?_)⟩
  rintro e w8 ⟨rfl, g8⟩
  exact ⟨_, rfl, cnd_t (decide_eq_true fun x hx => ((norm_isN l).mem x).2 hx) (awk01 ((G6.trans g7).trans g8))⟩

theorem LitValues_calls {m : List Int} {k d : Nat} (hv : Vw (Value.int .i64) w q m) (hk : k = m.length) (hx : k ≤ maxLen) (h : Vw (Value.int .i64) w p l) (hn : n = l.length) (hm : n ≤ maxLen) (x : Int) : Calls Try.prog fathomlaw01_LitValues.id #[.slice q k d, .slice p n c, .int .i64 x] w fun e w' => e = .returned (.bool true) ∧ Grow w w' := by
  refine fathomlaw01_LitValues.calls ?_
  refine cnd_i (fun _ => awk01 (Mod.refl w)) (fun r => ?_)
  have r : n ≤ 600 := by simp at r; omega
  refine (litValue_ok hv hk hx x).mono ?_
  rintro e w1 ⟨rfl, g1⟩
  refine ⟨_, rfl, (refValue_ok (hv.grow g1) hk hx x).mono ?_⟩
  rintro e w2 ⟨rfl, g2⟩
  have G2 := g1.trans g2
  refine ⟨_, rfl, cnd_f (by simp) ((refMay_ok (h.grow G2) hn hm).mono ?_)⟩
  rintro e w3 ⟨rfl, g3⟩
  have G3 := G2.trans g3
  refine ⟨_, rfl, cnd_i (fun s => ?_) (fun s => ?_)⟩
  · have s : clB l = false := by simpa using s
    refine (litClause_ok (hv.grow G3) hk hx (h.grow G3) hn hm).mono ?_
    rintro e w4 ⟨rfl, g4⟩
    rw [s]
    exact ⟨_, rfl, cnd_t rfl (awk01 (G3.trans g4))⟩
  have s : clB l = true := by simpa using s
  refine (norm_ok (h.grow G3) hn hm).mono ?_
  rintro e w4 ⟨q4, d4, m4, rfl, rfl, o4, g4⟩
  rw [s, if_pos rfl] at o4
  rw [s, if_pos rfl]
  have hnl := norm_len l
  have G4 := G3.trans g4
  refine ⟨_, _, _, _, rfl, (litClause_ok (hv.grow G4) hk hx (h.grow G4) hn hm).mono ?_⟩
  rintro e w5 ⟨rfl, g5⟩
  have G5 := G4.trans g5
  refine ⟨_, rfl, (refClauseV_ok (hv.grow G5) hk hx (h.grow G5) hn hm).mono ?_⟩
  rintro e w6 ⟨rfl, g6⟩
  have G6 := G5.trans g6
  refine ⟨_, rfl, cnd_t (by rw [s]; simp) ((litClause_ok (hv.grow G6) hk hx ((o4.grow g5).grow g6).vw rfl (by unfold maxLen; omega)).mono ?_)⟩
  rintro e w7 ⟨rfl, g7⟩
  have G7 := G6.trans g7
  refine ⟨_, rfl, (litClause_ok (hv.grow G7) hk hx (h.grow G7) hn hm).mono ?_⟩
  rintro e w8 ⟨rfl, g8⟩
  exact ⟨_, rfl, cnd_t (by rw [s, clB_norm s, clvP_norm]; simp) (awk01 (G7.trans g8))⟩

/-- What is resolved is true where both are. -/
theorem resolve_true {m a b : List Int} {v : Int} (hb : litB v = true) (h1 : clvP m a = 1) (h2 : clvP m b = 1) (h3 : valP m v ≠ 0) : clvP m (norm (wo a v ++ wo b (-v))) = 1 := by
  rw [clvP_norm, clvP_one, List.any_eq_true]
  obtain ⟨x, hx, ex⟩ := List.any_eq_true.1 (clvP_one.1 h1)
  obtain ⟨y, hy, ey⟩ := List.any_eq_true.1 (clvP_one.1 h2)
  have ex : valP m x = 1 := of_decide_eq_true ex
  have ey : valP m y = 1 := of_decide_eq_true ey
  have hn := valP_neg (m := m) hb
  rcases valP_cases m v with e | e | e
  · exact absurd e h3
  · refine ⟨y, List.mem_append.2 (.inr (List.mem_filter.2 ⟨hy, ?_⟩)), decide_eq_true ey⟩
    rw [bne_iff_ne]
    rintro rfl
    omega
  · refine ⟨x, List.mem_append.2 (.inl (List.mem_filter.2 ⟨hx, ?_⟩)), decide_eq_true ex⟩
    rw [bne_iff_ne]
    rintro rfl
    omega

theorem LitResolves_calls {a b m : List Int} {pa pb pm : Option Addr} {na nb nm ca cb cm : Nat} (ha : Vw (Value.int .i64) w pa a) (hna : na = a.length) (hma : na ≤ maxLen) (hb : Vw (Value.int .i64) w pb b) (hnb : nb = b.length) (hmb : nb ≤ maxLen)
    (hm : Vw (Value.int .i64) w pm m) (hnm : nm = m.length) (hmm : nm ≤ maxLen) {v : Int} (hv : -9223372036854775808 ≤ v ∧ v < 9223372036854775808) :
    Calls Try.prog fathomlaw01_LitResolves.id #[.slice pa na ca, .slice pb nb cb, .agg #[.slice pm nm cm, .int .i64 v]] w fun e w' => e = .returned (.bool true) ∧ Grow w w' := by
  refine fathomlaw01_LitResolves.calls ?_
  intro n1 w1 h1
  have g1 := h1.mod
  refine cnd_i (fun _ => awk01 g1) (fun r1 => cnd_i (fun _ => awk01 g1) (fun r2 => ?_))
  have r1 : na ≤ 600 := by simp at r1; omega
  have r2 : nb ≤ 600 := by simp at r2; omega
  refine ⟨_, cell_add h1.has rfl, (resolve_ok (ha.grow g1) hna hma (hb.grow g1) hnb hmb v).mono ?_⟩
  rintro e w2 ⟨rp, rk, rfl, o2, g2⟩
  have G2 := g1.trans g2
  have H2 := h1.has.grow g2
  -- where an error is told
  have bad : ∀ {w' : World} {z : Int}, Grow w w' → resE a b v = z → z ≠ 0 → cnd (resE a b v == z) (cnd (((resL a b v).length : Int) == (0 : Int))
      (Calls Try.prog fathomlaw01_awake.id #[] w' fun e w13 => ∃ r14 : Bool, e = .returned (.bool r14) ∧ (Ending.returned (.bool r14) = .returned (.bool true) ∧ Grow w w13))
      (Ending.returned (.bool false) = .returned (.bool true) ∧ Grow w w')) (Ending.returned (.bool false) = .returned (.bool true) ∧ Grow w w') := by
    intro w' z g hz h0
    have : resL a b v = [] := by unfold resL; rw [if_neg (by rw [hz]; exact h0)]
    exact cnd_t (by rw [hz]; simp) (cnd_t (by rw [this]; rfl) (awk01 g))
  refine ⟨_, _, _, _, rfl, (refMay_ok (ha.grow G2) hna hma).mono ?_⟩
  rintro e w3 ⟨rfl, g3⟩
  have G3 := G2.trans g3
  refine ⟨_, rfl, cnd_i (fun s => bad G3 (by unfold resE; rw [if_pos (.inl (by simpa using s))]) (by decide)) (fun s1 => ?_)⟩
  refine (refMay_ok (hb.grow G3) hnb hmb).mono ?_
  rintro e w4 ⟨rfl, g4⟩
  have G4 := G3.trans g4
  have H4 := (H2.grow g3).grow g4
  refine ⟨_, rfl, cnd_i (fun s => bad G4 (by unfold resE; rw [if_pos (.inr (.inl (by simpa using s)))]) (by decide)) (fun s2 => ?_)⟩
  refine ⟨_, cell_add H4 rfl, cnd_i (fun s => bad G4 (by unfold resE; rw [if_pos (.inr (.inr (.inl (by simpa using s))))]) (by decide)) (fun s3 => ?_)⟩
  refine ⟨_, cell_add H4 rfl, cnd_i (fun s => bad G4 (by unfold resE; rw [if_pos (.inr (.inr (.inr (by simpa using s))))]) (by decide)) (fun s4 => ?_)⟩
  have s1 : clB a = true := by simpa using s1
  have s2 : clB b = true := by simpa using s2
  have s3 : ¬ v < 1 := by simpa using s3
  have s4 : ¬ v > 1048576 := by simpa using s4
  have hE : resE a b v = if v ∉ a ∨ -v ∉ b then 4 else 0 := by unfold resE; rw [if_neg (by rw [s1, s2]; simp; omega)]
  have ew : IntKind.i64.wrap (0 - v) = -v := by rw [wrap64_of (by omega) (by omega)]; omega
  have hlv : litB v = true := by unfold litB; exact decide_eq_true (by omega)
  refine ⟨_, cell_add H4 rfl, (has_ok (ha.grow G4) hna hma v).mono ?_⟩
  rintro e w5 ⟨rfl, g5⟩
  have G5 := G4.trans g5
  have H5 := H4.grow g5
  refine ⟨_, rfl, cnd_i (fun s => bad G5 (by rw [hE, if_pos (.inl (by simpa using s))]) (by decide)) (fun s5 => ⟨_, cell_add H5 rfl, ?_⟩)⟩
  rw [ew]
  refine (has_ok (hb.grow G5) hnb hmb (-v)).mono ?_
  rintro e w6 ⟨rfl, g6⟩
  have G6 := G5.trans g6
  have H6 := H5.grow g6
  refine ⟨_, rfl, cnd_i (fun s => bad G6 (by rw [hE, if_pos (.inr (by simpa using s))]) (by decide)) (fun s6 => ?_)⟩
  have s5 : v ∈ a := by simpa using s5
  have s6 : -v ∈ b := by simpa using s6
  have hE0 : resE a b v = 0 := by rw [hE, if_neg (by simp [s5, s6])]
  have hL : resL a b v = norm (wo a v ++ wo b (-v)) := by unfold resL; rw [if_pos hE0]
  rw [hE0, hL]
  rw [hL] at o2
  intro n35 w7 h7
  have e7 := h7.num
  have G7 := G6.trans h7.mod
  have H7 := H6.grow h7.mod
  refine ⟨_, cell_add H7 rfl, (without_ok (ha.grow G7) hna (by omega) v).mono ?_⟩
  rintro e w8 ⟨qa, da, rfl, oa, g8, fa⟩
  have G8 := G7.trans g8
  have hwa := wo_len (l := a) (x := v)
  have hwb := wo_len (l := b) (x := -v)
  have on : OwI ty_int w7 (some ⟨n35, 0, none⟩) 0 [] := New.empty h7
  refine ⟨_, _, _, rfl, app_fresh (W0 := w6) (on.grow g8) (h7.mod.trans g8) (fun b hb => by have := blk_some hb; omega) oa.vw rfl rfl (by simp; omega) fun w9 p9 c9 o9 g9 f9 => ?_⟩
  rw [List.nil_append] at o9 ⊢
  have G9 := G6.trans g9
  have H9 := H6.grow g9
  refine ⟨_, cell_add H9 rfl, ?_⟩
  rw [ew]
  refine (without_ok (hb.grow G9) hnb (by omega) (-v)).mono ?_
  rintro e w10 ⟨qb, db, rfl, ob, g10, fb⟩
  refine ⟨_, _, _, rfl, app_fresh (W0 := w6) (o9.grow g10) (g9.trans g10) f9 ob.vw rfl rfl (by omega) fun w11 p11 c11 o11 g11 f11 => ?_⟩
  have G11 := G6.trans g11
  have hlit : ∀ x ∈ wo a v ++ wo b (-v), litB x = true := by
    intro x hx
    rcases List.mem_append.1 hx with h | h
    · exact clB_lit s1 x (List.mem_filter.1 h).1
    · exact clB_lit s2 x (List.mem_filter.1 h).1
  have hnl := norm_len (wo a v ++ wo b (-v))
  rw [List.length_append] at hnl
  refine cnd_f rfl ((refOrder_ok o11.vw rfl (by rw [List.length_append]; omega) hlit).mono ?_)
  rintro e w12 ⟨q12, d12, rfl, o12, g12⟩
  have O12 := ((((o2.grow g3).grow g4).grow g5).grow g6).grow (g11.trans g12)
  refine ⟨_, _, _, rfl, (refInts_ok O12.vw o12.vw rfl rfl (by unfold maxLen; omega)).mono ?_⟩
  rintro e w13 ⟨rfl, g13⟩
  have G13 := (G11.trans g12).trans g13
  have H13 := H6.grow ((g11.trans g12).trans g13)
  refine ⟨_, rfl, cnd_f (by simp) ?_⟩
  refine ⟨_, _, _, cell_add H13 rfl, (refClauseV_ok (hm.grow G13) hnm hmm (ha.grow G13) hna hma).mono ?_⟩
  rintro e w14 ⟨rfl, g14⟩
  have G14 := G13.trans g14
  have H14 := H13.grow g14
  refine ⟨_, rfl, cnd_i (fun t1 => ?_) (fun _ => awk01 G14)⟩
  refine ⟨_, _, _, cell_add H14 rfl, (refClauseV_ok (hm.grow G14) hnm hmm (hb.grow G14) hnb hmb).mono ?_⟩
  rintro e w15 ⟨rfl, g15⟩
  have G15 := G14.trans g15
  have H15 := H14.grow g15
  refine ⟨_, rfl, cnd_i (fun t2 => ?_) (fun _ => awk01 G15)⟩
  refine ⟨_, _, _, cell_add H15 rfl, _, cell_add H15 rfl, (refValue_ok (hm.grow G15) hnm hmm v).mono ?_⟩
  rintro e w16 ⟨rfl, g16⟩
  have G16 := G15.trans g16
  have H16 := H15.grow g16
  refine ⟨_, rfl, cnd_i (fun t3 => ?_) (fun _ => awk01 G16)⟩
  have O16 := (((O12.grow g13).grow g14).grow g15).grow g16
  refine ⟨_, _, _, cell_add H16 rfl, (litClause_ok (hm.grow G16) hnm hmm O16.vw rfl (by unfold maxLen; omega)).mono ?_⟩
  rintro e w17 ⟨rfl, g17⟩
  have hcl : clB (norm (wo a v ++ wo b (-v))) = true := by
    unfold clB
    rw [decide_eq_true (by omega), Bool.and_true, List.all_eq_true]
    exact norm_lit hlit
  refine ⟨_, rfl, cnd_t ?_ (awk01 (G16.trans g17))⟩
  rw [hcl, if_pos rfl, resolve_true hlv (by simpa using t1) (by simpa using t2) (by simpa using t3)]
  rfl

theorem LitNorms_law (v0 : Value) (W : World) (h0 : RdV W (.sl (.int .i64)) v0) : Calls Try.prog fathomlaw01_LitNorms.id #[v0] W fun e W' => e = .returned (.bool true) ∧ Grow W W' := by
  obtain ⟨p, n, c, l, rfl, hn, h1, h2, h⟩ := ints_of_rd' h0
  exact LitNorms_calls h hn (Nat.le_trans h1 h2)
theorem LitValues_law (v0 v1 v2 : Value) (W : World) (h0 : RdV W (.sl (.int .i64)) v0) (h1 : RdV W (.sl (.int .i64)) v1) (h2 : RdV W (.int .i64) v2) : Calls Try.prog fathomlaw01_LitValues.id #[v0, v1, v2] W fun e W' => e = .returned (.bool true) ∧ Grow W W' := by
  obtain ⟨p, n, c, l, rfl, hn, a1, a2, h⟩ := ints_of_rd' h0
  obtain ⟨q, k, d, m, rfl, hk, b1, b2, h'⟩ := ints_of_rd' h1
  obtain ⟨x, rfl, _⟩ := h2
  exact LitValues_calls h hn (Nat.le_trans a1 a2) h' hk (Nat.le_trans b1 b2) x
theorem LitResolves_law (v0 v1 v2 : Value) (W : World) (h0 : RdV W (.sl (.int .i64)) v0) (h1 : RdV W (.sl (.int .i64)) v1) (h2 : RdV W (.cons (.sl (.int .i64)) (.cons (.int .i64) .nil)) v2) : Calls Try.prog fathomlaw01_LitResolves.id #[v0, v1, v2] W fun e W' => e = .returned (.bool true) ∧ Grow W W' := by
  obtain ⟨p, n, c, l, rfl, hn, a1, a2, h⟩ := ints_of_rd' h0
  obtain ⟨q, k, d, m, rfl, hk, b1, b2, h'⟩ := ints_of_rd' h1
  obtain ⟨cs, rfl, x, y, rfl, hx, z, u, rfl, ⟨v, rfl, hv⟩, rfl⟩ := h2
  have hv' : ∃ s, x = [s] ∧ RdV W (.sl (.int .i64)) s := by
    rcases hx with rfl | ⟨a', len', cap', rfl, g⟩
    · exact ⟨_, rfl, .inl rfl⟩
    · exact ⟨_, rfl, .inr ⟨a', len', cap', rfl, g⟩⟩
  obtain ⟨s, rfl, hs⟩ := hv'
  obtain ⟨r, j, i, o, rfl, hj, c1, c2, h''⟩ := ints_of_rd' hs
  exact LitResolves_calls h hn (Nat.le_trans a1 a2) h' hk (Nat.le_trans b1 b2) h'' hj (Nat.le_trans c1 c2) (bd64_of_wf hv)
end Go.Proofs.Ytlpmapeojecenaa.W
