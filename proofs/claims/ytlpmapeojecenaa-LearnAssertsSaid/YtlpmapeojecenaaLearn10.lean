/- Layer 12: the statements, told. -/
import Derived.Test.YtlpmapeojecenaaLearn9
namespace Go.Proofs.Ytlpmapeojecenaa.W
open Go Go.Fw Go.RowKit Go.SoP Go.LiP Go.LeP
variable {W0 w w' W u : World} {p q : Option Addr} {n c m d : Nat} {tr : List As} {l ld : List Int}

theorem as_of_rd {cs : List Value} (h : Rd w (.cons (.int .i64) (.cons (.int .i64) (.cons (.sl (.int .i64)) .nil))) cs) : ∃ (x : As) (s : Sl), cs = [.int .i64 x.lit, .int .i64 x.lev, .slice s.p s.n s.c] ∧ s.n = x.rs.length ∧ s.n ≤ maxLen ∧ Vw (Value.int .i64) w s.p x.rs ∧ x.lev < 9223372036854775808 := by
  obtain ⟨_, _, rfl, ⟨a, rfl, _⟩, _, _, rfl, ⟨b, rfl, hb⟩, ws, _, rfl, hc, rfl⟩ := h
  have hc' : ∃ u, ws = [u] ∧ RdV w (.sl (.int .i64)) u := by
    rcases hc with rfl | ⟨a', len', cap', rfl, g⟩
    · exact ⟨_, rfl, .inl rfl⟩
    · exact ⟨_, rfl, .inr ⟨a', len', cap', rfl, g⟩⟩
  obtain ⟨u, rfl, hu⟩ := hc'
  obtain ⟨p, n, c, l, rfl, h1, h2, h3, h4⟩ := ints_of_rd' hu
  exact ⟨⟨a, b, l⟩, ⟨p, n, c⟩, rfl, h1, Nat.le_trans h2 h3, h4, (bd64_of_wf hb).2⟩

theorem trail_of_rd {v : Value} (h : RdV w (.sl (.cons (.int .i64) (.cons (.int .i64) (.cons (.sl (.int .i64)) .nil)))) v) : ∃ p n c tr, v = .slice p n c ∧ n = tr.length ∧ n ≤ c ∧ TV w p tr ∧ ∀ i, i < tr.length → (nth tr i).lev < 9223372036854775808 := by
  rcases h with rfl | ⟨a, len, cap, rfl, h1, h2, h3⟩
  · exact ⟨none, 0, 0, [], rfl, rfl, Nat.le_refl _, fun i hi => by simp at hi, fun i hi => by simp at hi⟩
  · have : ∀ i, ∃ x : As, i < len → ∃ s : Sl, CellsAt w (a.add (i * 3)) 0 [.int .i64 x.lit, .int .i64 x.lev, .slice s.p s.n s.c] ∧ s.n = x.rs.length ∧ s.n ≤ maxLen ∧ Vw (Value.int .i64) w s.p x.rs ∧ x.lev < 9223372036854775808 := by
      intro i
      by_cases hi : i < len
      · obtain ⟨es, _, hc, hr⟩ := h3 i hi
        obtain ⟨x, s, rfl, hx⟩ := as_of_rd hr
        exact ⟨x, fun _ => ⟨s, hc, hx⟩⟩
      · exact ⟨d0, fun h => absurd h hi⟩
    have en : ∀ i, i < len → nth ((List.range len).map fun i => Classical.choose (this i)) i = Classical.choose (this i) := fun i hi => by simp [nth, List.getD, hi]
    refine ⟨some a, len, cap, (List.range len).map fun i => Classical.choose (this i), rfl, by simp, h1, fun i hi => ?_, fun i hi => ?_⟩
    · have hi' : i < len := by simpa using hi
      rw [en i hi']
      obtain ⟨s, h1, h2, h3, h4, _⟩ := Classical.choose_spec (this i) hi'
      exact ⟨a, s, rfl, h1, h2, h3, h4⟩
    · have hi' : i < len := by simpa using hi
      rw [en i hi']
      obtain ⟨s, h1, h2, h3, h4, h5⟩ := Classical.choose_spec (this i) hi'
      exact h5

theorem may12_ok (h : TV w p tr) (hn : n = tr.length) (hm : n ≤ 1000) (hc : n ≤ c) (hbl : ∀ i, i < tr.length → (nth tr i).lev < 9223372036854775808) (hq : Vw (Value.int .i64) w q l) (hk : m = l.length) (hx : m ≤ maxLen) :
    Calls Try.prog fathomlaw12_may.id #[.slice p n c, .slice q m d] w fun e w' => e = .returned (.bool (mayL tr l)) ∧ Grow w w' := by
  refine fathomlaw12_may.calls ?_
  refine (refMay12_ok h hn hm hc hbl).mono ?_
  rintro e w1 ⟨rfl, g1⟩
  refine ⟨_, rfl, cnd_i (fun r => ?_) (fun r => ⟨by unfold mayL; rw [r]; rfl, g1⟩)⟩
  obtain ⟨ok, hl⟩ := mayT_ok r
  refine (refMay_ok (hq.grow g1) hk hx).mono ?_
  rintro e w3 ⟨rfl, g3⟩
  refine ⟨_, rfl, cnd_i (fun r2 => ?_) (fun r2 => ⟨by unfold mayL; rw [r, r2]; rfl, g1.trans g3⟩)⟩
  refine (refBreaks_ok (h.grow (g1.trans g3)) hn (by unfold maxLen; omega) ok.isl (hq.grow (g1.trans g3)) hk hx).mono ?_
  rintro e w5 ⟨rfl, g5⟩
  exact ⟨_, rfl, by unfold mayL; rw [r, r2]; rfl, (g1.trans g3).trans g5⟩

theorem one_lit {x : Int} {nb : Nat} {w0 : World} (h : New (.cells #[.int .i64 x] 3) w0 nb w) : Vw (Value.int .i64) w (some ⟨nb, 0, none⟩) [x] := one_vw h.has

theorem awake12 (w : World) : Calls Try.prog fathomlaw12_awake.id #[] w fun e w' => e = .returned (.bool true) ∧ Grow w w' := by
  refine fathomlaw12_awake.calls ?_
  intro n1 w2 h2 n3 w4 h4 n5 w6 h6 n7 w8 h8
  have v1 := (((lit2 h2).grow h4.mod).grow h6.mod).grow h8.mod
  have v3 := ((lit2 h4).grow h6.mod).grow h8.mod
  have v7 := lit2 h8
  have H := h6.has.grow h8.mod
  have tv : TV w8 (some ⟨n5, 0, none⟩) [⟨1, 1, []⟩, ⟨2, 1, [2, -1]⟩, ⟨3, 1, [3, -1]⟩] := by
    intro i hi
    have : i = 0 ∨ i = 1 ∨ i = 2 := by simp at hi; omega
    rcases this with rfl | rfl | rfl
    · exact ⟨_, Sl.nil, rfl, ⟨cell_add2 H rfl, cell_add2 H rfl, cell_add2 H rfl, trivial⟩, rfl, Nat.zero_le _, Vw.nil⟩
    · exact ⟨_, ⟨_, 2, 2⟩, rfl, ⟨cell_add2 H rfl, cell_add2 H rfl, cell_add2 H rfl, trivial⟩, rfl, (show (2 : Nat) ≤ maxLen by decide), v1⟩
    · exact ⟨_, ⟨_, 2, 2⟩, rfl, ⟨cell_add2 H rfl, cell_add2 H rfl, cell_add2 H rfl, trivial⟩, rfl, (show (2 : Nat) ≤ maxLen by decide), v3⟩
  have eM : mayL [⟨1, 1, []⟩, ⟨2, 1, [2, -1]⟩, ⟨3, 1, [3, -1]⟩] [-2, -3] = true := by decide
  have eL : lnd [⟨1, 1, []⟩, ⟨2, 1, [2, -1]⟩, ⟨3, 1, [3, -1]⟩] [-2, -3] = [-1] := by decide
  refine (learnL_ok tv rfl v7 (m := 2) rfl (by decide)).mono ?_
  rw [eM, eL]
  rintro e w9 ⟨q2, d2, o, rfl, rfl, O, g9⟩
  refine ⟨_, _, _, _, rfl, cnd_t rfl fun n12 w13 h13 => ?_⟩
  refine (refInts_ok (O.grow h13.mod).vw (one_lit h13) rfl rfl (by decide)).mono ?_
  rintro e w14 ⟨rfl, g14⟩
  exact ⟨_, rfl, rfl, (((((h2.mod.trans h4.mod).trans h6.mod).trans h8.mod).trans g9).trans h13.mod).trans g14⟩

theorem awk12 {w0 : World} (g : Grow w0 w) : Calls Try.prog fathomlaw12_awake.id #[] w fun e w1 => ∃ r2 : Bool, e = .returned (.bool r2) ∧ (Ending.returned (.bool r2) = .returned (.bool true) ∧ Grow w0 w1) := by
  refine (awake12 w).mono ?_
  rintro e w1 ⟨rfl, g1⟩
  exact ⟨_, rfl, rfl, g.trans g1⟩

theorem LearnChecks_calls (h : TV w p tr) (hn : n = tr.length) (hc : n ≤ c) (hbl : ∀ i, i < tr.length → (nth tr i).lev < 9223372036854775808) (hq : Vw (Value.int .i64) w q l) (hk : m = l.length) (hx : m ≤ maxLen) :
    Calls Try.prog fathomlaw12_LearnChecks.id #[.slice p n c, .slice q m d] w fun e w' => e = .returned (.bool true) ∧ Grow w w' := by
  refine fathomlaw12_LearnChecks.calls ?_
  refine (light12_ok h hn).mono ?_
  rintro e w1 ⟨b, rfl, g1, hb⟩
  refine ⟨_, rfl, cnd_i (fun _ => awk12 g1) (fun r => ?_)⟩
  obtain ⟨hn20, hm100, _⟩ := hb (by simpa using r)
  refine (learnCheck_ok (h.grow g1) hn (hq.grow g1) hk hx).mono ?_
  rintro e w5 ⟨rfl, g5⟩
  have G5 := g1.trans g5
  refine ⟨_, rfl, (may12_ok (h.grow G5) hn (by omega) hc hbl (hq.grow G5) hk hx).mono ?_⟩
  rintro e w7 ⟨rfl, g7⟩
  have G7 := G5.trans g7
  refine ⟨_, rfl, cnd_i (fun r2 => ?_) (fun r2 => ?_)⟩
  · have r2 : mayL tr l = false := by simpa using r2
    refine (learnL_ok (h.grow G7) hn (hq.grow G7) hk hx).mono ?_
    rw [r2]
    rintro e w9 ⟨q2, d2, o, rfl, rfl, O, g9⟩
    exact ⟨_, _, _, _, rfl, cnd_t rfl (cnd_t rfl (cnd_t rfl (awk12 (G7.trans g9))))⟩
  · have r2 : mayL tr l = true := by simpa using r2
    rw [r2]
    exact cnd_t rfl (awk12 G7)

/-- What a broken clause is, told. -/
theorem mayL_ok (h : mayL tr l = true) : mayT tr = true ∧ TrOk tr ∧ tr.length ≤ 4096 ∧ ∀ x ∈ l, Br1 tr x := by
  unfold mayL at h
  simp only [Bool.and_eq_true] at h
  obtain ⟨ok, hl⟩ := mayT_ok h.1.1
  exact ⟨h.1.1, ok, hl, brk_iff.1 h.2⟩
theorem lnd_point (ok : TrOk tr) (hb : ∀ x ∈ l, Br1 tr x) : Point tr (mxL tr (norm l)) (lnd tr l) := by
  obtain ⟨d, k', e1, h, he⟩ := (in0 ok hb).end ok (Nat.le_refl _)
  unfold lnd
  rw [e1]
  refine point_of ok h ?_
  rcases he with ⟨a, _⟩ | b
  · exact .inl ⟨a, .inr a⟩
  · exact .inr b
theorem lnd_len (ok : TrOk tr) (hb : ∀ x ∈ l, Br1 tr x) : (lnd tr l).length ≤ tr.length := by
  obtain ⟨d, k', e1, h, _⟩ := (in0 ok hb).end ok (Nat.le_refl _)
  unfold lnd
  rw [e1]
  exact br_len (strictO_nodup (ordL_strict h.br)) fun x hx => h.br x ((ordL_mem ok h.br).1 hx)
theorem mxL_norm : mxL tr l = mxL tr (norm l) := by
  refine mxL_eq (mxL_nn _ _) (fun x hx => mxL_le (((norm_isN l).mem x).2 hx)) ?_
  rcases (mxL_aux tr (norm l) 0).2.2 with e | ⟨x, hx, e⟩
  · exact .inl e
  · exact .inr ⟨x, ((norm_isN l).mem x).1 hx, e⟩

theorem LearnLearns_calls (h : TV w p tr) (hn : n = tr.length) (hc : n ≤ c) (hbl : ∀ i, i < tr.length → (nth tr i).lev < 9223372036854775808) (hq : Vw (Value.int .i64) w q l) (hk : m = l.length) (hx : m ≤ maxLen) :
    Calls Try.prog fathomlaw12_LearnLearns.id #[.slice p n c, .slice q m d] w fun e w' => e = .returned (.bool true) ∧ Grow w w' := by
  refine fathomlaw12_LearnLearns.calls ?_
  refine (light12_ok h hn).mono ?_
  rintro e w1 ⟨b, rfl, g1, hb⟩
  refine ⟨_, rfl, cnd_i (fun _ => awk12 g1) (fun r => ?_)⟩
  obtain ⟨hn20, hm100, _⟩ := hb (by simpa using r)
  refine (may12_ok (h.grow g1) hn (by omega) hc hbl (hq.grow g1) hk hx).mono ?_
  rintro e w5 ⟨rfl, g5⟩
  have G5 := g1.trans g5
  refine ⟨_, rfl, cnd_i (fun _ => awk12 G5) (fun r2 => ?_)⟩
  have r2 : mayL tr l = true := by simpa using r2
  obtain ⟨hmay, ok, hl, hB⟩ := mayL_ok r2
  have P := lnd_point ok hB
  have hlen := lnd_len ok hB
  refine (learnL_ok (h.grow G5) hn (hq.grow G5) hk hx).mono ?_
  rw [r2]
  rintro e w9 ⟨q2, d2, o, rfl, rfl, O, g9⟩
  rw [if_pos rfl] at O
  rw [if_pos rfl, if_pos rfl]
  have G9 := G5.trans g9
  refine ⟨_, _, _, _, rfl, (refLearn_ok (h.grow G9) hn ok hl (hq.grow G9) hk (by omega) hB).mono ?_⟩
  rintro e w12 ⟨q3, d3, rfl, O3, g12⟩
  have G12 := G9.trans g12
  have O2 := O.grow g12
  refine ⟨_, _, _, rfl, cnd_t rfl ((refInts_ok O2.vw O3.vw rfl rfl (by unfold maxLen; omega)).mono ?_)⟩
  rintro e w14 ⟨rfl, g14⟩
  have G14 := G12.trans g14
  refine ⟨_, rfl, cnd_t (by simp) ((learnShorten_ok (h.grow G14) hn hmay (O2.grow g14).vw rfl (by omega) P.br).mono ?_)⟩
  rintro e w16 ⟨q4, d4, rfl, O4, g16⟩
  have G16 := G14.trans g16
  refine ⟨_, _, _, rfl, (refShorten_ok (h.grow G16) hn hmay (by omega) hc ((O3.grow g14).grow g16).vw rfl (by omega) P.br).mono ?_⟩
  rintro e w18 ⟨q5, d5, rfl, O5, g18⟩
  have hsl := shr_len tr (lnd tr l)
  refine ⟨_, _, _, rfl, (refInts_ok (O4.grow g18).vw O5.vw rfl rfl (by unfold maxLen; omega)).mono ?_⟩
  rintro e w20 ⟨rfl, g20⟩
  exact ⟨_, rfl, cnd_t (by simp) (awk12 ((G16.trans g18).trans g20))⟩

/-- All reasons hold by a model, and all of the trail is set. -/
def hldP (tr : List As) (v : List Int) (t : Nat) : Bool := (tr.take t).all fun a => decide (valP v a.lit ≠ 0) && (a.rs.isEmpty || decide (clvP v a.rs = 1))
theorem hldP_succ {v : List Int} {t : Nat} (h : t < tr.length) : hldP tr v (t + 1) = (hldP tr v t && (decide (valP v (nth tr t).lit ≠ 0) && ((nth tr t).rs.isEmpty || decide (clvP v (nth tr t).rs = 1)))) := by
  unfold hldP
  rw [List.take_add_one, nth_mem h, List.all_append]; simp
theorem tr1_clv {v c : List Int} : Tr1 (valP v) c ↔ clvP v c = 1 := by
  rw [clvP_one, List.any_eq_true]
  unfold Tr1
  simp
theorem vals_of {v : List Int} (h : hldP tr v tr.length = true) : Vals tr (valP v) := by
  unfold hldP at h
  rw [List.take_length, List.all_eq_true] at h
  have H : ∀ i, i < tr.length → valP v (nth tr i).lit ≠ 0 ∧ ((nth tr i).rs = [] ∨ clvP v (nth tr i).rs = 1) := fun i hi => by
    have := h (nth tr i) (by simp [nth, List.getD, hi])
    simpa using this
  exact ⟨fun l hl => valP_neg hl, fun l => valP_cases v l, fun i hi => (H i hi).1, fun i hi hr => tr1_clv.2 ((H i hi).2.resolve_left hr)⟩

theorem LearnTeaches_calls {v : List Int} {pv : Option Addr} {nv cv : Nat} (h : TV w p tr) (hn : n = tr.length) (hc : n ≤ c) (hbl : ∀ i, i < tr.length → (nth tr i).lev < 9223372036854775808) (hq : Vw (Value.int .i64) w q l) (hk : m = l.length) (hx : m ≤ maxLen)
    (hv : Vw (Value.int .i64) w pv v) (hnv : nv = v.length) (hmv : nv ≤ maxLen) :
    Calls Try.prog fathomlaw12_LearnTeaches.id #[.slice p n c, .slice q m d, .slice pv nv cv] w fun e w' => e = .returned (.bool true) ∧ Grow w w' := by
  refine fathomlaw12_LearnTeaches.calls ?_
  refine (light12_ok h hn).mono ?_
  rintro e w1 ⟨b, rfl, g1, hb⟩
  refine ⟨_, rfl, cnd_i (fun _ => awk12 g1) (fun r => ?_)⟩
  obtain ⟨hn20, hm100, _⟩ := hb (by simpa using r)
  clear hb
  refine (may12_ok (h.grow g1) hn (by omega) hc hbl (hq.grow g1) hk hx).mono ?_
  rintro e w5 ⟨rfl, g5⟩
  have G5 := g1.trans g5
  refine ⟨_, rfl, cnd_i (fun _ => awk12 G5) (fun r2 => ?_)⟩
  have r2 : mayL tr l = true := by simpa using r2
  obtain ⟨hmay, ok, hl, hB⟩ := mayL_ok r2
  have P := lnd_point ok hB
  have hlen := lnd_len ok hB
  have hsl := shr_len tr (lnd tr l)
  have Ps := P.shr
  refine (learnL_ok (h.grow G5) hn (hq.grow G5) hk hx).mono ?_
  rw [r2]
  rintro e w9 ⟨q2, d2, o, rfl, rfl, O, g9⟩
  rw [if_pos rfl] at O
  rw [if_pos rfl, if_pos rfl]
  have G9 := G5.trans g9
  refine ⟨_, _, _, _, rfl, (learnShorten_ok (h.grow G9) hn hmay O.vw rfl (by omega) P.br).mono ?_⟩
  rintro e w12 ⟨q3, d3, rfl, O3, g12⟩
  have G12 := G9.trans g12
  have O2 := O.grow g12
  refine ⟨_, _, _, rfl, cnd_f rfl ((refBreaks_ok (h.grow G12) hn (by unfold maxLen; omega) ok.isl O2.vw rfl (by unfold maxLen; omega)).mono ?_)⟩
  rintro e w14 ⟨rfl, g14⟩
  have G14 := G12.trans g14
  refine ⟨_, rfl, cnd_f (by rw [brk_iff.2 P.br]; rfl) ((refBreaks_ok (h.grow G14) hn (by unfold maxLen; omega) ok.isl (O3.grow g14).vw rfl (by unfold maxLen; omega)).mono ?_)⟩
  rintro e w16 ⟨rfl, g16⟩
  have G16 := G14.trans g16
  refine ⟨_, rfl, cnd_f (by rw [brk_iff.2 Ps.br]; rfl) (cnd_f (decide_eq_false (by omega)) ?_)⟩
  refine ⟨fun L I u z => ∃ t : Nat, I = t ∧ t ≤ l.length ∧ z = l.length - t ∧ L = mxL tr (l.take t) ∧ Grow w16 u, ⟨_, 0, rfl, Nat.zero_le _, rfl, rfl, Mod.refl _⟩, ?_⟩
  rintro L I w23 z _ ⟨t, rfl, ht, rfl, rfl, G⟩
  have G23 := G16.trans G
  refine cnd_i (fun r => ?_) (fun r => ?_)
  · have r : t < l.length := by simp at r; omega
    have hBt := hB _ (mem_getD r)
    refine (hq.grow G23).ix 0 (by omega) hk (by omega) fun a e => ⟨_, e, ?_⟩
    rw [Int.toNat_natCast]
    refine (Level12_ok (h.grow G23) hn (by unfold maxLen; omega) ok hBt).mono ?_
    rintro e w26 ⟨rfl, g26⟩
    refine ⟨_, rfl, cnd_i (fun r2 => ?_) (fun r2 => ⟨_, ?_, t + 1, wN (by omega) (by omega), by omega, rfl, ?_, G.trans g26⟩)⟩
    · refine (hq.grow (G23.trans g26)).ix 0 (by omega) hk (by omega) fun a e => ⟨_, e, ?_⟩
      rw [Int.toNat_natCast]
      refine (Level12_ok (h.grow (G23.trans g26)) hn (by unfold maxLen; omega) ok hBt).mono ?_
      rintro e w30 ⟨rfl, g30⟩
      refine ⟨_, rfl, _, ?_, t + 1, wN (by omega) (by omega), by omega, rfl, ?_, (G.trans g26).trans g30⟩
      · omega
      · rw [mxL_succ r, if_pos (by simpa using r2)]
    · omega
    · rw [mxL_succ r, if_neg (by simpa using r2)]
  have r : t = l.length := by simp at r; omega
  subst r
  rw [List.take_length, mxL_norm]
  refine ⟨fun u => Grow w23 u, cnd_i (fun r3 => cnd_f (decide_eq_false ?_) (Mod.refl _)) (fun r3 => Mod.refl _), ?_⟩
  · have r3 : mxL tr (norm l) = 0 := by simpa using r3
    rw [P.zero r3]; simp
  rintro w33 _ (g33 : Grow w23 w33)
  have G33 := (G16.trans G).trans g33
  have GO := (g14.trans g16).trans (G.trans g33)
  refine ⟨fun I u z => ∃ t : Nat, I = t ∧ t ≤ (lnd tr l).length ∧ z = (lnd tr l).length - t ∧ Grow w33 u, ⟨_, 0, rfl, Nat.zero_le _, rfl, Mod.refl _⟩, ?_⟩
  rintro I w38 z _ ⟨t, rfl, ht, rfl, G⟩
  refine cnd_i (fun r => ?_) (fun r => ?_)
  · have r : t < (lnd tr l).length := by simp at r; omega
    have hBt := P.br _ (mem_getD r)
    refine (O2.grow (GO.trans G)).vw.ix 0 (by omega) rfl (by omega) fun a e => ⟨_, e, ?_⟩
    rw [Int.toNat_natCast]
    refine (Level12_ok (h.grow (G33.trans G)) hn (by unfold maxLen; omega) ok hBt).mono ?_
    rintro e w41 ⟨rfl, g41⟩
    refine ⟨_, rfl, cnd_f ?_ ⟨_, ?_, t + 1, wN (by omega) (by omega), by omega, rfl, G.trans g41⟩⟩
    · have h1 := P.one t r
      by_cases e : t = 0
      · subst e
        rw [h1.2 rfl]; simp
      · have : lv tr ((lnd tr l).getD t 0) ≠ mxL tr (norm l) := fun e2 => e (h1.1 e2)
        rw [show (lv tr ((lnd tr l).getD t 0) == mxL tr (norm l)) = false from beq_eq_false_iff_ne.2 this, show ((t : Int) == 0) = false from beq_eq_false_iff_ne.2 (by omega)]; rfl
    · omega
  clear r ht
  have G38 := G33.trans G
  have O38 := O2.grow (GO.trans G)
  have O3' := O3.grow (GO.trans G)
  refine (refClauseV_ok (hv.grow G38) hnv hmv (hq.grow G38) hk hx).mono ?_
  rintro e w43 ⟨rfl, g43⟩
  refine ⟨_, rfl, fun b I u z => ∃ t : Nat, I = t ∧ t ≤ tr.length ∧ z = tr.length - t ∧ b = (decide (clvP v l = 1) && hldP tr v t) ∧ Grow w38 u, ⟨_, 0, rfl, Nat.zero_le _, rfl, ?_, g43⟩, ?_⟩
  · rw [show hldP tr v 0 = true from rfl, Bool.and_true]; rfl
  rintro b I w50 z _ ⟨t, rfl, ht, rfl, rfl, G⟩
  have G50 := G38.trans G
  refine cnd_i (fun r => ?_) (fun r => ?_)
  · have r : t < tr.length := by simp at r; omega
    have hs := hldP_succ (v := v) r
    have hs2 : (decide (clvP v l = 1) && hldP tr v (t + 1)) = (decide (clvP v l = 1) && (hldP tr v t && (decide (valP v (nth tr t).lit ≠ 0) && ((nth tr t).rs.isEmpty || decide (clvP v (nth tr t).rs = 1))))) := by rw [hs]
    refine cnd_i (fun r2 => ?_) (fun r2 => ⟨_, by omega, t + 1, wN (by omega) (by omega), by omega, rfl, by rw [hs, ← Bool.and_assoc, r2]; rfl, G⟩)
    refine (h.grow G50).ix hn t rfl r fun a x C e1 e2 vv => ⟨_, C.1, (refValue_ok (hv.grow G50) hnv hmv _).mono ?_⟩
    rintro e w53 ⟨rfl, g53⟩
    have G53 := G50.trans g53
    rw [← Bool.and_assoc, r2, Bool.true_and] at hs2
    refine ⟨_, rfl, cnd_i (fun r3 => ?_) (fun r3 => ⟨_, by omega, t + 1, wN (by omega) (by omega), by omega, rfl, ?_, G.trans g53⟩)⟩
    · have r3 : valP v (nth tr t).lit ≠ 0 := by simpa using r3
      refine (h.grow G53).ix hn t rfl r fun a x C e1 e2 vv => ⟨_, _, _, C.2.2.1, cnd_i (fun r4 => ⟨_, by omega, t + 1, wN (by omega) (by omega), by omega, rfl, ?_, G.trans g53⟩) (fun r4 => ?_)⟩
      · have r4 : (nth tr t).rs = [] := List.eq_nil_of_length_eq_zero (by simp at r4; omega)
        rw [hs2, decide_eq_true (p := _ ≠ _) r3, r4]; rfl
      · have r4 : (nth tr t).rs.isEmpty = false := by
          rw [List.isEmpty_eq_false_iff]
          intro e; rw [e] at e1; rw [e1] at r4; simp at r4
        refine (h.grow G53).ix hn t rfl r fun a x C e1 e2 vv => ⟨_, _, _, C.2.2.1, (refClauseV_ok (hv.grow G53) hnv hmv vv e1 e2).mono ?_⟩
        rintro e w59 ⟨rfl, g59⟩
        refine ⟨_, rfl, _, ?_, t + 1, wN (by omega) (by omega), by omega, rfl, ?_, (G.trans g53).trans g59⟩
        · omega
        · rw [hs2, decide_eq_true (p := _ ≠ _) r3, r4]; rfl
    · have r3 : valP v (nth tr t).lit = 0 := by simpa using r3
      rw [hs2, decide_eq_false (p := _ ≠ _) (fun e => e r3), Bool.false_and]
  have r : t = tr.length := by simp at r; omega
  subst r
  refine cnd_i (fun _ => awk12 G50) (fun r2 => ?_)
  have r2 : clvP v l = 1 ∧ hldP tr v tr.length = true := by simpa using r2
  have V := vals_of r2.2
  have T0 : Tr1 (valP v) (norm l) := by
    obtain ⟨x, hx, e⟩ := tr1_clv.2 r2.1
    exact ⟨x, ((norm_isN l).mem x).2 hx, e⟩
  have T1 : Tr1 (valP v) (lnd tr l) := by
    obtain ⟨d, k', e1, hin, _⟩ := (in0 ok hB).end ok (Nat.le_refl _)
    have T := lrn_true ok V (in0 ok hB) (Nat.le_refl _) T0
    unfold lnd
    rw [e1] at T ⊢
    obtain ⟨x, hx, e⟩ := T
    exact ⟨x, (ordL_mem ok hin.br).2 hx, e⟩
  have T2 := shr_true ok V P.br T1
  refine (refClauseV_ok (hv.grow G50) hnv hmv (O38.grow G).vw rfl (by unfold maxLen; omega)).mono ?_
  rintro e w63 ⟨rfl, g63⟩
  refine ⟨_, rfl, cnd_t (by rw [tr1_clv.1 T1]; rfl) ?_⟩
  refine (refClauseV_ok (hv.grow (G50.trans g63)) hnv hmv ((O3'.grow G).grow g63).vw rfl (by unfold maxLen; omega)).mono ?_
  rintro e w65 ⟨rfl, g65⟩
  exact ⟨_, rfl, cnd_t (by rw [tr1_clv.1 T2]; rfl) (awk12 ((G50.trans g63).trans g65))⟩

theorem ow_cap {T : TypeId} (h : OwI T w q d l) : l.length ≤ d := by
  rcases h.un with ⟨_, _, e⟩ | ⟨_, _, _, _, e, _⟩
  · rw [e]; exact Nat.zero_le _
  · exact e

theorem LearnAsserts_calls (h : TV w p tr) (hn : n = tr.length) (hc : n ≤ c) (hbl : ∀ i, i < tr.length → (nth tr i).lev < 9223372036854775808) (hq : Vw (Value.int .i64) w q l) (hk : m = l.length) (hx : m ≤ maxLen) :
    Calls Try.prog fathomlaw12_LearnAsserts.id #[.slice p n c, .slice q m d] w fun e w' => e = .returned (.bool true) ∧ Grow w w' := by
  refine fathomlaw12_LearnAsserts.calls ?_
  refine (light12_ok h hn).mono ?_
  rintro e w1 ⟨b, rfl, g1, hb⟩
  refine ⟨_, rfl, cnd_i (fun _ => awk12 g1) (fun r => ?_)⟩
  obtain ⟨hn20, hm100, _⟩ := hb (by simpa using r)
  clear hb
  refine (may12_ok (h.grow g1) hn (by omega) hc hbl (hq.grow g1) hk hx).mono ?_
  rintro e w5 ⟨rfl, g5⟩
  have G5 := g1.trans g5
  refine ⟨_, rfl, cnd_i (fun _ => awk12 G5) (fun r2 => ?_)⟩
  have r2 : mayL tr l = true := by simpa using r2
  obtain ⟨hmay, ok, hl, hB⟩ := mayL_ok r2
  have P := lnd_point ok hB
  have hlen := lnd_len ok hB
  have hsl := shr_len tr (lnd tr l)
  have Ps := P.shr
  refine (learnL_ok (h.grow G5) hn (hq.grow G5) hk hx).mono ?_
  rw [r2]
  rintro e w9 ⟨q2, d2, o, rfl, rfl, O, g9⟩
  rw [if_pos rfl] at O
  rw [if_pos rfl, if_pos rfl]
  have G9 := G5.trans g9
  refine ⟨_, _, _, _, rfl, (learnShorten_ok (h.grow G9) hn hmay O.vw rfl (by omega) P.br).mono ?_⟩
  rintro e w12 ⟨q3, d3, rfl, O3, g12⟩
  have G12 := G9.trans g12
  generalize hss : shr tr (lnd tr l) = ss at *
  have hcap := ow_cap O3
  have back := learnBack_ok (c := c) (h.grow G12) hn hmay O3.vw rfl (by omega) hcap Ps.br
  refine ⟨_, _, _, rfl, cnd_i (fun r3 => ?_) (fun r3 => ?_)⟩
  · have r3 : ss = [] := by simpa using r3
    subst r3
    refine back.mono ?_
    rintro e w14 ⟨rfl, g14⟩
    exact ⟨_, rfl, cnd_t rfl (awk12 (G12.trans g14))⟩
  have hpos : 0 < ss.length := by
    rcases Nat.eq_zero_or_pos ss.length with e | e
    · rw [e] at r3; simp at r3
    · exact e
  have hie : ss.isEmpty = false := by cases ss <;> simp at hpos ⊢
  rw [hie] at back
  refine back.mono ?_
  rintro e w18 ⟨rfl, g18⟩
  have G18 := G12.trans g18
  have O18 := O3.grow g18
  rw [if_neg (by simp)]
  generalize hback : mxL tr (ss.drop 1) = B
  have hB0 : 0 ≤ B := hback ▸ mxL_nn _ _
  have hBle : ∀ i, 0 < i → i < ss.length → lv tr (ss.getD i 0) ≤ B := fun i h0 h1 => by
    rw [← hback]
    refine mxL_le (List.mem_iff_getElem.2 ⟨i - 1, by simp; omega, ?_⟩)
    have e : i - 1 + 1 = i := by omega
    simp [List.getD, h1, e]
  have hL0 := (Ps.one 0 hpos).2 rfl
  have hBlt : B < mxL tr (norm l) := by
    have hLp : 0 < mxL tr (norm l) := by
      have := mxL_nn tr (norm l)
      have h0 : mxL tr (norm l) ≠ 0 := fun e => by rw [Ps.zero e] at hpos; simp at hpos
      omega
    rcases (mxL_aux tr (ss.drop 1) 0).2.2 with e | ⟨x, hx, e⟩
    · have e' : B = 0 := by rw [← hback]; exact e
      omega
    · have e' : lv tr x = B := by rw [← hback]; exact e
      obtain ⟨i, hi, ei⟩ := List.mem_iff_getElem.1 hx
      have hi' : i + 1 < ss.length := by simp at hi; omega
      have ex : ss.getD (i + 1) 0 = x := by
        rw [← ei]
        simp [List.getD, hi']
      have h1 := Ps.one (i + 1) hi'
      rw [ex] at h1
      have h2 := Ps.le x (List.mem_of_mem_drop hx)
      have h3 : lv tr x ≠ mxL tr (norm l) := fun e2 => by have := h1.1 e2; omega
      omega
  refine ⟨_, rfl, cnd_f (decide_eq_false (by omega)) (O18.vw.ix 0 (by omega) rfl (by omega) fun a e => ⟨_, e, ?_⟩)⟩
  have hB1 := Ps.br _ (mem_getD hpos)
  refine (Level12_ok (h.grow G18) hn (by unfold maxLen; omega) ok (x := ss.getD 0 0) hB1).mono ?_
  rintro e w22 ⟨rfl, g22⟩
  refine ⟨_, rfl, cnd_f (decide_eq_false (by omega)) ?_⟩
  have G22 := G18.trans g22
  refine ⟨fun I u z => ∃ t : Nat, I = t ∧ t ≤ ss.length ∧ z = ss.length - t ∧ Grow w22 u, ⟨_, 0, rfl, Nat.zero_le _, rfl, Mod.refl _⟩, ?_⟩
  rintro I w28 z _ ⟨t, rfl, ht, rfl, G⟩
  have G28 := G22.trans G
  have O28 := O18.grow (g22.trans G)
  refine cnd_i (fun r => ?_) (fun r => ?_)
  · have r : t < ss.length := by simp at r; omega
    refine O28.vw.ix 0 (by omega) rfl (by omega) fun a e => ⟨_, e, ?_⟩
    rw [Int.toNat_natCast]
    refine (Level12_ok (h.grow G28) hn (by unfold maxLen; omega) ok (Ps.br _ (mem_getD r))).mono ?_
    rintro e w31 ⟨rfl, g31⟩
    refine ⟨_, rfl, cnd_f ?_ ⟨_, ?_, t + 1, wN (by omega) (by omega), by omega, rfl, G.trans g31⟩⟩
    · by_cases e : t = 0
      · subst e
        rw [decide_eq_false (show ¬ lv tr (ss.getD 0 0) ≤ B by omega)]; rfl
      · rw [decide_eq_true (hBle t (by omega) r), decide_eq_true (show (t : Int) > 0 by omega)]; rfl
    · omega
  · refine (learnLevels_ok (h.grow G28) hn hmay O28.vw rfl (by omega) Ps.br).mono ?_
    rintro e w33 ⟨v, rfl, hv, g33⟩
    exact ⟨_, rfl, cnd_t (decide_eq_true (by omega)) (awk12 (G28.trans g33))⟩

theorem LearnChecks_law (v0 v1 : Value) (W : World) (h0 : RdV W (.sl (.cons (.int .i64) (.cons (.int .i64) (.cons (.sl (.int .i64)) .nil)))) v0) (h1 : RdV W (.sl (.int .i64)) v1) : Calls Try.prog fathomlaw12_LearnChecks.id #[v0, v1] W fun e W' => e = .returned (.bool true) ∧ Grow W W' := by
  obtain ⟨p, n, c, tr, rfl, hn, hc, h, hb⟩ := trail_of_rd h0
  obtain ⟨q, k, d, m, rfl, hk, b1, b2, h'⟩ := ints_of_rd' h1
  exact LearnChecks_calls h hn hc hb h' hk (Nat.le_trans b1 b2)
theorem LearnLearns_law (v0 v1 : Value) (W : World) (h0 : RdV W (.sl (.cons (.int .i64) (.cons (.int .i64) (.cons (.sl (.int .i64)) .nil)))) v0) (h1 : RdV W (.sl (.int .i64)) v1) : Calls Try.prog fathomlaw12_LearnLearns.id #[v0, v1] W fun e W' => e = .returned (.bool true) ∧ Grow W W' := by
  obtain ⟨p, n, c, tr, rfl, hn, hc, h, hb⟩ := trail_of_rd h0
  obtain ⟨q, k, d, m, rfl, hk, b1, b2, h'⟩ := ints_of_rd' h1
  exact LearnLearns_calls h hn hc hb h' hk (Nat.le_trans b1 b2)
theorem LearnTeaches_law (v0 v1 v2 : Value) (W : World) (h0 : RdV W (.sl (.cons (.int .i64) (.cons (.int .i64) (.cons (.sl (.int .i64)) .nil)))) v0) (h1 : RdV W (.sl (.int .i64)) v1) (h2 : RdV W (.sl (.int .i64)) v2) : Calls Try.prog fathomlaw12_LearnTeaches.id #[v0, v1, v2] W fun e W' => e = .returned (.bool true) ∧ Grow W W' := by
  obtain ⟨p, n, c, tr, rfl, hn, hc, h, hb⟩ := trail_of_rd h0
  obtain ⟨q, k, d, m, rfl, hk, b1, b2, h'⟩ := ints_of_rd' h1
  obtain ⟨r, j, i, v, rfl, hj, c1, c2, h''⟩ := ints_of_rd' h2
  exact LearnTeaches_calls h hn hc hb h' hk (Nat.le_trans b1 b2) h'' hj (Nat.le_trans c1 c2)
theorem LearnAsserts_law (v0 v1 : Value) (W : World) (h0 : RdV W (.sl (.cons (.int .i64) (.cons (.int .i64) (.cons (.sl (.int .i64)) .nil)))) v0) (h1 : RdV W (.sl (.int .i64)) v1) : Calls Try.prog fathomlaw12_LearnAsserts.id #[v0, v1] W fun e W' => e = .returned (.bool true) ∧ Grow W W' := by
  obtain ⟨p, n, c, tr, rfl, hn, hc, h, hb⟩ := trail_of_rd h0
  obtain ⟨q, k, d, m, rfl, hk, b1, b2, h'⟩ := ints_of_rd' h1
  exact LearnAsserts_calls h hn hc hb h' hk (Nat.le_trans b1 b2)
end Go.Proofs.Ytlpmapeojecenaa.W
