/- Layer 13: the statements, all told. -/
import Derived.Test.YtlpmapeojecenaaRed3
import Derived.Test.YtlpmapeojecenaaFwRead
namespace Go.Proofs.Ytlpmapeojecenaa.W
open Go Go.Fw Go.RowKit Go.SoP Go.RedP Go.QuP
variable {w : World} {p : Option Addr} {n c : Nat} {l : List Lr}

theorem inner13 (h : Vr 3 lrV w p l) (hn : n = l.length) (hm : n ≤ 100) {q : Option Addr} {d : Nat} {k : List Bool} (ok : Ow Value.bool ty_bool w q d k) (hk1 : k.length = n) (hk2 : ∀ x : Nat, x < n → k.getD x false = keep l x) (hl : l.all okL = true)
    {i : Nat} (hi : i < n) (mi : must (nth l i) = false) {F D : World → Prop} (hD : ∀ w', Grow w w' → D w') :
    ∃ I : Int → World → Nat → Prop, (∃ k, I 0 w k) ∧ ∀ (j : Int) (w1 : World) (k1 : Nat) (_ : Fr), I j w1 k1 →
      cnd (decide (j < (n : Int)))
        (ixK p n j 3 fun a1 => ∃ x1 : Int, ∃ x2 : Int, ∃ x3 : Bool, CellsAt w1 a1 0 [.int .i64 x1, .int .i64 x2, .bool x3] ∧
          Calls Try.prog fathomref13_Must.id #[.agg #[.int .i64 x1, .int .i64 x2, .bool x3]] w1 fun e w2 => ∃ r : Bool, e = .returned (.bool r) ∧
            cnd (!r) (ixK q k.length (i : Int) 1 fun a2 => ∃ x4 : Bool, w2.cell? a2 = some (.bool x4) ∧
              cnd x4 (ixK q k.length j 1 fun a3 => ∃ x5 : Bool, w2.cell? a3 = some (.bool x5) ∧
                cnd (!x5) (Calls Try.prog fathomref13_Better.id #[.slice p n c, .int .i64 j, .int .i64 (i : Int)] w2 fun e w3 => ∃ r2 : Bool, e = .returned (.bool r2) ∧
                  cnd r2 (F w3) (∃ k2, k2 < k1 ∧ I (IntKind.i64.wrap (j + (1 : Int))) w3 k2))
                (∃ k2, k2 < k1 ∧ I (IntKind.i64.wrap (j + (1 : Int))) w2 k2))
              (∃ k2, k2 < k1 ∧ I (IntKind.i64.wrap (j + (1 : Int))) w2 k2))
            (∃ k2, k2 < k1 ∧ I (IntKind.i64.wrap (j + (1 : Int))) w2 k2))
        (D w1) := by
  refine ⟨fun J w' k => ∃ j : Nat, J = j ∧ j ≤ n ∧ k = n - j ∧ Grow w w', ⟨_, 0, rfl, Nat.zero_le _, rfl, Mod.refl w⟩, ?_⟩
  rintro J w1 k1 _ ⟨j, rfl, hj, rfl, G⟩
  refine cnd_i (fun s => ?_) (fun s => hD w1 G)
  have s : j < n := by simpa using s
  have H := h.grow G
  have nx : ∀ w', Grow w w' → ∃ k2, k2 < n - j ∧ ∃ t : Nat, IntKind.i64.wrap ((j : Int) + 1) = t ∧ t ≤ n ∧ k2 = n - t ∧ Grow w w' := by
    intro w' g
    refine ⟨_, ?_, j + 1, wN (by omega) (by omega), by omega, rfl, g⟩
    omega
  refine lIx H hn (x := j) rfl (by omega) (by omega) fun a C => ⟨_, _, _, C, (Must13_ok (nth l j) w1).mono ?_⟩
  rintro e w2 ⟨rfl, g2⟩
  have G2 := G.trans g2
  refine ⟨_, rfl, cnd_i (fun m => ?_) (fun _ => nx w2 G2)⟩
  have m : must (nth l j) = false := by simpa using m
  have o2 := ok.grow G2
  refine o2.ix false (by omega) rfl (by omega) fun a e => ⟨_, e, ?_⟩
  rw [Int.toNat_natCast, hk2 i hi]
  refine cnd_i (fun ki => ?_) (fun _ => nx w2 G2)
  refine o2.ix false (by omega) rfl (by omega) fun a e => ⟨_, e, ?_⟩
  rw [Int.toNat_natCast, hk2 j s]
  refine cnd_i (fun kj => ?_) (fun _ => nx w2 G2)
  have kj : keep l j = false := by simpa using kj
  refine (Better_ok (H.grow g2) hn (x := (j : Int)) (y := (i : Int)) (by omega) (by omega)).mono ?_
  rintro e w3 ⟨rfl, g3⟩
  refine ⟨_, rfl, cnd_f ?_ (nx w3 (G2.trans g3))⟩
  obtain ⟨o, ho⟩ : ∃ o, IsO l o := isO_ex l
  exact ho.fair (by omega) (by omega) mi m ki kj

theorem ReduceHalves_calls (h : Vr 3 lrV w p l) (hn : n = l.length) : Calls Try.prog fathomlaw13_ReduceHalves.id #[.slice p n c] w fun e w' => e = .returned (.bool true) ∧ Grow w w' := by
  refine fathomlaw13_ReduceHalves.calls ?_
  have awk' : ∀ {w' : World}, Grow w w' → Calls Try.prog fathomlaw13_awake.id #[] w' fun e w1 => ∃ r2 : Bool, e = .returned (.bool r2) ∧ (Ending.returned (.bool r2) = .returned (.bool true) ∧ Grow w w1) := by
    intro w' g
    refine (awake13 w').mono ?_
    rintro e w1 ⟨rfl, g1⟩
    exact ⟨_, rfl, rfl, g.trans g1⟩
  refine cnd_i (fun q => awk' (Mod.refl w)) (fun q => ?_)
  have hm : n ≤ 100 := by simp at q; omega
  refine (May13_ok h hn (by unfold maxLen; omega)).mono ?_
  rintro e w1 ⟨rfl, g1⟩
  refine ⟨_, rfl, cnd_i (fun s => awk' g1) (fun s => ?_)⟩
  have hl : l.all okL = true := by simpa using s
  refine (keep_ok (h.grow g1) hn hm).mono ?_
  rintro e w2 ⟨q, d, k, rfl, g2, ok, hk⟩
  rw [hl, if_pos rfl] at hk
  obtain ⟨hk1, hk2⟩ := hk
  have G2 := g1.trans g2
  refine ⟨_, _, _, rfl, cnd_f (by rw [hk1]; simp) ?_⟩
  obtain ⟨o, ho⟩ : ∃ o, IsO l o := isO_ex l
  refine ⟨fun F S I w' k => ∃ t : Nat, I = t ∧ F = ((idx t).countP fun i => !must (nth l i) : Nat) ∧ S = ((idx t).countP fun i => !must (nth l i) && keep l i : Nat) ∧ t ≤ n ∧ k = n - t ∧ Grow w2 w', ⟨_, 0, rfl, rfl, rfl, Nat.zero_le _, rfl, Mod.refl w2⟩, ?_⟩
  rintro F S I w3 k3 _ ⟨t, rfl, rfl, rfl, ht, rfl, g3⟩
  have G3 := G2.trans g3
  have H3 := h.grow G3
  have hf := free_le (l := l) t
  have hs : ((idx t).countP fun i => !must (nth l i) && keep l i) ≤ t := by
    have := List.countP_le_length (p := fun i => !must (nth l i) && keep l i) (l := idx t)
    rwa [idx_len] at this
  have es : ((idx (t + 1)).countP fun i => !must (nth l i) && keep l i) = ((idx t).countP fun i => !must (nth l i) && keep l i) + (if (!must (nth l t) && keep l t) = true then 1 else 0) := by
    rw [idx_succ, List.countP_append]
    simp only [List.countP_cons, List.countP_nil, Nat.zero_add]
  refine cnd_i (fun r => ?_) (fun r => ?_)
  · have r : t < n := by simpa using r
    have et : IntKind.i64.wrap ((t : Int) + 1) = ((t + 1 : Nat) : Int) := wN (by omega) (by omega)
    refine lIx H3 hn (x := t) rfl (by omega) (by omega) fun a C => ⟨_, _, _, C, (Must13_ok (nth l t) w3).mono ?_⟩
    rintro e w4 ⟨rfl, g4⟩
    have o4 := (ok.grow g3).grow g4
    have H4 := H3.grow g4
    refine ⟨_, rfl, cnd_i (fun m => ?_) (fun m => ?_)⟩
    · refine o4.ix false (by omega) rfl (by omega) fun a e => ⟨_, e, ?_⟩
      rw [Int.toNat_natCast, hk2 t r]
      refine cnd_f (by unfold keep; rw [m]; rfl) ?_
      refine ⟨_, ?_, t + 1, et, ?_, ?_, by omega, rfl, g3.trans g4⟩
      · omega
      · rw [free_succ, m]; rfl
      · rw [es, m]; rfl
    · refine o4.ix false (by omega) rfl (by omega) fun a e => ⟨_, e, ?_⟩
      rw [Int.toNat_natCast, hk2 t r]
      have ef : IntKind.i64.wrap (((((idx t).countP fun i => !must (nth l i)) : Nat) : Int) + 1) = (((idx (t + 1)).countP fun i => !must (nth l i) : Nat) : Int) := wN (by rw [free_succ, m]; simp) (by rw [free_succ, m]; simp; omega)
      refine cnd_i (fun kt => ?_) (fun kt => ?_)
      · refine inner13 H4 hn hm o4 hk1 hk2 hl r m fun w5 g5 => ?_
        refine ⟨_, ?_, t + 1, et, ef, ?_, by omega, rfl, (g3.trans g4).trans g5⟩
        · omega
        · rw [es, m, kt]; exact wN (by simp) (by simp; omega)
      · refine inner13 H4 hn hm o4 hk1 hk2 hl r m fun w5 g5 => ?_
        refine ⟨_, ?_, t + 1, et, ef, ?_, by omega, rfl, (g3.trans g4).trans g5⟩
        · omega
        · rw [es, m, kt]; rfl
  · have : t = l.length := by simp at r; omega
    subst this
    have hff : ((idx l.length).countP fun i => !must (nth l i)) = freeN l := rfl
    rw [hff, ho.stays]
    rw [hff] at hf
    have ed : IntKind.i64.wrap (((freeN l : Nat) : Int).tdiv 2) = ((freeN l / 2 : Nat) : Int) := wN (by rw [Int.tdiv_eq_ediv_of_nonneg (by omega)]; omega) (by omega)
    rw [ed]
    exact ⟨by decide, cnd_t (by simp) (awk' G3)⟩

theorem ReduceQuotas_calls (first times learnt : Int) (w : World) : Calls Try.prog fathomlaw13_ReduceQuotas.id #[.int .i64 first, .int .i64 times, .int .i64 learnt] w fun e w' => e = .returned (.bool true) ∧ Grow w w' := by
  refine fathomlaw13_ReduceQuotas.calls ?_
  have awk' : ∀ {w' : World}, Grow w w' → Calls Try.prog fathomlaw13_awake.id #[] w' fun e w1 => ∃ r2 : Bool, e = .returned (.bool r2) ∧ (Ending.returned (.bool r2) = .returned (.bool true) ∧ Grow w w1) := by
    intro w' g
    refine (awake13 w').mono ?_
    rintro e w1 ⟨rfl, g1⟩
    exact ⟨_, rfl, rfl, g.trans g1⟩
  refine (Quota_ok first times w).mono ?_
  rintro e w1 ⟨rfl, g1⟩
  refine ⟨_, rfl, ?_⟩
  have bad : mayQ first times = false → cnd (quota first times == 0) (Calls Try.prog reduce_Due.id #[.int .i64 learnt, .int .i64 first, .int .i64 times] w1 fun e w3 => ∃ r4 : Bool, e = .returned (.bool r4) ∧ cnd (!r4)
      (Calls Try.prog fathomlaw13_awake.id #[] w3 fun e w5 => ∃ r6 : Bool, e = .returned (.bool r6) ∧ (Ending.returned (.bool r6) = .returned (.bool true) ∧ Grow w w5)) (Ending.returned (.bool false) = .returned (.bool true) ∧ Grow w w3))
      (Ending.returned (.bool false) = .returned (.bool true) ∧ Grow w w1) := by
    intro hb
    have hq : quota first times = 0 := by unfold quota; rw [hb]; rfl
    refine cnd_t (by rw [hq]; rfl) ((Due_ok learnt first times w1).mono ?_)
    rintro e w2 ⟨rfl, g2⟩
    exact ⟨_, rfl, cnd_t (by rw [hq]; rfl) (awk' (g1.trans g2))⟩
  refine cnd_i (fun q => bad (by simp at q; exact decide_eq_false (by omega))) (fun q1 => cnd_i (fun q => bad (by simp at q; exact decide_eq_false (by omega))) (fun q2 => cnd_i (fun q => bad (by simp at q; exact decide_eq_false (by omega))) (fun q3 => cnd_i (fun q => bad (by simp at q; exact decide_eq_false (by omega))) (fun q4 => ?_))))
  simp only [decide_eq_false_iff_not] at q1 q2 q3 q4
  have hm : mayQ first times = true := decide_eq_true (by omega)
  have hq : quota first times = (quo first.toNat times.toNat : Int) := by unfold quota; rw [hm]; rfl
  have ef : ((first.toNat : Nat) : Int) = first := by omega
  have et : ((times.toNat : Nat) : Int) = times := by omega
  have Q := Quota13_ok (first := first.toNat) (by omega) times.toNat w1 (by omega)
  rw [ef, et] at Q
  refine Q.mono ?_
  rintro e w2 ⟨rfl, g2⟩
  refine ⟨_, rfl, cnd_f (by rw [hq]; simp) ((Due_ok learnt first times w2).mono ?_)⟩
  rintro e w3 ⟨rfl, g3⟩
  have pos : 0 < quo first.toNat times.toNat := by
    have := quo_mono first.toNat 0 times.toNat (Nat.zero_le _)
    simp only [quo] at this
    omega
  refine ⟨_, rfl, cnd_f ?_ ?_⟩
  · rw [decide_eq_true (show quota first times > 0 by rw [hq]; omega), Bool.true_and]; simp
  have G3 := (g1.trans g2).trans g3
  refine cnd_i (fun _ => awk' G3) (fun s => ?_)
  have s : times ≠ 100 := by simpa using s
  rw [wrap64_of (by omega) (by omega)]
  refine (Quota_ok first (times + 1) w3).mono ?_
  rintro e w4 ⟨rfl, g4⟩
  refine ⟨_, rfl, cnd_t ?_ (awk' (G3.trans g4))⟩
  have hm2 : mayQ first (times + 1) = true := decide_eq_true (by omega)
  have hq2 : quota first (times + 1) = (quo first.toNat (times.toNat + 1) : Int) := by unfold quota; rw [hm2, if_pos rfl, show (times + 1).toNat = times.toNat + 1 by omega]
  rw [hq, hq2]
  simp only [quo]
  exact decide_eq_true (by omega)

theorem learnts_of_rd {v : Value} (h : RdV w (.sl (.cons (.int .i64) (.cons (.int .i64) (.cons .bool .nil)))) v) : ∃ p n c l, v = .slice p n c ∧ n = l.length ∧ Vr 3 lrV w p l := by
  rcases h with rfl | ⟨a, len, cap, rfl, h1, h2, h3⟩
  · exact ⟨none, 0, 0, [], rfl, rfl, Vr.nil⟩
  · have : ∀ i, ∃ x : Lr, i < len → CellsAt w (a.add (i * 3)) 0 (lrV x) := by
      intro i
      by_cases hi : i < len
      · obtain ⟨es, _, hc, _, _, rfl, ⟨d, rfl, _⟩, _, _, rfl, ⟨v, rfl, _⟩, _, _, rfl, ⟨b, rfl⟩, rfl⟩ := h3 i hi
        exact ⟨(d, v, b), fun _ => hc⟩
      · exact ⟨(0, 0, false), fun h => absurd h hi⟩
    refine ⟨some a, len, cap, (List.range len).map fun i => Classical.choose (this i), rfl, by simp, fun j hj => ⟨a, rfl, ?_⟩⟩
    have hj' : j < len := by simpa using hj
    have := Classical.choose_spec (this j) hj'
    simpa using this

theorem ReduceKeeps_law (v0 : Value) (W : World) (h0 : RdV W (.sl (.cons (.int .i64) (.cons (.int .i64) (.cons .bool .nil)))) v0) : Calls Try.prog fathomlaw13_ReduceKeeps.id #[v0] W fun e W' => e = .returned (.bool true) ∧ Grow W W' := by
  obtain ⟨p, n, c, l, rfl, hn, h⟩ := learnts_of_rd h0
  exact ReduceKeeps_calls h hn
theorem ReduceHalves_law (v0 : Value) (W : World) (h0 : RdV W (.sl (.cons (.int .i64) (.cons (.int .i64) (.cons .bool .nil)))) v0) : Calls Try.prog fathomlaw13_ReduceHalves.id #[v0] W fun e W' => e = .returned (.bool true) ∧ Grow W W' := by
  obtain ⟨p, n, c, l, rfl, hn, h⟩ := learnts_of_rd h0
  exact ReduceHalves_calls h hn
theorem ReduceQuotas_law (v0 v1 v2 : Value) (W : World) (h0 : RdV W (.int .i64) v0) (h1 : RdV W (.int .i64) v1) (h2 : RdV W (.int .i64) v2) : Calls Try.prog fathomlaw13_ReduceQuotas.id #[v0, v1, v2] W fun e W' => e = .returned (.bool true) ∧ Grow W W' := by
  obtain ⟨x, rfl, _⟩ := h0
  obtain ⟨y, rfl, _⟩ := h1
  obtain ⟨z, rfl, _⟩ := h2
  exact ReduceQuotas_calls x y z W
end Go.Proofs.Ytlpmapeojecenaa.W
