/- Layer 13: the statements. -/
import Derived.Test.YtlpmapeojecenaaRed2
import Derived.Test.YtlpmapeojecenaaQuotaPure
namespace Go.Proofs.Ytlpmapeojecenaa.W
open Go Go.Fw Go.RowKit Go.SoP Go.RedP Go.QuP
variable {w : World} {p : Option Addr} {n c : Nat} {l : List Lr}

theorem Rank13_ok (h : Vr 3 lrV w p l) (hn : n = l.length) (hm : n ≤ 100) {x : Int} (hx : 0 ≤ x ∧ x < l.length) (all : Bool) :
    Calls Try.prog fathomref13_Rank.id #[.slice p n c, .int .i64 x, .bool all] w fun e w' => e = .returned (.int .i64 (rank l x all)) ∧ Grow w w' := by
  refine fathomref13_Rank.calls ?_
  refine ⟨fun N I w' k => ∃ t : Nat, I = t ∧ N = ((idx t).countP fun i => i != x && (all || !must (nth l i)) && better l i x : Nat) ∧ t ≤ n ∧ k = n - t ∧ Grow w w', ⟨_, 0, rfl, rfl, Nat.zero_le _, rfl, Mod.refl w⟩, ?_⟩
  rintro N I w1 k _ ⟨t, rfl, rfl, ht, rfl, G⟩
  refine cnd_i (fun q => ?_) (fun q => ⟨?_, G⟩)
  · have q : t < n := by simpa using q
    have H := h.grow G
    have hle : ((idx t).countP fun i => i != x && (all || !must (nth l i)) && better l i x) ≤ t := by
      have := List.countP_le_length (p := fun i => i != x && (all || !must (nth l i)) && better l i x) (l := idx t)
      rwa [idx_len] at this
    have es : ((idx (t + 1)).countP fun i => i != x && (all || !must (nth l i)) && better l i x) = ((idx t).countP fun i => i != x && (all || !must (nth l i)) && better l i x) + (if ((t : Int) != x && (all || !must (nth l t)) && better l t x) = true then 1 else 0) := by
      rw [idx_succ, List.countP_append]
      simp only [List.countP_cons, List.countP_nil, Nat.zero_add]
    have yes : ∀ w', Grow w w' → ((t : Int) != x && (all || !must (nth l t)) && better l t x) = true → ∃ k3, k3 < n - t ∧ ∃ t2 : Nat, IntKind.i64.wrap ((t : Int) + 1) = t2 ∧ IntKind.i64.wrap (((((idx t).countP fun i => i != x && (all || !must (nth l i)) && better l i x) : Nat) : Int) + 1) = ((idx t2).countP fun i => i != x && (all || !must (nth l i)) && better l i x : Nat) ∧ t2 ≤ n ∧ k3 = n - t2 ∧ Grow w w' := by
      intro w' g hc
      refine ⟨_, ?_, t + 1, wN (by omega) (by omega), ?_, by omega, rfl, g⟩
      · omega
      · rw [es, if_pos hc]; exact wN (by omega) (by omega)
    have no : ∀ w', Grow w w' → ((t : Int) != x && (all || !must (nth l t)) && better l t x) = false → ∃ k3, k3 < n - t ∧ ∃ t2 : Nat, IntKind.i64.wrap ((t : Int) + 1) = t2 ∧ ((((idx t).countP fun i => i != x && (all || !must (nth l i)) && better l i x) : Nat) : Int) = ((idx t2).countP fun i => i != x && (all || !must (nth l i)) && better l i x : Nat) ∧ t2 ≤ n ∧ k3 = n - t2 ∧ Grow w w' := by
      intro w' g hc
      refine ⟨_, ?_, t + 1, wN (by omega) (by omega), ?_, by omega, rfl, g⟩
      · omega
      · rw [es, if_neg (by rw [hc]; exact Bool.false_ne_true), Nat.add_zero]
    refine cnd_i (fun s => ?_) (fun s => no _ G (by rw [s]; rfl))
    rw [s] at yes no
    refine cnd_i (fun s2 => ?_) (fun s2 => ?_)
    · rw [s2] at yes no
      refine (Better_ok H hn (by omega) hx).mono ?_
      rintro e w2 ⟨rfl, g2⟩
      refine ⟨_, rfl, cnd_i (fun s3 => ?_) (fun s3 => ?_)⟩
      · subst s2; exact yes _ (G.trans g2) (by rw [s3]; rfl)
      · subst s2; exact no _ (G.trans g2) (by rw [s3]; rfl)
    · refine lIx H hn (x := t) rfl (by omega) (by omega) fun a C => ⟨_, _, _, C, (Must13_ok (nth l t) w1).mono ?_⟩
      rintro e w2 ⟨rfl, g2⟩
      refine ⟨_, rfl, cnd_i (fun s3 => ?_) (fun s3 => ?_)⟩
      · refine (Better_ok (H.grow g2) hn (by omega) hx).mono ?_
        rintro e w3 ⟨rfl, g3⟩
        refine ⟨_, rfl, cnd_i (fun s4 => ?_) (fun s4 => ?_)⟩
        · exact yes _ ((G.trans g2).trans g3) (by rw [s4, s3]; simp)
        · exact no _ ((G.trans g2).trans g3) (by rw [s4]; simp)
      · exact no _ (G.trans g2) (by rw [s2, s3]; simp)
  · have : t = l.length := by simp at q; omega
    subst this
    rfl

theorem Keep13_ok (h : Vr 3 lrV w p l) (hn : n = l.length) (hm : n ≤ 100) {x : Int} (hx : 0 ≤ x ∧ x < l.length) :
    Calls Try.prog fathomref13_Keep.id #[.slice p n c, .int .i64 x] w fun e w' => e = .returned (.bool (keep l x)) ∧ Grow w w' := by
  refine fathomref13_Keep.calls ?_
  refine ⟨fun N I w' k => ∃ t : Nat, I = t ∧ N = ((idx t).countP fun i => !must (nth l i) : Nat) ∧ t ≤ n ∧ k = n - t ∧ Grow w w', ⟨_, 0, rfl, rfl, Nat.zero_le _, rfl, Mod.refl w⟩, ?_⟩
  rintro N I w1 k _ ⟨t, rfl, rfl, ht, rfl, G⟩
  have H := h.grow G
  refine cnd_i (fun q => ?_) (fun q => ?_)
  · have q : t < n := by simpa using q
    refine lIx H hn (x := t) rfl (by omega) (by omega) fun a C => ⟨_, _, _, C, (Must13_ok (nth l t) w1).mono ?_⟩
    rintro e w2 ⟨rfl, g2⟩
    have hf := free_le (l := l) t
    refine ⟨_, rfl, cnd_i (fun s => ?_) (fun s => ?_)⟩
    · refine ⟨_, ?_, t + 1, wN (by omega) (by omega), ?_, by omega, rfl, G.trans g2⟩
      · omega
      · have s : must (nth l t) = false := by simpa using s
        rw [free_succ, s]
        exact wN (by simp) (by simp; omega)
    · refine ⟨_, ?_, t + 1, wN (by omega) (by omega), ?_, by omega, rfl, G.trans g2⟩
      · omega
      · have s : must (nth l t) = true := by simpa using s
        rw [free_succ, s]; rfl
  · have : t = l.length := by simp at q; omega
    subst this
    have hff : ((idx l.length).countP fun i => !must (nth l i)) = freeN l := rfl
    rw [hff]
    have hfl : freeN l ≤ l.length := free_le l.length
    have ed : IntKind.i64.wrap (((freeN l : Nat) : Int).tdiv 2) = ((freeN l / 2 : Nat) : Int) := wN (by rw [Int.tdiv_eq_ediv_of_nonneg (by omega)]; omega) (by omega)
    rw [ed]
    refine lIx H hn rfl hx.1 hx.2 fun a C => ⟨_, _, _, C, (Must13_ok (nth l x) w1).mono ?_⟩
    rintro e w2 ⟨rfl, g2⟩
    refine ⟨_, rfl, cnd_i (fun s => ⟨?_, G.trans g2⟩) (fun s => ?_)⟩
    · unfold keep; rw [s]; rfl
    · refine (Rank13_ok (H.grow g2) hn hm hx false).mono ?_
      rintro e w3 ⟨rfl, g3⟩
      refine ⟨_, rfl, by decide, ?_, (G.trans g2).trans g3⟩
      unfold keep
      rw [s, Bool.false_or, decide_eq_decide.2 (show ((rank l x false : Nat) : Int) < ((freeN l / 2 : Nat) : Int) ↔ rank l x false < freeN l / 2 by omega)]

def mayQ (first times : Int) : Bool := decide (1 ≤ first ∧ first ≤ 1048576 ∧ 0 ≤ times ∧ times ≤ 100)
def quota (first times : Int) : Int := if mayQ first times then (quo first.toNat times.toNat : Int) else 0

theorem Quota_ok (first times : Int) (w : World) : Calls Try.prog reduce_Quota.id #[.int .i64 first, .int .i64 times] w fun e w' => e = .returned (.int .i64 (quota first times)) ∧ Grow w w' := by
  refine reduce_Quota.calls ?_
  have bad : mayQ first times = false → (Ending.returned (.int .i64 0) = .returned (.int .i64 (quota first times)) ∧ Grow w w) := fun h => by unfold quota; rw [h]; exact ⟨rfl, Mod.refl w⟩
  refine cnd_i (fun q => bad (by simp at q; unfold mayQ; exact decide_eq_false (by omega))) (fun q1 => cnd_i (fun q => bad (by simp at q; unfold mayQ; exact decide_eq_false (by omega))) (fun q2 => cnd_i (fun q => bad (by simp at q; unfold mayQ; exact decide_eq_false (by omega))) (fun q3 => cnd_i (fun q => bad (by simp at q; unfold mayQ; exact decide_eq_false (by omega))) (fun q4 => ?_))))
  simp only [decide_eq_false_iff_not] at q1 q2 q3 q4
  have hm : mayQ first times = true := decide_eq_true (by omega)
  refine ⟨fun N V w' k => ∃ t : Nat, V = t ∧ N = (quo first.toNat t : Nat) ∧ (t : Int) ≤ times ∧ k = times.toNat - t ∧ Grow w w', ⟨_, 0, rfl, by simp only [quo]; omega, by omega, rfl, Mod.refl w⟩, ?_⟩
  rintro N V w1 k _ ⟨t, rfl, rfl, ht, rfl, G⟩
  have b0 := quo_bd (a := first.toNat) (t := t) (by omega) (by omega)
  have b1 := quo_bd (a := first.toNat) (t := t + 1) (by omega) (by omega)
  refine cnd_i (fun q => ?_) (fun q => ⟨?_, G⟩)
  · have q : (t : Int) < times := by simpa using q
    refine ⟨by decide, _, ?_, t + 1, wN (by omega) (by omega), ?_, by omega, rfl, G⟩
    · omega
    · have e1 : IntKind.i64.wrap (((quo first.toNat t : Nat) : Int).tdiv 10) = ((quo first.toNat t / 10 : Nat) : Int) := wN (by rw [Int.tdiv_eq_ediv_of_nonneg (by omega)]; omega) (by omega)
      have e2 : IntKind.i64.wrap (((quo first.toNat t / 10 : Nat) : Int) + 1) = ((quo first.toNat t / 10 + 1 : Nat) : Int) := wN (by omega) (by omega)
      rw [e1, e2]
      exact wN (by simp only [quo]; omega) (by omega)
  · have q : (t : Int) = times := by simp at q; omega
    unfold quota
    rw [hm, if_pos rfl, ← q, Int.toNat_natCast]

theorem Due_ok (learnt first times : Int) (w : World) : Calls Try.prog reduce_Due.id #[.int .i64 learnt, .int .i64 first, .int .i64 times] w fun e w' => e = .returned (.bool (decide (quota first times > 0) && decide (learnt ≥ quota first times))) ∧ Grow w w' := by
  refine reduce_Due.calls ?_
  refine (Quota_ok first times w).mono ?_
  rintro e w1 ⟨rfl, g1⟩
  refine ⟨_, rfl, cnd_i (fun q => ⟨?_, g1⟩) (fun q => ⟨?_, g1⟩)⟩
  · rw [q]; rfl
  · rw [q]; rfl

theorem Quota13_ok {first : Nat} (hf : first ≤ 1048576) : ∀ (t : Nat) (w : World), t ≤ 100 → Calls Try.prog fathomref13_Quota.id #[.int .i64 first, .int .i64 t] w fun e w' => e = .returned (.int .i64 (quo first t : Nat)) ∧ Grow w w' := by
  intro t
  induction t with
  | zero =>
    intro w _
    refine fathomref13_Quota.calls ?_
    exact cnd_t rfl ⟨rfl, Mod.refl w⟩
  | succ t ih =>
    intro w ht
    refine fathomref13_Quota.calls ?_
    refine cnd_i (fun q => by simp at q; omega) (fun _ => ?_)
    have e1 : IntKind.i64.wrap (((t + 1 : Nat) : Int) - 1) = (t : Int) := wN (by omega) (by omega)
    rw [e1]
    refine (ih w (by omega)).mono ?_
    rintro e w1 ⟨rfl, g1⟩
    have b1 := quo_bd (a := first) (t := t + 1) hf (by omega)
    simp only [quo] at b1
    refine ⟨_, rfl, by decide, ?_, g1⟩
    have e2 : IntKind.i64.wrap (((quo first t : Nat) : Int).tdiv 10) = ((quo first t / 10 : Nat) : Int) := wN (by rw [Int.tdiv_eq_ediv_of_nonneg (by omega)]; omega) (by omega)
    have e3 : IntKind.i64.wrap (((quo first t : Nat) : Int) + ((quo first t / 10 : Nat) : Int)) = ((quo first t + quo first t / 10 : Nat) : Int) := wN (by omega) (by omega)
    have e4 : IntKind.i64.wrap (((quo first t + quo first t / 10 : Nat) : Int) + 1) = ((quo first (t + 1) : Nat) : Int) := wN (by simp only [quo]; omega) (by simp only [quo]; omega)
    rw [e2, e3, e4]

def awk : List Lr := [(3, 4, false), (4, 4, false), (5, 9, false)]
theorem awake13 (w : World) : Calls Try.prog fathomlaw13_awake.id #[] w fun e w' => e = .returned (.bool true) ∧ Grow w w' := by
  refine fathomlaw13_awake.calls ?_
  intro n1 w1 h1
  have H : Vr 3 lrV w1 (some ⟨n1, 0, none⟩) awk := by
    intro j hj
    refine ⟨_, rfl, ?_⟩
    have : j = 0 ∨ j = 1 ∨ j = 2 := by simp [awk] at hj; omega
    rcases this with rfl | rfl | rfl
    · exact ⟨by rw [add_add]; exact cell_add h1.has rfl, by rw [add_add]; exact cell_add h1.has rfl, by rw [add_add]; exact cell_add h1.has rfl, trivial⟩
    · exact ⟨by rw [add_add]; exact cell_add h1.has rfl, by rw [add_add]; exact cell_add h1.has rfl, by rw [add_add]; exact cell_add h1.has rfl, trivial⟩
    · exact ⟨by rw [add_add]; exact cell_add h1.has rfl, by rw [add_add]; exact cell_add h1.has rfl, by rw [add_add]; exact cell_add h1.has rfl, trivial⟩
  refine (keep_ok H (n := 3) (c := 3) rfl (by omega)).mono ?_
  rintro e w2 ⟨q, d, k, rfl, g2, ok, hk⟩
  have hl : awk.all okL = true := by decide
  rw [hl, if_pos rfl] at hk
  obtain ⟨hk1, hk2⟩ := hk
  have G := h1.mod.trans g2
  have k0 : k.getD 0 false = true := by rw [hk2 0 (by omega)]; decide
  have k1 : k.getD 1 false = false := by rw [hk2 1 (by omega)]; decide
  have k2 : k.getD 2 false = false := by rw [hk2 2 (by omega)]; decide
  refine ⟨_, _, _, rfl, cnd_t (by rw [hk1]; rfl) ?_⟩
  refine ok.ix false (by omega) rfl (by omega) fun a e => ⟨_, e, ?_⟩
  refine cnd_t k0 ?_
  refine ok.ix false (by omega) rfl (by omega) fun a e => ⟨_, e, ?_⟩
  refine cnd_t (by show (!k.getD 1 false) = true; rw [k1]; rfl) ?_
  refine ok.ix false (by omega) rfl (by omega) fun a e => ⟨_, e, ?_⟩
  refine cnd_t (by show (!k.getD 2 false) = true; rw [k2]; rfl) ?_
  refine (Quota_ok 10 1 w2).mono ?_
  rintro e w3 ⟨rfl, g3⟩
  exact ⟨_, rfl, by rw [show quota 10 1 = 12 by decide]; rfl, G.trans g3⟩

theorem ReduceKeeps_calls (h : Vr 3 lrV w p l) (hn : n = l.length) : Calls Try.prog fathomlaw13_ReduceKeeps.id #[.slice p n c] w fun e w' => e = .returned (.bool true) ∧ Grow w w' := by
  refine fathomlaw13_ReduceKeeps.calls ?_
  have awk' : ∀ {w' : World}, Grow w w' → Calls Try.prog fathomlaw13_awake.id #[] w' fun e w1 => ∃ r2 : Bool, e = .returned (.bool r2) ∧ (Ending.returned (.bool r2) = .returned (.bool true) ∧ Grow w w1) := by
    intro w' g
    refine (awake13 w').mono ?_
    rintro e w1 ⟨rfl, g1⟩
    exact ⟨_, rfl, rfl, g.trans g1⟩
  refine cnd_i (fun q => awk' (Mod.refl w)) (fun q => ?_)
  have hm : n ≤ 100 := by simp at q; omega
  refine (keep_ok h hn hm).mono ?_
  rintro e w1 ⟨kp, kd, k, rfl, g1, ok, hk⟩
  refine ⟨_, _, _, rfl, (order_ok (h.grow g1) hn hm).mono ?_⟩
  rintro e w2 ⟨op, od, o, rfl, g2, oo, ho, _⟩
  refine ⟨_, _, _, rfl, (May13_ok ((h.grow g1).grow g2) hn (by unfold maxLen; omega)).mono ?_⟩
  rintro e w3 ⟨rfl, g3⟩
  have G3 := (g1.trans g2).trans g3
  have H3 := h.grow G3
  refine ⟨_, rfl, cnd_i (fun s => ?_) (fun s => ?_)⟩
  · have s : l.all okL = false := by simpa using s
    rw [s] at hk ho
    simp only [Bool.false_eq_true, if_false] at hk ho
    subst hk ho
    refine (redCheck_ok H3 hn (by unfold maxLen; omega)).mono ?_
    rintro e w4 ⟨rfl, g4⟩
    rw [s]
    exact ⟨_, rfl, cnd_t rfl (cnd_t rfl (cnd_t rfl (awk' (G3.trans g4))))⟩
  · have s : l.all okL = true := by simpa using s
    rw [s, if_pos rfl] at hk ho
    obtain ⟨hk1, hk2⟩ := hk
    have hol := ho.len
    refine (redCheck_ok H3 hn (by unfold maxLen; omega)).mono ?_
    rintro e w4 ⟨rfl, g4⟩
    rw [s]
    have G4 := G3.trans g4
    refine ⟨_, rfl, cnd_f rfl (cnd_f (by rw [hk1]; simp) (cnd_f (by rw [hol, hn]; simp) ?_))⟩
    have ok4 := ok.grow ((g2.trans g3).trans g4)
    have oo4 := oo.grow (g3.trans g4)
    refine ⟨fun I w' k => ∃ t : Nat, I = t ∧ t ≤ n ∧ k = n - t ∧ Grow w4 w', ⟨_, 0, rfl, Nat.zero_le _, rfl, Mod.refl w4⟩, ?_⟩
    rintro I w5 k5 _ ⟨t, rfl, ht, rfl, g5⟩
    have G5 := G4.trans g5
    refine cnd_i (fun r => ?_) (fun r => awk' G5)
    have r : t < n := by simpa using r
    have rest : ∀ w6, Grow w5.drew w6 → ixK op o.length (t : Int) 1 fun a24 => ∃ x25 : Int, w6.cell? a24 = some (.int .i64 x25) ∧ cnd (decide (x25 < (0 : Int))) (Ending.returned (.bool false) = .returned (.bool true) ∧ Grow w w6)
        (ixK op o.length (t : Int) 1 fun a26 => ∃ x27 : Int, w6.cell? a26 = some (.int .i64 x27) ∧ cnd (decide (x27 ≥ (n : Int))) (Ending.returned (.bool false) = .returned (.bool true) ∧ Grow w w6)
        (ixK op o.length (t : Int) 1 fun a28 => ∃ x29 : Int, w6.cell? a28 = some (.int .i64 x29) ∧ Calls Try.prog fathomref13_Rank.id #[.slice p n c, .int .i64 x29, .bool true] w6 fun e w30 => ∃ r31 : Int, e = .returned (.int .i64 r31) ∧
          cnd (r31 != (t : Int)) (Ending.returned (.bool false) = .returned (.bool true) ∧ Grow w w30) (∃ k17, k17 < n - t ∧ ∃ t2 : Nat, IntKind.i64.wrap ((t : Int) + 1) = t2 ∧ t2 ≤ n ∧ k17 = n - t2 ∧ Grow w4 w30))) := by
      intro w6 g6
      have o6 := (oo4.grow g5).drew.grow g6
      obtain ⟨r1, r2⟩ := ho.rng (t := t) (by omega)
      refine o6.ix 0 (by omega) rfl (by omega) fun a e => ⟨_, e, ?_⟩
      rw [Int.toNat_natCast]
      refine cnd_f (decide_eq_false (by omega)) ?_
      refine o6.ix 0 (by omega) rfl (by omega) fun a e => ⟨_, e, ?_⟩
      rw [Int.toNat_natCast]
      refine cnd_f (decide_eq_false (by omega)) ?_
      refine o6.ix 0 (by omega) rfl (by omega) fun a e => ⟨_, e, ?_⟩
      rw [Int.toNat_natCast]
      refine (Rank13_ok (((h.grow G5).drew).grow g6) hn hm ⟨r1, r2⟩ true).mono ?_
      rintro e w7 ⟨rfl, g7⟩
      rw [ho.rank_all (t := t) (by omega)]
      refine ⟨_, rfl, cnd_f (by simp) ?_⟩
      refine ⟨_, ?_, t + 1, wN (by omega) (by omega), by omega, rfl, (g5.drew.trans g6).trans g7⟩
      omega
    have ok5 := (ok4.grow g5).drew
    have hkt := hk2 t r
    refine ok5.ix false (by omega) rfl (by omega) fun a e => ?_
    rw [Int.toNat_natCast] at e
    refine ⟨⟨_, e, (Keep13_ok (h.grow G5).drew hn hm (x := (t : Int)) (by omega)).mono ?_⟩, (Keep13_ok (h.grow G5).drew hn hm (x := (t : Int)) (by omega)).mono ?_⟩
    · rintro e w6 ⟨rfl, g6⟩
      exact ⟨_, rfl, cnd_f (by rw [hkt]; simp) (rest w6 g6)⟩
    · rintro e' w6 ⟨rfl, g6⟩
      refine ⟨_, rfl, _, cell_keep g6 e id, cnd_f (by rw [hkt]; simp) (rest w6 g6)⟩
end Go.Proofs.Ytlpmapeojecenaa.W
