/- Layer 19: what is refused. -/
import Derived.Test.YtambabpklfeaoaaVec3
import Derived.Test.YtambabpklfeaoaaRank5
namespace Go.Proofs.Ytambabpklfeaoaa.W
open Go Go.Fw Go.RowKit Go.TsP Go.AgP
variable {w w' w2 : World} {b : Nat} {x y z : AG} {p q : Option Addr} {n m c d : Nat}

theorem orderNo_ok {n : Int} (h : n < 0 ∨ 40 < n) (w : World) : Calls Try.prog rank_Order.id #[ptr b, .int .i64 n] w fun e w' => e = .returned (.tuple #[.slice none 0 0, .slice none 0 0]) ∧ Grow w w' := by
  refine rank_Order.calls ?_
  refine cnd_i (fun _ => ⟨rfl, Mod.refl w⟩) (fun r => cnd_t (decide_eq_true ?_) ⟨rfl, Mod.refl w⟩)
  simp at r; omega
theorem reachNo_ok {n : Int} (h : n < 0 ∨ 40 < n) (w : World) : Calls Try.prog rank_Reach.id #[ptr b, .int .i64 n] w fun e w' => e = .returned (.tuple #[.slice none 0 0, .slice none 0 0]) ∧ Grow w w' := by
  refine rank_Reach.calls ?_
  refine cnd_i (fun _ => ⟨rfl, Mod.refl w⟩) (fun r => cnd_t (decide_eq_true ?_) ⟨rfl, Mod.refl w⟩)
  simp at r; omega
theorem edgesNo_ok (h : AM w b x) {hs : List Sl} {cs : List (List Int)} (hc : V2 (Value.int .i64) w q hs cs) (hm : m = cs.length) (hn : isSq x.g.length cs = false) :
    Calls Try.prog rank_Edges.id #[ptr b, .slice q m d, .slice q m d] w fun e w' => e = .returned (.slice none 0 0) ∧ Grow w w' := by
  refine rank_Edges.calls ?_
  refine (rankIs_ok h.a h.len hc hm).mono ?_
  rintro e w1 ⟨rfl, g1⟩
  exact ⟨_, rfl, cnd_t (by rw [hn]; rfl) ⟨rfl, g1⟩⟩

/-- A row, as the statement looks at it. -/
def rowOk (n : Nat) (r : List Int) : Bool := decide (r.length = n) && (r.take 60).all (isL 1)
theorem isSq_rows (cs : List (List Int)) : isSq 1 cs = (decide (cs.length ≤ 40) && cs.all (rowOk cs.length)) := by
  unfold isSq
  by_cases h : cs.length ≤ 40
  · rw [decide_eq_true h, Bool.true_and, Bool.true_and, Bool.eq_iff_iff, List.all_eq_true, List.all_eq_true]
    have key : ∀ r : List Int, (decide (r.length = cs.length) && r.all (isL 1)) = rowOk cs.length r := fun r => by
      unfold rowOk
      by_cases e : r.length = cs.length
      · rw [List.take_of_length_le (by omega)]
      · rw [decide_eq_false e]; rfl
    constructor
    · intro hh r hr; rw [← key]; exact hh r hr
    · intro hh r hr; rw [key]; exact hh r hr
  · rw [decide_eq_false h]; rfl
theorem all_succ {α : Type} {f : α → Bool} {l : List α} {t : Nat} {d : α} (h : t < l.length) : (l.take (t + 1)).all f = ((l.take t).all f && f (l.getD t d)) := by
  have : l[t]? = some (l.getD t d) := by simp [List.getD, h]
  rw [List.take_add_one, this, List.all_append]; simp
theorem isL1 (l : Int) : isL 1 l = (decide (0 ≤ l) && decide (l ≤ 3)) := by
  unfold isL
  by_cases h1 : 0 ≤ l <;> by_cases h2 : l ≤ 3 <;> simp [h1, h2]

theorem RankRefuses_calls (k : Int) {hs : List Sl} {cs : List (List Int)} (hc : V2 (Value.int .i64) w q hs cs) (hm : m = cs.length) :
    Calls Try.prog fathomlaw19_RankRefuses.id #[.int .i64 k, .slice q m d] w fun e w' => e = .returned (.bool true) ∧ Grow w w' := by
  refine fathomlaw19_RankRefuses.calls ?_
  refine (aigNewM_ok w).mono ?_
  rintro e w1 ⟨b, x0, rfl, h0, hg0, f0, g1⟩
  refine ⟨_, rfl, (aigInM_ok h0 (by rw [hg0]; decide)).mono ?_⟩
  rintro e w3 ⟨rfl, x, A, hg⟩
  rw [hg0] at hg
  have hlen : x.g.length = 1 := by rw [hg]; rfl
  have h := A.am
  have G3 : Grow w w3 := g1.then A.mod fun j hj e => by have := f0 j e; omega
  have fx : ∀ j, x.fm b j → w.heap.size ≤ j := fun j hj => by
    rcases A.foot j hj with e | e
    · exact f0 j e
    · have := g1.size; omega
  refine ⟨_, rfl, fun u => Grow w3 u, ?_, ?_⟩
  · have refuse : (k < 0 ∨ 40 < k) → Calls Try.prog rank_Order.id #[ptr b, .int .i64 k] w3 fun e w6 => ∃ r7_p : Option Addr, ∃ r7_n : Nat, ∃ r7_c : Nat, ∃ r8_p : Option Addr, ∃ r8_n : Nat, ∃ r8_c : Nat, e = .returned (.tuple #[.slice r7_p r7_n r7_c, .slice r8_p r8_n r8_c]) ∧ 
        Calls Try.prog rank_Reach.id #[ptr b, .int .i64 k] w6 fun e w9 => ∃ r10_p : Option Addr, ∃ r10_n : Nat, ∃ r10_c : Nat, ∃ r11_p : Option Addr, ∃ r11_n : Nat, ∃ r11_c : Nat, e = .returned (.tuple #[.slice r10_p r10_n r10_c, .slice r11_p r11_n r11_c]) ∧ 
        cnd ((r7_n : Int) != (0 : Int)) (Ending.returned (.bool false) = .returned (.bool true) ∧ Grow w w9)
        (cnd ((r8_n : Int) != (0 : Int)) (Ending.returned (.bool false) = .returned (.bool true) ∧ Grow w w9)
        (cnd ((r10_n : Int) != (0 : Int)) (Ending.returned (.bool false) = .returned (.bool true) ∧ Grow w w9)
        (cnd ((r11_n : Int) != (0 : Int)) (Ending.returned (.bool false) = .returned (.bool true) ∧ Grow w w9)
        (Calls Try.prog aig_Aig_Len.id #[ptr b] w9 fun e w12 => ∃ r13 : Int, e = .returned (.int .i64 r13) ∧ 
        cnd (r13 != (1 : Int)) (Ending.returned (.bool false) = .returned (.bool true) ∧ Grow w w12) (Grow w3 w12))))) := by
      intro hk
      refine (orderNo_ok hk w3).mono ?_
      rintro e w6 ⟨rfl, g6⟩
      refine ⟨_, _, _, _, _, _, rfl, (reachNo_ok hk w6).mono ?_⟩
      rintro e w9 ⟨rfl, g9⟩
      refine ⟨_, _, _, _, _, _, rfl, cnd_f rfl (cnd_f rfl (cnd_f rfl (cnd_f rfl ((aigLen_ok (h.grow (g6.trans g9)).a).mono ?_))))⟩
      rintro e w12 ⟨rfl, g12⟩
      exact ⟨_, rfl, cnd_f (by rw [hlen]; rfl) ((g6.trans g9).trans g12)⟩
    exact cnd_i (fun r => refuse (.inl (by simpa using r))) (fun _ => cnd_i (fun r => refuse (.inr (by simpa using r))) (fun _ => Mod.refl w3))
  rintro w22 _ (g22 : Grow w3 w22)
  have G22 := G3.trans g22
  refine cnd_i (fun _ => awake19' G22) (fun r50 => ?_)
  have r50 : cs.length ≤ 50 := by simp at r50; omega
  refine ⟨fun may I u z => ∃ t : Nat, I = t ∧ t ≤ cs.length ∧ z = cs.length - t ∧ may = (decide (cs.length ≤ 40) && (cs.take t).all (rowOk cs.length)) ∧ Grow w22 u, ⟨_, 0, rfl, Nat.zero_le _, rfl, by rw [hm]; simp; omega, Mod.refl _⟩, ?_⟩
  rintro may I w30 z _ ⟨t, rfl, ht, rfl, hmay, G⟩
  have G30 := G22.trans G
  refine cnd_i (fun r => ?_) (fun r => ?_)
  · have r : t < cs.length := by simp at r; omega
    have V := hc.grow' G30
    have es := all_succ (f := rowOk cs.length) (d := []) r
    refine cnd_i (fun r2 => ?a1) (fun r2 => ?a2)
    case' a1 =>
      refine rIx V hm r fun a sl e _ hsn hsm hv => ⟨_, _, _, e, ?_⟩
      have hs0 : ((sl.n : Int) == (m : Int)) = decide ((cs.getD t []).length = cs.length) := by
        rw [hsn, hm, Bool.eq_iff_iff, beq_iff_eq, decide_eq_true_eq]; omega
      refine ⟨fun mj K u z => ∃ j : Nat, K = j ∧ j ≤ (cs.getD t []).length ∧ j ≤ 60 ∧ z = 60 - j ∧ mj = (decide ((cs.getD t []).length = cs.length) && ((cs.getD t []).take j).all (isL 1)) ∧ Grow w30 u, ⟨_, 0, rfl, Nat.zero_le _, Nat.zero_le _, rfl, by rw [hs0]; simp, Mod.refl _⟩, ?_⟩
      have hrow : may = true := r2
      have hfin : ∀ j, j ≤ (cs.getD t []).length → (j = (cs.getD t []).length ∨ j = 60) → j ≤ 60 → (decide ((cs.getD t []).length = cs.length) && ((cs.getD t []).take j).all (isL 1)) = (decide (cs.length ≤ 40) && (cs.take (t + 1)).all (rowOk cs.length)) := fun j h1 h2 h3 => by
        rw [es, ← Bool.and_assoc, ← hmay, hrow, Bool.true_and]
        unfold rowOk
        rcases h2 with e | e
        · rw [e, List.take_length, List.take_of_length_le (by omega)]
        · rw [e]
    case' a2 =>
      refine ⟨fun mj K u z => ∃ j : Nat, K = j ∧ j ≤ (cs.getD t []).length ∧ j ≤ 60 ∧ z = 60 - j ∧ mj = (false && ((cs.getD t []).take j).all (isL 1)) ∧ Grow w30 u, ⟨_, 0, rfl, Nat.zero_le _, Nat.zero_le _, rfl, rfl, Mod.refl _⟩, ?_⟩
      have hfin : ∀ j, j ≤ (cs.getD t []).length → (j = (cs.getD t []).length ∨ j = 60) → j ≤ 60 → (false && ((cs.getD t []).take j).all (isL 1)) = (decide (cs.length ≤ 40) && (cs.take (t + 1)).all (rowOk cs.length)) := fun j h1 h2 h3 => by
        rw [es, ← Bool.and_assoc, ← hmay, r2]; rfl
    case a1 | a2 =>
      generalize hm0 : (decide ((cs.getD t []).length = cs.length)) = m0 at *
      rintro mj K w38 z _ ⟨j, rfl, hj, hj60, rfl, rfl, G2⟩
      have V2' := V.grow' G2
      refine rIx V2' hm r fun a sl e _ hsn hsm hv => ⟨_, _, _, e, cnd_i (fun r3 => cnd_i (fun r4 => ?_) (fun r4 => ⟨_, ?_, t + 1, wN (by omega) (by omega), by omega, rfl, hfin j hj (.inr ?_) hj60, G.trans G2⟩)) (fun r3 => ⟨_, ?_, t + 1, wN (by omega) (by omega), by omega, rfl, hfin j hj (.inl ?_) hj60, G.trans G2⟩)⟩
      · have r3 : j < (cs.getD t []).length := by simp only [decide_eq_true_eq] at r3; omega
        have r4 : j < 60 := by simp only [decide_eq_true_eq] at r4; omega
        have ej := all_succ (f := isL 1) (d := 0) r3
        refine cnd_i (fun r5 => rIx V2' hm r fun a sl e _ hsn hsm hv => ⟨_, _, _, e, hv.ix 0 (by omega) hsn (by omega) fun a e => ⟨_, e, ?_⟩⟩) (fun r5 => ⟨_, ?_, j + 1, wN (by omega) (by omega), by omega, by omega, rfl, by rw [ej, ← Bool.and_assoc, r5]; rfl, G2⟩)
        · rw [Int.toNat_natCast]
          refine cnd_i (fun r6 => rIx V2' hm r fun a sl e _ hsn hsm hv => ⟨_, _, _, e, hv.ix 0 (by omega) hsn (by omega) fun a e => ⟨_, e, _, ?_, j + 1, wN (by omega) (by omega), by omega, by omega, rfl, ?_, G2⟩⟩) (fun r6 => ⟨_, ?_, j + 1, wN (by omega) (by omega), by omega, by omega, rfl, ?_, G2⟩)
          · omega
          · rw [Int.toNat_natCast, ej, ← Bool.and_assoc, r5, isL1]
            have : decide (0 ≤ (cs.getD t []).getD j 0) = true := r6
            rw [this]; rfl
          · omega
          · rw [ej, ← Bool.and_assoc, r5, isL1]
            have : decide (0 ≤ (cs.getD t []).getD j 0) = false := r6
            rw [this]; rfl
        · omega
      · omega
      · simp only [decide_eq_false_iff_not] at r4; omega
      · omega
      · simp only [decide_eq_false_iff_not] at r3; omega
  have r : t = cs.length := by simp at r; omega
  subst r
  rw [List.take_length, ← isSq_rows, ← hlen] at hmay
  have hx30 := h.grow (g22.trans G)
  have Vc := hc.grow' G30
  have sp : ∀ j, foot3 q hs j → ¬ x.fm b j := fun j hj e => by
    have := V2.lt3 hc j hj
    have := fx j e
    omega
  refine (places_ok hx30 Vc hm sp (by rw [hlen]; decide)).mono ?_
  rintro e w65 ⟨P, D, outs, y, us, rfl, A65, _, _, no, yes⟩
  have G65 : Grow w w65 := G30.then A65.mod fun j hj e => by have := fx j e; omega
  refine ⟨_, _, _, rfl, cnd_i (fun r2 => ?_) (fun r2 => ?_)⟩
  · have := (yes (hmay ▸ r2)).1
    exact cnd_t (beq_iff_eq.2 (by omega)) (awake19' G65)
  · have hn : isSq x.g.length cs = false := by rw [← hmay]; exact r2
    obtain ⟨rfl, rfl⟩ := no hn
    refine cnd_t rfl ((edgesNo_ok A65.am (V2.keep3 Vc A65.mod sp) hm hn).mono ?_)
    rintro e w69 ⟨rfl, g69⟩
    refine ⟨_, _, _, rfl, cnd_t rfl fun n71 w72 h72 => ?_⟩
    have v : Vw (Value.int .i64) w72 (some ⟨n71, 0, none⟩) [0] := by
      intro j hj
      have : j = 0 := by simpa using hj
      subst this
      exact ⟨_, rfl, cell_add h72.has rfl⟩
    refine (has_ok v (n := 1) rfl (by decide) 0).mono ?_
    rintro e w73 ⟨rfl, g73⟩
    exact ⟨_, rfl, cnd_t rfl (awake19' (((G65.trans g69).trans h72.mod).trans g73))⟩

theorem RankRefuses_law (v0 v1 : Value) (W : World) (h0 : RdV W (.int .i64) v0) (h1 : RdV W (.sl (.sl (.int .i64))) v1) : Calls Try.prog fathomlaw19_RankRefuses.id #[v0, v1] W fun e W' => e = .returned (.bool true) ∧ Grow W W' := by
  obtain ⟨n, rfl, _⟩ := h0
  obtain ⟨q, m, d, hs, cs, rfl, hm, _, _, hc⟩ := rows_of_rd (fun v => ints_of_rd') h1
  exact RankRefuses_calls n hc hm
end Go.Proofs.Ytambabpklfeaoaa.W
