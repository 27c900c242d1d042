/- Layer 2: an arena in memory; literals are swapped, a clause is added, places are told. -/
import Derived.Test.YtamckcamloelbaaArena3
import Derived.Test.YtamckcamloelbaaFwSq
namespace Go.Proofs.Ytamckcamloelbaa.W
open Go Go.Fw Go.RowKit Go.ArP

theorem swap_ok {w : World} {b : Nat} {x : AS} (h : ARep w b x) (hw : (wds x.l).length ≤ 4194304) {a : Int} (ha : (Lit.int .i64 a).wf = true) (u v : Int) :
    Calls Try.prog arena_Arena_Swap.id #[ptr b, .int .i64 a, .int .i64 u, .int .i64 v] w fun e w' => e = .returned (.int .i64 (swapP x.l a u v).2) ∧ Upd w w' b x (swapP x.l a u v).1 := by
  refine arena_Arena_Swap.calls ?_
  refine (has_ok h ha).mono ?_
  rintro e w1 ⟨⟨r, rfl, hr⟩, rfl⟩
  refine ⟨_, rfl, cnd_i (fun t => ?_) (fun t => ?_)⟩ <;> simp only [Bool.not_eq_true', Bool.not_eq_false'] at t
  · have : idx x.l a = none := idx_none fun i hi => by rw [hr.2 ⟨i, hi⟩] at t; cases t
    unfold swapP
    rw [this]
    exact ⟨rfl, Upd.no h (Mod.refl w1)⟩
  · obtain ⟨i, hi⟩ := hr.1 t
    obtain ⟨hb1, hb2, hb3⟩ := AS.bd hi
    simp only [AS.it] at hb2
    unfold swapP
    rw [idx_some hi]
    refine (lits_ok h hi).mono ?_
    rintro e w3 ⟨rfl, rfl⟩
    simp only [AS.it]
    refine ⟨_, _, _, rfl, ?_⟩
    have no : ¬(0 ≤ u ∧ 0 ≤ v ∧ u < ((x.l.getD i ([], true)).1.length : Int) ∧ v < ((x.l.getD i ([], true)).1.length : Int)) → (Ending.returned (Value.int .i64 1) = Ending.returned (Value.int .i64 (match some i with | some i => if 0 ≤ u ∧ 0 ≤ v ∧ u < ((x.l.getD i ([], true)).1.length : Int) ∧ v < ((x.l.getD i ([], true)).1.length : Int) then (x.l.set i (swp (x.l.getD i ([], true)).1 u v, false), (0 : Int)) else (x.l, 1) | none => (x.l, 4)).2)) ∧ Upd w3 w3 b x (match some i with | some i => if 0 ≤ u ∧ 0 ≤ v ∧ u < ((x.l.getD i ([], true)).1.length : Int) ∧ v < ((x.l.getD i ([], true)).1.length : Int) then (x.l.set i (swp (x.l.getD i ([], true)).1 u v, false), (0 : Int)) else (x.l, 1) | none => (x.l, 4)).1 := fun hn => by
      simp only [if_neg hn]
      exact ⟨trivial, Upd.no h (Mod.refl w3)⟩
    refine cnd_i (fun t1 => no ?_) (fun t1 => cnd_i (fun t2 => no ?_) (fun t2 => cnd_i (fun t3 => no ?_) (fun t3 => cnd_i (fun t4 => no ?_) (fun t4 => ?_)))) <;> simp only [decide_eq_true_eq, decide_eq_false_iff_not, ge_iff_le] at *
    · omega
    · omega
    · omega
    · omega
    · have hg : 0 ≤ u ∧ 0 ≤ v ∧ u < ((x.l.getD i ([], true)).1.length : Int) ∧ v < ((x.l.getD i ([], true)).1.length : Int) := by
        exact ⟨by omega, by omega, by omega, by omega⟩
      simp only [if_pos hg]
      have hl : Vw (Value.int .i64) w3.drew (x.lp i) (x.l.getD i ([], true)).1 := (h.lits hi.1).drew
      have elp : x.lp i = x.p.map (·.add ((off x.l i + 2) * 1)) := by
        unfold AS.lp
        rw [if_neg (show ¬ (x.l.getD i ([], true)).1.length = 0 by omega)]
      refine hl.ix 0 (by omega) rfl (by omega) fun a5 e5 => ⟨_, e5, hl.ix 0 (by omega) rfl (by omega) fun a7 e7 => ⟨_, e7, ?_⟩⟩
      have x1 : (ws (x.l.getD i ([], true))).set (2 + u.toNat) ((x.l.getD i ([], true)).1.getD v.toNat 0) = ws ((x.l.getD i ([], true)).1.set u.toNat ((x.l.getD i ([], true)).1.getD v.toNat 0), (x.l.getD i ([], true)).2) := by
        simp [ws, Nat.add_comm 2]
      rw [elp]
      refine ixK_off (h.o.drew.st ((x.l.getD i ([], true)).1.getD v.toNat 0) rfl rfl (by omega) rfl (by omega) fun w10 o10 m10 => ?_) (by omega) (by omega)
      rw [show (((off x.l i + 2 : Nat) : Int) + u).toNat = off x.l i + (2 + u.toNat) by omega, set_word hi.1 (by omega) x1] at o10
      have m10 : Mod (fun k => blk x.p = some k) w3 w10 := (Mod.refl w3).drew.trans m10
      have r10 := h.write hi.1 (y := ((x.l.getD i ([], true)).1.set u.toNat ((x.l.getD i ([], true)).1.getD v.toNat 0), (x.l.getD i ([], true)).2)) (by simp) rfl o10 m10
      have oo := off_set (l := x.l) (i := i) (x := ((x.l.getD i ([], true)).1.set u.toNat ((x.l.getD i ([], true)).1.getD v.toNat 0), (x.l.getD i ([], true)).2)) (by simp) hi.1 i (Nat.le_of_lt hi.1)
      have x2 : (ws ((x.l.set i ((x.l.getD i ([], true)).1.set u.toNat ((x.l.getD i ([], true)).1.getD v.toNat 0), (x.l.getD i ([], true)).2)).getD i ([], true))).set (2 + v.toNat) ((x.l.getD i ([], true)).1.getD u.toNat 0) = ws (swp (x.l.getD i ([], true)).1 u v, false) := by
        rw [getD_set' hi.1, if_pos rfl]
        have := hi.2.2
        simp [ws, swp, Nat.add_comm 2] at this ⊢
        exact this
      have hlen : (wds (x.l.set i ((x.l.getD i ([], true)).1.set u.toNat ((x.l.getD i ([], true)).1.getD v.toNat 0), (x.l.getD i ([], true)).2))).length = (wds x.l).length := wds_same hi.1 (by simp)
      refine ixK_off (o10.st ((x.l.getD i ([], true)).1.getD u.toNat 0) rfl rfl (by omega) rfl (by omega) fun w12 o12 m12 => ?_) (by omega) (by omega)
      rw [show (((off x.l i + 2 : Nat) : Int) + v).toNat = off x.l i + (2 + v.toNat) by omega, ← oo, set_word (by simpa using hi.1) (by rw [getD_set' hi.1, if_pos rfl]; simp only [List.length_set]; omega) x2] at o12
      have hi2 : i < (x.l.set i ((x.l.getD i ([], true)).1.set u.toNat ((x.l.getD i ([], true)).1.getD v.toNat 0), (x.l.getD i ([], true)).2)).length := by simpa using hi.1
      have r12 := r10.write hi2 (y := (swp (x.l.getD i ([], true)).1 u v, false)) (by show (swp _ u v).length = (((x.l.set i _).getD i ([], true)).1).length; rw [swp_len, getD_set' hi.1, if_pos rfl]; simp) (by show false = ((x.l.set i _).getD i ([], true)).2; rw [getD_set' hi.1, if_pos rfl]; exact hi.2.2.symm) o12 m12
      rw [List.set_set] at r12
      exact ⟨trivial, { x with l := x.l.set i (swp (x.l.getD i ([], true)).1 u v, false) }, r12, rfl, fun _ => .inl, (m10.trans m12).mono fun k _ e => .inr (.inl e)⟩

theorem New_ok (w : World) : Calls Try.prog arena_New.id #[] w fun e w' => (∃ b x, e = .returned (ptr b) ∧ ARep w' b x ∧ x.l = [] ∧ ∀ k, x.foot b k → w.heap.size ≤ k) ∧ Grow w w' := by
  refine arena_New.calls ?_
  intro n1 w2 h2 n3 w4 h4
  have := h2.num
  have := h4.num
  have z := h2.mod.size
  have hlt : n1 < w2.heap.size := (MB.new (P := Try.prog) (k := ty_int) (e := ty_bool) h2).lt
  refine ⟨⟨n3, ⟨none, 0, n1, 0, []⟩, rfl, ⟨h4.has, Ow.nil _ _ _, ⟨_, (MB.new h2).grow h4.mod, fun a => ?_⟩, by simp [blk], ?_, by simp [blk], Nat.le_refl _⟩, rfl, ?_⟩, h2.mod.trans h4.mod⟩
  · simp [At]
  · show n1 ≠ n3; omega
  · rintro k (rfl | hk | hk)
    · omega
    · simp [blk] at hk
    · have : k = n1 := hk
      omega

noncomputable def addP (l : List It) (c : List Int) : List It × Int × Int := if clB c then (l ++ [(c, false)], (wds l).length, 0) else (l, 0, 1)

theorem Vw.keep' {α : Type} {f : α → Value} {S : Nat → Prop} {w w' : World} {p : Option Addr} {l : List α} (h : Vw f w p l) (m : Mod S w w') (hs : l ≠ [] → ∀ b, blk p = some b → ¬ S b) : Vw f w' p l := by
  by_cases hl : l = []
  · subst hl; exact Vw.nil
  · exact h.keep m (hs hl)

theorem at_app {l : List It} {c : List Int} {a : Int} : (∃ i, At (l ++ [(c, false)]) a i) ↔ (a = (wds l).length ∨ ∃ i, At l a i) := by
  have o : ∀ i, i ≤ l.length → off (l ++ [(c, false)]) i = off l i := fun i hi => by unfold off; rw [List.take_append_of_le_length hi]
  constructor
  · rintro ⟨i, h1, h2, h3⟩
    simp at h1
    rw [o i (by omega)] at h2
    by_cases e : i = l.length
    · subst e
      rw [off_len] at h2
      exact .inl h2.symm
    · refine .inr ⟨i, by omega, h2, ?_⟩
      rw [getD_app, if_neg e] at h3
      exact h3
  · rintro (rfl | ⟨i, h1, h2, h3⟩)
    · exact ⟨l.length, by simp, by rw [o _ (Nat.le_refl _), off_len], by rw [getD_app, if_pos rfl]⟩
    · exact ⟨i, by simp; omega, by rw [o i (by omega)]; exact h2, by rw [getD_app, if_neg (by omega)]; exact h3⟩

theorem add_ok {w : World} {b : Nat} {x : AS} (h : ARep w b x) {q : Option Addr} {n k : Nat} {c : List Int} (hc : Vw (Value.int .i64) w q c) (hn : n = c.length) (hcw : c.length ≤ 300) (hw : (wds x.l).length ≤ 4000000) (hd : c ≠ [] → ∀ j, blk q = some j → ¬ x.foot b j) :
    Calls Try.prog arena_Arena_Add.id #[ptr b, .slice q n k] w fun e w' => e = .returned (.tuple #[.int .i64 (addP x.l c).2.1, .int .i64 (addP x.l c).2.2]) ∧ Upd w w' b x (addP x.l c).1 := by
  subst hn
  refine arena_Arena_Add.calls ?_
  refine cnd_f rfl ⟨_, rfl, _, cell_add h.me rfl, cnd_f rfl ((litCheck_ok hc rfl (by unfold maxLen; omega)).mono ?_)⟩
  rintro e w3 ⟨rfl, g3⟩
  have h3 := h.grow g3
  unfold addP
  refine ⟨_, rfl, cnd_i (fun t => ?_) (fun t => ?_)⟩
  · have : ¬ clB c = true := fun e => by rw [if_pos e] at t; simp at t
    rw [if_neg this]
    exact ⟨rfl, Upd.no h g3⟩
  · have : clB c = true := by
      by_cases e : clB c = true
      · exact e
      · rw [if_neg e] at t; simp at t
    rw [if_pos this]
    refine ⟨_, rfl, _, _, _, cell_add h3.me rfl, cnd_f ?_ ?_⟩
    · rw [wrap64_of (by omega) (by omega), wrap64_of (by omega) (by omega)]
      simp only [decide_eq_false_iff_not]; omega
    · refine ⟨_, rfl, _, _, _, cell_add h3.me rfl, _, rfl, _, _, _, cell_add h3.me rfl, ?_⟩
      intro n11 w12 h12
      have r12 := h3.grow h12.mod
      refine r12.o.app (m := 2) sl_int rfl [(c.length : Int), 1] rfl (by omega) (fun j hj => ?_) oneInt (by omega) fun w13 p13 c13 o13 m13 hp13 z13 => ?_
      · rcases j with _ | _ | j
        · exact cell_add h12.has rfl
        · exact cell_add h12.has rfl
        · simp at hj; omega
      have hlt := h3.lt
      have c13' : Vw (Value.int .i64) w13 q c := Vw.keep' ((hc.grow g3).grow h12.mod) m13 fun hne j hj e => hd hne j hj (.inr (.inl e))
      have el : ∀ l : List It, wds l ++ [(c.length : Int), 1] ++ c = wds (l ++ [(c, false)]) := fun l => by simp [wds, ws]
      refine o13.appV sl_int c13' rfl rfl oneInt (by simp; omega) fun w15 p15 c15 o15 m15 hp15 z15 => ?_
      rw [el] at o15
      rw [el]
      have f15 : ∀ j, blk p15 = some j → blk x.p = some j ∨ w3.heap.size ≤ j := by
        intro j hj
        have a1 := h12.mod.size
        have a2 := m13.size
        rcases hp15 with rfl | rfl
        · rcases hp13 with rfl | rfl
          · exact .inl hj
          · simp [blk] at hj; omega
        · simp [blk] at hj; omega
      have G15 : Mod (fun j => blk x.p = some j) w3 w15 := (h12.mod.mono (fun _ _ => False.elim)).then m13 (fun _ _ => id) |>.then m15 fun j hj e => by
        rcases hp13 with rfl | rfl
        · exact e
        · have := h12.mod.size
          simp [blk] at e; omega
      have m15' := h3.me.keep G15 (fun e => h.bp e)
      obtain ⟨s, hs, hsa⟩ := h3.mp
      have s15 := hs.keep G15 (fun e => h.pm e)
      refine ⟨_, rfl, store_f m15' rfl rfl fun w18 h18 m18 => ?_⟩
      have s18 := s15.keep m18 h.bm
      have b3 : b < w3.heap.size := h3.lt b (.inl rfl)
      have bm3 : x.m < w3.heap.size := h3.lt x.m (.inr (.inr rfl))
      have p15b : blk p15 ≠ some b := fun e => by rcases f15 b e with e | e; exact h.bp e; omega
      have p15m : blk p15 ≠ some x.m := fun e => by rcases f15 x.m e with e | e; exact h.pm e; omega
      have o18 := o15.keep m18 (fun k hk e => p15b (by rw [hk, e]))
      refine ⟨_, rfl, _, cell_add h18 rfl, ?_⟩
      have hnn := h.nn
      have hle := len_le x.l
      obtain ⟨w21, hr21, s21, m21⟩ := s18.put map_ib (by unfold maxLen; omega) (a := ((wds x.l).length : Int)) (wf64 (by omega) (by omega)) true
      refine ⟨w21, hr21, ?_⟩
      have h21 := h18.keep m21 (fun e => h.bm e.symm)
      have o21 := o18.keep m21 (fun k hk e => p15m (by rw [hk, e]))
      refine ⟨_, rfl, _, cell_add h21 rfl, _, rfl, store_f h21 rfl rfl fun w25 h25 m25 => ⟨rfl, ⟨p15, c15, x.m, x.n + 1, x.l ++ [(c, false)]⟩, ?_, rfl, ?_, ?_⟩⟩
      · refine ⟨?_, o21.keep m25 (fun k hk e => p15b (by rw [hk, e])), ⟨_, s21.keep m25 h.bm, fun a => ?_⟩, p15b, h.bm, p15m, by simp; exact h.nn⟩
        · have p1 : (plc x.l 0).length ≤ x.l.length := by rw [plc_len]; exact List.length_filter_le _ _
          have e1 : IntKind.i64.wrap (((plc x.l 0).length : Int) + 1) = ((plc (x.l ++ [(c, false)]) 0).length : Int) := by
            rw [wrap64_of (by omega) (by omega), plc_app]
            simp [plc]
          have e2 : wst (x.l ++ [(c, false)]) = wst x.l := by rw [wst_app]; simp [wst]
          show Has w25 b #[.bool true, .slice p15 (wds (x.l ++ [(c, false)])).length c15, .map (some x.m), .int .i64 ((plc (x.l ++ [(c, false)]) 0).length : Int), .int .i64 (wst (x.l ++ [(c, false)]) : Int)]
          rw [← e1, e2]
          exact h25
        · rw [at_app]
          by_cases e : a = (wds x.l).length
          · simp [e]
          · simp only [if_neg e, hsa a]; simp [e]
      · have := g3.size
        rintro j (rfl | hj | rfl)
        · exact .inl (.inl rfl)
        · rcases f15 j hj with e | e
          · exact .inl (.inr (.inl e))
          · exact .inr (by omega)
        · exact .inl (.inr (.inr rfl))
      · exact ((((g3.mono fun _ _ => False.elim).then G15 fun j _ e => .inr (.inl e)).trans (m18.mono fun j _ e => .inl e)).trans (m21.mono fun j _ e => .inr (.inr e))).trans (m25.mono fun j _ e => .inl e)
end Go.Proofs.Ytamckcamloelbaa.W
