/- Layer 2: an arena in memory; what is dropped, swapped, added, told of its places. -/
import Derived.Test.YtamckcamloelbaaArena2
namespace Go.Proofs.Ytamckcamloelbaa.W
open Go Go.Fw Go.RowKit Go.ArP

/-- An arena turned: its items are others. -/
def Upd (w w' : World) (b : Nat) (x : AS) (l : List It) : Prop := ∃ x', ARep w' b x' ∧ x'.l = l ∧ (∀ k, x'.foot b k → x.foot b k ∨ w.heap.size ≤ k) ∧ Mod (x.foot b) w w'

theorem Upd.no {w w' : World} {b : Nat} {x : AS} (h : ARep w b x) (g : Grow w w') : Upd w w' b x x.l := ⟨x, h.grow g, rfl, fun _ => .inl, g.mono fun _ _ => False.elim⟩

theorem ARep.write {w w' : World} {b : Nat} {x : AS} (h : ARep w b x) {i : Nat} (hi : i < x.l.length) {y : It} (hl : y.1.length = (x.it i).1.length) (hy : y.2 = (x.it i).2) (o : OwI ty_int w' x.p x.c (wds (x.l.set i y))) (m : Mod (fun k => blk x.p = some k) w w') :
    ARep w' b { x with l := x.l.set i y } := by
  obtain ⟨s, hs, ha⟩ := h.mp
  refine ⟨?_, o, ⟨s, hs.keep m (fun e => h.pm e), fun a => ?_⟩, h.bp, h.bm, h.pm, by simpa using h.nn⟩
  · have := h.me.keep m (fun e => h.bp e)
    show Has w' b #[_, _, _, _, _]
    rw [wds_same hi hl, plc_same hi hy, wst_same hi hl hy]
    exact this
  · rw [ha]
    constructor
    · rintro ⟨j, hj⟩
      refine ⟨j, (At_set hi hl a j).2 ?_⟩
      split <;> rename_i e
      · subst e
        exact ⟨hj.2.1, by rw [hy]; exact hj.2.2⟩
      · exact hj
    · rintro ⟨j, hj⟩
      refine ⟨j, ?_⟩
      have := (At_set hi hl a j).1 hj
      split at this <;> rename_i e
      · subst e
        exact ⟨hi, this.1, by rw [← hy]; exact this.2⟩
      · exact this

theorem drop_ok {w : World} {b : Nat} {x : AS} (h : ARep w b x) (hw : (wds x.l).length ≤ 4194304) {a : Int} (ha : (Lit.int .i64 a).wf = true) :
    Calls Try.prog arena_Arena_Drop.id #[ptr b, .int .i64 a] w fun e w' => e = .returned (.int .i64 (dropP x.l a).2) ∧ Upd w w' b x (dropP x.l a).1 := by
  refine arena_Arena_Drop.calls ?_
  refine (has_ok h ha).mono ?_
  rintro e w1 ⟨⟨r, rfl, hr⟩, rfl⟩
  refine ⟨_, rfl, cnd_i (fun t => ?_) (fun t => ?_)⟩ <;> simp only [Bool.not_eq_true', Bool.not_eq_false'] at t
  · have : idx x.l a = none := idx_none fun i hi => by rw [hr.2 ⟨i, hi⟩] at t; cases t
    unfold dropP
    rw [this]
    exact ⟨rfl, Upd.no h (Mod.refl w1)⟩
  · obtain ⟨i, hi⟩ := hr.1 t
    obtain ⟨hb1, hb2, hb3⟩ := AS.bd hi
    unfold dropP
    rw [idx_some hi]
    have e1 : IntKind.i64.wrap (a + 1) = a + 1 := wrap64_of (by omega) (by omega)
    rw [e1]
    have hsw : (wds x.l).set (off x.l i + 1) 2 = wds (x.l.set i ((x.it i).1, true)) := set_word hi.1 (by omega) (by simp only [ws, hi.2.2]; rfl)
    obtain ⟨s, hs, hsa⟩ := h.mp
    refine ⟨_, rfl, _, _, _, cell_add h.me rfl, h.o.st 2 rfl rfl (by omega) rfl (by omega) fun w6 o6 m6 => ?_⟩
    rw [show (a + 1).toNat = off x.l i + 1 by omega, hsw] at o6
    have h6 := h.me.keep m6 (fun e => h.bp e)
    have s6 := hs.keep m6 (fun e => h.pm e)
    refine ⟨_, rfl, _, cell_add h6 rfl, ?_⟩
    obtain ⟨w9, hr9, s9, m9⟩ := s6.del map_ib ha 0
    refine ⟨w9, hr9, ?_⟩
    have h9 := h6.keep m9 (fun e => h.bm e.symm)
    have o9 := o6.keep m9 (fun k hk e => h.pm (by rw [hk, e]))
    refine ⟨_, rfl, _, cell_add h9 rfl, _, rfl, store_f h9 rfl rfl fun w13 h13 m13 => ?_⟩
    have s13 := s9.keep m13 h.bm
    have o13 := o9.keep m13 (fun k hk e => h.bp (by rw [hk, e]))
    refine ⟨_, rfl, _, cell_add h13 rfl, _, rfl, _, _, _, cell_add h13 rfl, o13.ix 0 hb1 (wds_same (x := ((x.it i).1, true)) hi.1 rfl).symm (by omega) fun a18 e18 => ⟨_, e18, _, rfl, store_f h13 rfl rfl fun w21 h21 m21' => ?_⟩⟩
    have m21 : Mod (· = b) w13 w21 := (Mod.refl w13).drew.trans m21'
    refine ⟨rfl, { x with l := x.l.set i ((x.it i).1, true) }, ?_, rfl, fun _ => .inl, ?_⟩
    · have ew : (wds (x.l.set i ((x.it i).1, true))).getD a.toNat 0 = (x.it i).1.length := by
        rw [show a.toNat = off x.l i by omega, ← off_set (x := ((x.it i).1, true)) rfl hi.1 i (by have := hi.1; omega), word0 (by simp; exact hi.1)]
        rw [getD_set' hi.1, if_pos rfl]
      refine ⟨?_, o13.keep m21 (fun k hk e => h.bp (by rw [hk, e])), ⟨_, s13.keep m21 h.bm, fun u => ?_⟩, h.bp, h.bm, h.pm, by simpa using h.nn⟩
      · have p1 := plc_drop hi.1 hi.2.2 (x.it i).1
        have p2 := wst_drop hi.1 hi.2.2
        have p3 := h.nn
        have p4 : (plc x.l 0).length ≤ x.l.length := by rw [plc_len]; exact List.length_filter_le _ _
        have p5 : wst x.l ≤ (wds x.l).length := wst_le x.l
        have p6 : x.l.length ≤ (wds x.l).length := len_le x.l
        have q1 : IntKind.i64.wrap (((plc x.l 0).length : Int) - 1) = ((plc (x.l.set i ((x.it i).1, true)) 0).length : Int) := by
          rw [wrap64_of (by omega) (by omega)]; omega
        have q2 : IntKind.i64.wrap ((wst x.l : Int) + IntKind.i64.wrap (2 + ((x.it i).1.length : Int))) = (wst (x.l.set i ((x.it i).1, true)) : Int) := by
          rw [wrap64_of (x := 2 + ((x.it i).1.length : Int)) (by omega) (by omega), wrap64_of (by omega) (by omega)]
          have : wst (x.l.set i ((x.it i).1, true)) = wst x.l + ((x.it i).1.length + 2) := p2
          omega
        show Has w21 b #[.bool true, .slice x.p (wds (x.l.set i ((x.it i).1, true))).length x.c, .map (some x.m), .int .i64 ((plc (x.l.set i ((x.it i).1, true)) 0).length : Int), .int .i64 (wst (x.l.set i ((x.it i).1, true)) : Int)]
        rw [← q1, ← q2, wds_same (x := ((x.it i).1, true)) hi.1 rfl, ← ew]
        exact h21
      · simp only []
        constructor
        · intro hu
          split at hu <;> rename_i e
          · cases hu
          · obtain ⟨j, hj⟩ := (hsa u).1 hu
            refine ⟨j, (At_set (x := ((x.it i).1, true)) hi.1 rfl u j).2 ?_⟩
            split <;> rename_i e2
            · subst e2
              exact absurd (hj.2.1.symm.trans hi.2.1) e
            · exact hj
        · rintro ⟨j, hj⟩
          have := (At_set (x := ((x.it i).1, true)) hi.1 rfl u j).1 hj
          split at this <;> rename_i e2
          · cases this.2
          · have hne : u ≠ a := fun e => e2 ((e ▸ this : At x.l a j).one hi)
            rw [if_neg hne]
            exact (hsa u).2 ⟨j, this⟩
    · exact ((((m6.mono fun k _ e => .inr (.inl e)).trans (m9.mono fun k _ e => .inr (.inr e))).trans (m13.mono fun k _ e => .inl e))).trans (m21.mono fun k _ e => .inl e)
end Go.Proofs.Ytamckcamloelbaa.W
