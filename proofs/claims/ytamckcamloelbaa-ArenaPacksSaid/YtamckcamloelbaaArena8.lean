/- Layer 2: the document's arena in memory; dropped, swapped, packed. -/
import Derived.Test.YtamckcamloelbaaArena7
namespace Go.Proofs.Ytamckcamloelbaa.W
open Go Go.Fw Go.RowKit Go.ArP

theorem RR.set {w' : World} {p q : Option Addr} {c : Nat} {hs : List Hd} {l : List It} {i : Nat} (h : RR w' q hs l) (hi : i < l.length) {y : Hd} {z : It} (R : HRow w' p c (hs.set i y)) (hc : Vw (Value.int .i64) w' y.1.p z.1) (hn : y.1.n = z.1.length) (hz : y.2 = z.2) : RR w' p (hs.set i y) (l.set i z) := by
  refine ⟨R.vr hvE, by simp [h.n], fun j hj => ?_⟩
  have hj : j < l.length := by simpa using hj
  rw [getD_set (by rw [h.n]; exact hi), getD_set hi]
  by_cases e : j = i
  · rw [if_pos e, if_pos e]
    exact ⟨hn, hc, hz⟩
  · rw [if_neg e, if_neg e]
    exact h.r j hj

theorem refDrop_ok {w : World} {q : Option Addr} {hs : List Hd} {l : List It} {n c : Nat} (h : RR w q hs l) (hn : n = l.length) (hw : (wds l).length ≤ 4000000) (a : Int) :
    Calls Try.prog fathomref02_Drop.id #[.agg #[.slice q n c], .int .i64 a] w fun e w' => (∃ p' n' c', e = .returned (.tuple #[.agg #[.slice p' n' c'], .int .i64 (dropP l a).2]) ∧ RUpd w w' q hs (fun _ => False) (dropP l a).1 p' n') ∧ Grow w w' := by
  subst hn
  refine fathomref02_Drop.calls ?_
  intro n1 w2 h2 n3 w4 h4
  have G4 := h2.mod.trans h4.mod
  have e1 := h2.num
  have e3 := h4.num
  have z2 := New.size h2
  have z4 := New.size h4
  have H1 := h2.has.old h4
  have H3 := h4.has
  have hll := len_le l
  refine ⟨_, _, _, cells1 H1, (refAt_ok (h.grow G4) rfl (by omega) a).mono ?_⟩
  rintro e w6 ⟨⟨r, rfl, hi⟩, g6⟩
  have G6 := G4.trans g6
  have z6 := g6.size
  unfold dropP
  refine ⟨_, rfl, cnd_i (fun t => ?_) (fun t => ?_)⟩ <;> simp only [decide_eq_true_eq, decide_eq_false_iff_not] at t
  · rcases hi with ⟨i, hi, rfl⟩ | ⟨rfl, hi⟩
    · omega
    · rw [idx_none hi]
      refine ⟨_, _, _, cells1 (H1.grow g6), store_i (H3.grow g6) rfl rfl fun w8 h8 m8 => ⟨_, _, _, cells1 h8, ?_⟩⟩
      have G8 : Grow w w8 := G6.then m8 fun j hj e => by omega
      exact ⟨⟨_, _, _, rfl, RUpd.no (h.grow G8) rfl⟩, G8⟩
  · rcases hi with ⟨i, hi, rfl⟩ | ⟨rfl, hi⟩
    · rw [idx_some hi]
      have hhn := h.n
      refine on_newE fun nE w12 E eE m12 => ?_
      have G12 := G6.trans m12
      refine ⟨_, _, _, cell_add (H1.grow (g6.trans m12)) rfl, ?_⟩
      refine Row.app (news := hs) hvE sl_item E (h.grow G12).v rfl (by omega) (by simp; omega) fun w14 p14 c14 R14 m14 hp14 z14 => ?_
      rw [List.nil_append] at R14 ⊢
      have fr14 : ∀ j, blk p14 = some j → w6.heap.size ≤ j := fun j hj => by
        rcases hp14 with rfl | rfl
        · have := blk_some hj; omega
        · have := blk_some hj; have := m12.size; omega
      have g14 : Grow w6 w14 := m12.then m14 fun j hj e => by have := blk_some e; omega
      refine Row.stF hvE R14 (o := 1) (i := (i : Int)) hd0 ((hs.getD i hd0).1, true) (by rw [Int.toNat_natCast]; rfl) (by omega) rfl (by omega) rfl (by have := hi.1; omega) fun w17 R17 m17 => ?_
      rw [Int.toNat_natCast] at R17
      have g17 : Grow w6 w17 := g14.then m17 fun j hj e => by have := fr14 j e; omega
      refine store_i (H3.grow (g6.trans g17)) rfl rfl fun w18 h18 m18 => ⟨_, _, _, cells1 h18, ?_⟩
      have G18 : Grow w w18 := (G6.trans g17).then m18 fun j hj e => by omega
      have hr := h.grow G18
      refine ⟨⟨_, _, _, rfl, hs.set i ((hs.getD i hd0).1, true), hr.set hi.1 (R17.keep m18 fun j hj e => by have := fr14 j hj; omega) (hr.r i hi.1).2.1 (hr.r i hi.1).1 rfl, by simp [hhn], ?_⟩, G18⟩
      rintro j (⟨_, hj⟩ | ⟨hd, hmem, hpos, hj⟩)
      · have := fr14 j hj
        have := G6.size
        exact .inr (.inr (by omega))
      · rcases List.mem_or_eq_of_mem_set hmem with hmem | rfl
        · exact .inl (.inr ⟨hd, hmem, hpos, hj⟩)
        · exact .inl (.inr ⟨_, mem_hd (by have := hi.1; omega), hpos, hj⟩)
    · omega

theorem refSwap_ok {w : World} {q : Option Addr} {hs : List Hd} {l : List It} {n c : Nat} (h : RR w q hs l) (hn : n = l.length) (hw : (wds l).length ≤ 4000000) (a u v : Int) :
    Calls Try.prog fathomref02_Swap.id #[.agg #[.slice q n c], .int .i64 a, .int .i64 u, .int .i64 v] w fun e w' => (∃ p' n' c', e = .returned (.tuple #[.agg #[.slice p' n' c'], .int .i64 (swapP l a u v).2]) ∧ RUpd w w' q hs (fun _ => False) (swapP l a u v).1 p' n') ∧ Grow w w' := by
  subst hn
  refine fathomref02_Swap.calls ?_
  intro n1 w2 h2 n3 w4 h4
  have G4 := h2.mod.trans h4.mod
  have e1 := h2.num
  have e3 := h4.num
  have z2 := New.size h2
  have z4 := New.size h4
  have H1 := h2.has.old h4
  have H3 := h4.has
  have hll := len_le l
  refine ⟨_, _, _, cells1 H1, (refAt_ok (h.grow G4) rfl (by omega) a).mono ?_⟩
  rintro e w6 ⟨⟨r, rfl, hi⟩, g6⟩
  have G6 := G4.trans g6
  have z6 := g6.size
  unfold swapP
  have H1 := H1.grow g6
  have H3 := H3.grow g6
  have no : ∀ e : Int, ∃ x8_p : Option Addr, ∃ x8_n : Nat, ∃ x8_c : Nat, CellsAt w6 (Addr.mk n1 0 none) 0 [.slice x8_p x8_n x8_c] ∧ 
    ∃ w9 : World, StoreAt (Addr.mk n3 0 none) 0 [.slice x8_p x8_n x8_c] w6 w9 ∧ 
    ∃ x10_p : Option Addr, ∃ x10_n : Nat, ∃ x10_c : Nat, CellsAt w9 (Addr.mk n3 0 none) 0 [.slice x10_p x10_n x10_c] ∧ 
    ((∃ p' n' c', Ending.returned (.tuple #[.agg #[.slice x10_p x10_n x10_c], .int .i64 e]) = .returned (.tuple #[.agg #[.slice p' n' c'], .int .i64 e]) ∧ RUpd w w9 q hs (fun _ => False) l p' n') ∧ Grow w w9) := fun e => by
      refine ⟨_, _, _, cells1 H1, store_i H3 rfl rfl fun w8 h8 m8 => ⟨_, _, _, cells1 h8, ?_⟩⟩
      have G8 : Grow w w8 := G6.then m8 fun j hj e => by omega
      exact ⟨⟨_, _, _, rfl, RUpd.no (h.grow G8) rfl⟩, G8⟩
  refine ⟨_, rfl, cnd_i (fun t => ?_) (fun t => ?_)⟩ <;> simp only [decide_eq_true_eq, decide_eq_false_iff_not] at t
  · rcases hi with ⟨i, hi, rfl⟩ | ⟨rfl, hi⟩
    · omega
    · rw [idx_none hi]
      exact no 4
  · rcases hi with ⟨i, hi, rfl⟩ | ⟨rfl, hi⟩
    · rw [idx_some hi]
      have hhn := h.n
      have hr6 := h.grow G6
      have hw6 := off_end hi.1
      have hv6 := (hr6.r i hi.1).2.1
      have hn6 := (hr6.r i hi.1).1
      have bad : ¬(0 ≤ u ∧ 0 ≤ v ∧ u < ((l.getD i ([], true)).1.length : Int) ∧ v < ((l.getD i ([], true)).1.length : Int)) → (match some i with | some i => if 0 ≤ u ∧ 0 ≤ v ∧ u < ((l.getD i ([], true)).1.length : Int) ∧ v < ((l.getD i ([], true)).1.length : Int) then (l.set i (swp (l.getD i ([], true)).1 u v, false), (0 : Int)) else (l, 1) | none => (l, 4)) = (l, 1) := fun hn => by
        simp only [if_neg hn]
      refine cnd_i (fun t1 => ?_) (fun t1 => cnd_i (fun t2 => ?_) (fun t2 => ⟨_, _, _, cell_add H1 rfl, hr6.ix rfl hi.1 fun a18 x0 x1 => ⟨_, _, _, x0, cnd_i (fun t3 => ?_) (fun t3 => ⟨_, _, _, cell_add H1 rfl, hr6.ix rfl hi.1 fun a24 y0 y1 => ⟨_, _, _, y0, cnd_i (fun t4 => ?_) (fun t4 => ?_)⟩⟩)⟩⟩)) <;> simp only [decide_eq_true_eq, decide_eq_false_iff_not, ge_iff_le] at *
      · rw [bad (by omega)]; exact no 1
      · rw [bad (by omega)]; exact no 1
      · rw [bad (by omega)]; exact no 1
      · rw [bad (by omega)]; exact no 1
      · simp only [if_pos (show 0 ≤ u ∧ 0 ≤ v ∧ u < ((l.getD i ([], true)).1.length : Int) ∧ v < ((l.getD i ([], true)).1.length : Int) by omega)]
        intro n29 w30 h30
        have G30 := G6.trans h30.mod
        have hr30 := h.grow G30
        have H1 := H1.grow h30.mod
        have H3 := H3.grow h30.mod
        have e30 := h30.num
        have z30 := New.size h30
        have o30 : OwI ty_int w30 (some ⟨n29, 0, none⟩) 0 [] := Ow.of_some h30.at (Nat.le_refl _) (Nat.zero_le _) rfl rfl
        refine ⟨_, _, _, cell_add H1 rfl, hr30.ix rfl hi.1 fun a32 x0 x1 => ⟨_, _, _, x0, ?_⟩⟩
        refine o30.appV sl_int (hr30.r i hi.1).2.1 rfl (hr30.r i hi.1).1 oneInt (by simp only [List.length_nil]; omega) fun w34 p34 c34 o34 m34 hp34 z34 => ?_
        rw [List.nil_append] at o34 ⊢
        have fr34 : ∀ j, blk p34 = some j → w6.heap.size ≤ j := fun j hj => by
          rcases hp34 with rfl | rfl
          · have := blk_some hj; omega
          · have := blk_some hj; omega
        have g34 : Grow w6 w34 := h30.mod.then m34 fun j hj e => by have := blk_some e; omega
        have g34' : Grow w30 w34 ∨ True := .inr trivial
        have H1' := (h2.has.old h4).grow (g6.trans g34)
        have hr34 := h.grow (G6.trans g34)
        refine ⟨_, _, _, cell_add H1' rfl, hr34.ix rfl hi.1 fun a37 x0 x1 => ⟨_, _, _, x0, (hr34.r i hi.1).2.1.ix 0 (by omega) (hr34.r i hi.1).1 (by have := (hr34.r i hi.1).1; omega) fun a39 e39 => ⟨_, e39, ?_⟩⟩⟩
        refine o34.st ((l.getD i ([], true)).1.getD v.toNat 0) rfl rfl (by omega) rfl (by omega) fun w42 o42 m42 => ?_
        have g42 : Grow w6 w42 := g34.then m42 fun j hj e => by have := fr34 j e; omega
        have H1' := (h2.has.old h4).grow (g6.trans g42)
        have hr42 := h.grow (G6.trans g42)
        refine ⟨_, _, _, cell_add H1' rfl, hr42.ix rfl hi.1 fun a37 x0 x1 => ⟨_, _, _, x0, (hr42.r i hi.1).2.1.ix 0 (by omega) (hr42.r i hi.1).1 (by have := (hr42.r i hi.1).1; omega) fun a39 e39 => ⟨_, e39, ?_⟩⟩⟩
        refine o42.st ((l.getD i ([], true)).1.getD u.toNat 0) rfl rfl (by omega) (by simp) (by omega) fun w49 o49 m49 => ?_
        have g49 : Grow w6 w49 := g42.then m49 fun j hj e => by have := fr34 j e; omega
        refine on_newE fun nE w12 E eE m12 => ?_
        have g12 := g49.trans m12
        have G12 := G6.trans g12
        refine ⟨_, _, _, cell_add ((h2.has.old h4).grow (g6.trans g12)) rfl, ?_⟩
        refine Row.app (news := hs) hvE sl_item E (h.grow G12).v rfl (by omega) (by simp; omega) fun w14 p14 c14 R14 m14 hp14 z14 => ?_
        rw [List.nil_append] at R14 ⊢
        have z49 := g49.size
        have z12 := m12.size
        have fr14 : ∀ j, blk p14 = some j → w49.heap.size ≤ j := fun j hj => by
          rcases hp14 with rfl | rfl
          · have := blk_some hj; omega
          · have := blk_some hj; omega
        have g14 : Grow w49 w14 := m12.then m14 fun j hj e => by have := blk_some e; omega
        refine Row.stF hvE R14 (o := 0) (i := (i : Int)) hd0 ((⟨p34, (l.getD i ([], true)).1.length, c34⟩ : Sl), (hs.getD i hd0).2) (by rw [Int.toNat_natCast]; rfl) (by omega) rfl (by omega) rfl (by have := hi.1; omega) fun w17 R17 m17 => ?_
        rw [Int.toNat_natCast] at R17
        have g17 : Grow w49 w17 := g14.then m17 fun j hj e => by have := fr14 j e; omega
        have g17' := g49.trans g17
        refine store_i (h4.has.grow (g6.trans g17')) rfl rfl fun w18 h18 m18 => ⟨_, _, _, cells1 h18, ?_⟩
        have G18 : Grow w w18 := (G6.trans g17').then m18 fun j hj e => by omega
        have hr := h.grow G18
        have o18 := (o49.grow g17).keep m18 (fun j hj e => by have := fr34 j hj; omega)
        have hb := (h.r i hi.1).2.2
        rw [hi.2.2] at hb
        refine ⟨⟨_, _, _, rfl, hs.set i ((⟨p34, (l.getD i ([], true)).1.length, c34⟩ : Sl), (hs.getD i hd0).2), hr.set hi.1 (R17.keep m18 fun j hj e => by have := fr14 j hj; omega) (z := (swp (l.getD i ([], true)).1 u v, false)) o18.vw (swp_len _ _ _).symm hb, by simp [hhn], ?_⟩, G18⟩
        rintro j (⟨_, hj⟩ | ⟨hd, hmem, hpos, hj⟩)
        · have := fr14 j hj
          have := G6.size
          exact .inr (.inr (by omega))
        · rcases List.mem_or_eq_of_mem_set hmem with hmem | rfl
          · exact .inl (.inr ⟨hd, hmem, hpos, hj⟩)
          · have := fr34 j hj
            have := G6.size
            exact .inr (.inr (by omega))
    · omega
end Go.Proofs.Ytamckcamloelbaa.W
