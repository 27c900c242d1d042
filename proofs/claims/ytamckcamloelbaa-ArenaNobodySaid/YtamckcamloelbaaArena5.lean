/- Layer 2: an arena in memory; places, and packing. -/
import Derived.Test.YtamckcamloelbaaArena4
import Derived.Test.YtamckcamloelbaaFwRows
import Derived.Test.YtamckcamloelbaaArenaPure2
namespace Go.Proofs.Ytamckcamloelbaa.W
open Go Go.Fw Go.RowKit Go.ArP

theorem places_ok {w : World} {b : Nat} {x : AS} (h : ARep w b x) (hw : (wds x.l).length ≤ 4194304) :
    Calls Try.prog arena_Arena_Places.id #[ptr b] w fun e w' => (∃ p c, e = .returned (.slice p (plc x.l 0).length c) ∧ OwI ty_int w' p c (plc x.l 0) ∧ ∀ k, blk p = some k → w.heap.size ≤ k) ∧ Grow w w' := by
  refine arena_Arena_Places.calls ?_
  refine cnd_f rfl ?_
  refine ⟨fun p n c i w' k => ∃ t : Nat, n = (plc (x.l.take t) 0).length ∧ i = off x.l t ∧ t ≤ x.l.length ∧ OwI ty_int w' p c (plc (x.l.take t) 0) ∧ (∀ j, blk p = some j → w.heap.size ≤ j) ∧ Grow w w' ∧ k + t = x.l.length, ⟨x.l.length, 0, rfl, by rw [off_zero]; rfl, Nat.zero_le _, Ow.nil _ _ _, by simp [blk], Mod.refl w, rfl⟩, ?_⟩
  rintro p n c i w6 k _ ⟨t, rfl, rfl, ht, o, fr, g, hk⟩
  have h6 := h.grow g
  have hofl : off x.l t ≤ (wds x.l).length := by rw [← off_len]; exact off_mono ht (Nat.le_refl _)
  refine ⟨_, rfl, _, _, _, cell_add h6.me rfl, cnd_i (fun q => ?_) (fun q => ?_)⟩ <;> simp only [decide_eq_true_eq, decide_eq_false_iff_not] at q
  · have ht' : t < x.l.length := by
      rcases Nat.lt_or_ge t x.l.length with c | c
      · exact c
      · have : t = x.l.length := by omega
        rw [this, off_len] at q; omega
    have he := off_end ht'
    have e1 : IntKind.i64.wrap ((off x.l t : Int) + 1) = ((off x.l t + 1 : Nat) : Int) := by rw [wrap64_of (by omega) (by omega)]; omega
    have w0 := word0 ht'
    have w1 := word1 ht'
    rw [e1]
    refine ⟨_, rfl, _, _, _, cell_add h6.me rfl, h6.o.ix 0 (by omega) rfl (by omega) fun a11 e11 => ⟨_, e11, ?_⟩⟩
    rw [Int.toNat_natCast, w1]
    have e2 : IntKind.i64.wrap ((off x.l t : Int) + IntKind.i64.wrap (2 + ((x.l.getD t ([], true)).1.length : Int))) = (off x.l (t + 1) : Int) := by
      rw [wrap64_of (x := 2 + ((x.l.getD t ([], true)).1.length : Int)) (by omega) (by omega), wrap64_of (by omega) (by omega), off_next ht']
      omega
    refine cnd_i (fun q2 => ?_) (fun q2 => ?_) <;> simp only [beq_iff_eq, beq_eq_false_iff_ne] at q2
    · have hl : (x.l.getD t ([], true)).2 = false := by
        cases hh : (x.l.getD t ([], true)).2
        · rfl
        · rw [hh] at q2; simp at q2
      intro n13 w14 h14
      have hpl : (plc (x.l.take t) 0).length ≤ t := by rw [plc_len]; exact Nat.le_trans (List.length_filter_le _ _) (by simp; omega)
      have hle := len_le x.l
      refine (o.grow h14.mod).app1 sl_int ((off x.l t : Int)) h14.has rfl rfl oneInt (by omega) fun w15 p15 c15 o15 m15 hp z => ?_
      have g15 : Grow w w15 := (g.trans h14.mod).then m15 fun j hj e => by have := fr j e; omega
      have h15 := h.grow g15
      refine ⟨_, rfl, _, _, _, cell_add h15.me rfl, h15.o.ix 0 (by omega) rfl (by omega) fun a19 e19 => ⟨_, e19, ?_⟩⟩
      rw [Int.toNat_natCast, w0, e2]
      refine ⟨k - 1, by omega, t + 1, ?_, rfl, ht', ?_, fun j hj => ?_, g15, by omega⟩
      · rw [plc_take ht', hl]; simp
      · rw [plc_take ht', hl]; exact o15
      · rcases hp with rfl | rfl
        · exact fr j hj
        · simp [blk] at hj
          have := g.size
          have := h14.mod.size
          omega
    · have hl : (x.l.getD t ([], true)).2 = true := by
        cases hh : (x.l.getD t ([], true)).2
        · rw [hh] at q2; simp at q2
        · rfl
      refine ⟨_, rfl, _, _, _, cell_add h6.me rfl, h6.o.ix 0 (by omega) rfl (by omega) fun a19 e19 => ⟨_, e19, ?_⟩⟩
      rw [Int.toNat_natCast, w0, e2]
      refine ⟨k - 1, by omega, t + 1, ?_, rfl, ht', ?_, fr, g, by omega⟩
      · rw [plc_take ht', hl]; simp
      · rw [plc_take ht', hl]; simpa using o
  · have : t = x.l.length := by
      rcases Nat.lt_or_ge t x.l.length with c | c
      · have := off_end c; omega
      · omega
    subst this
    rw [List.take_length] at o ⊢
    exact ⟨⟨p, c, rfl, o, fr⟩, g⟩

abbrev mvV (x : Int × Int) : List Value := [.int .i64 x.1, .int .i64 x.2]
theorem mvE : Enc 2 mvV := ⟨fun _ => rfl, by decide, fun x v hv => by simp [mvV] at hv; rcases hv with rfl | rfl <;> rfl⟩
theorem sl_mv : slOkN Try.prog ty_sl_api_Move ty_api_Move 2 16 = true := by kernel_rfl

theorem Vr.one {α : Type} {sz : Nat} {f : α → List Value} {w : World} {b : Nat} {x : α} (h : Has w b (f x).toArray) : Vr sz f w (some ⟨b, 0, none⟩) [x] := by
  intro j hj
  have : j = 0 := by simpa using hj
  subst this
  refine ⟨_, rfl, ?_⟩
  rw [Nat.zero_mul, add_at]
  exact cells_at h fun j v hv => by simpa using hv

theorem CellsAt.h0 {w : World} {a : Addr} {u v : Value} (h : CellsAt w a 0 [u, v]) : w.cell? (a.add 0) = some u := h.1
theorem CellsAt.h1 {w : World} {a : Addr} {u v : Value} (h : CellsAt w a 0 [u, v]) : w.cell? (a.add 1) = some v := h.2.1

theorem pack_ok {w : World} {b : Nat} {x : AS} (h : ARep w b x) (hw : (wds x.l).length ≤ 4194304) :
    Calls Try.prog arena_Arena_Pack.id #[ptr b] w fun e w' => (∃ p c, e = .returned (.slice p (mvs x.l).length c) ∧ Row 2 mvV ty_api_Move w' p c (mvs x.l) ∧ ∀ k, blk p = some k → w.heap.size ≤ k) ∧ Upd w w' b x (liv x.l) := by
  refine arena_Arena_Pack.calls ?_
  refine (places_ok h hw).mono ?_
  rintro e w1 ⟨⟨pp, cp, rfl, oP, frP⟩, g1⟩
  have h1 := h.grow g1
  have hlt := h.lt
  have z1 := g1.size
  have hll := len_le x.l
  have hpl : (plc x.l 0).length = (liv x.l).length := plc_len x.l 0
  have hlv : (liv x.l).length ≤ x.l.length := List.length_filter_le _ _
  have hml : (mvs x.l).length = (liv x.l).length := by rw [mvs_len, hpl]
  obtain ⟨s, hs, hsa⟩ := h1.mp
  refine ⟨_, _, _, rfl, ?_⟩
  refine ⟨fun p n c to v w' k => ∃ (t tt : Nat) (W : List Int), n = ((mvs x.l).take t).length ∧ v = t ∧ to = tt ∧ t ≤ (liv x.l).length ∧ PI x.l W t tt ∧ OwI ty_int w' x.p x.c W ∧ Row 2 mvV ty_api_Move w' p c ((mvs x.l).take t) ∧ (∀ j, blk p = some j → w1.heap.size ≤ j) ∧ Mod (fun k => blk x.p = some k) w1 w' ∧ k + t = (liv x.l).length,
    ⟨(liv x.l).length, 0, 0, wds x.l, rfl, rfl, rfl, Nat.zero_le _, PI.init _, h1.o, Row.nil _ _ _ _, by simp [blk], Mod.refl _, rfl⟩, ?_⟩
  rintro p n c to v w9 k _ ⟨t, tt, W, rfl, rfl, rfl, ht, pi, o, R, fr, G, hk⟩
  have hx9 := h1.me.keep G (fun e => h.bp e)
  have hxp : ∀ j, blk x.p = some j → j < w.heap.size := fun j hj => hlt j (.inr (.inl hj))
  have oP9 := oP.keep G (fun j hj e => by have := frP j hj; have := hxp j e; omega)
  have hWl := pi.len
  refine cnd_i (fun q => ?_) (fun q => ?_) <;> simp only [decide_eq_true_eq, decide_eq_false_iff_not] at q
  · have ht' : t < (liv x.l).length := by omega
    obtain ⟨j, j1, j2, j3, j4, _, j5, j6, j7, j8, pi'⟩ := pi.step ht'
    have hcp : W.length ≤ x.c := by
      rcases o.un with ⟨_, _, e⟩ | ⟨_, _, _, _, h1, _⟩
      · rw [e]; exact Nat.zero_le _
      · exact h1
    refine oP9.ix 0 (by omega) rfl q fun a10 e10 => ⟨_, e10, ?_⟩
    rw [Int.toNat_natCast, j3]
    refine ⟨_, rfl, _, _, _, cell_add hx9 rfl, o.ix 0 (by omega) pi.len.symm (by omega) fun a14 e14 => ⟨_, e14, ?_⟩⟩
    rw [Int.toNat_natCast, j7]
    intro n16 w17 h17
    have e1 : IntKind.i64.wrap (2 + ((x.l.getD j ([], true)).1.length : Int)) = (((x.l.getD j ([], true)).1.length + 2 : Nat) : Int) := by rw [wrap64_of (by omega) (by omega)]; omega
    have e2 : IntKind.i64.wrap ((tt : Int) + (((x.l.getD j ([], true)).1.length + 2 : Nat) : Int)) = ((tt + ((x.l.getD j ([], true)).1.length + 2) : Nat) : Int) := by rw [wrap64_of (by omega) (by omega)]; omega
    have e3 : IntKind.i64.wrap ((off x.l j : Int) + (((x.l.getD j ([], true)).1.length + 2 : Nat) : Int)) = ((off x.l j + ((x.l.getD j ([], true)).1.length + 2) : Nat) : Int) := by rw [wrap64_of (by omega) (by omega)]; omega
    rw [e1, e2, e3]
    have hmt : ((mvs x.l).take t).length = t := by simp [hml]; omega
    have R17 := R.grow h17.mod
    refine Row.app mvE sl_mv R17 (Vr.one (x := ((off x.l j : Int), (tt : Int))) h17.has) rfl rfl (by simp; omega) fun w18 p18 c18 R18 m18 hp18 z18 => ?_
    have G18 : Mod (fun k => blk x.p = some k) w1 w18 := (G.grow h17.mod).then m18 fun i hi e => by have := fr i e; omega
    have fr18 : ∀ j, blk p18 = some j → w1.heap.size ≤ j := fun j hj => by
      rcases hp18 with rfl | rfl
      · exact fr j hj
      · simp [blk] at hj
        have := G.size
        have := h17.mod.size
        omega
    have o18 := (o.grow h17.mod).keep m18 fun i hi e => by have := fr i e; have := hxp i hi; omega
    have hx18 := h1.me.keep G18 (fun e => h.bp e)
    refine ⟨_, rfl, _, _, _, cell_add hx18 rfl, slK_i tt (tt + ((x.l.getD j ([], true)).1.length + 2)) x.c rfl rfl rfl (Nat.le_refl _) (by omega) (by omega) ?_⟩
    refine ⟨_, rfl, _, _, _, cell_add hx18 rfl, slK_i (off x.l j) (off x.l j + ((x.l.getD j ([], true)).1.length + 2)) x.c rfl rfl rfl (Nat.le_refl _) (by omega) (by omega) ?_⟩
    rw [if_neg (by omega), if_neg (by omega), Nat.add_sub_cancel_left, Nat.add_sub_cancel_left]
    have vw := o18.vw.part (i := off x.l j) (m := (x.l.getD j ([], true)).1.length + 2) j6
    rw [j8] at vw
    have := o18.drew.copy (w := w18.drew) (t := 49) (ty := 3) (o := tt) (m := (x.l.getD j ([], true)).1.length + 2) (d := x.c - tt) (k := x.c - off x.l j) sl_int vw.drew (by rw [ws_len]) (by omega) oneInt (K := fun w26 => OwI ty_int w26 x.p x.c (W.take tt ++ ws (x.l.getD j ([], true)) ++ W.drop (tt + ((x.l.getD j ([], true)).1.length + 2))) ∧ Mod (fun k => blk x.p = some k) w18 w26) (fun w' o' m' hz => ⟨o', (Mod.refl w18).drew.trans m'⟩)
    obtain ⟨w26, r, hrun, o26, m26⟩ := this
    refine ⟨w26, r, hrun, k - 1, by omega, t + 1, _, _, ?_, ?_, rfl, ht', pi', o26, ?_, fr18, G18.trans m26, by omega⟩
    · rw [mvs_take ht' j3 j4]
    · rw [wrap64_of (by omega) (by omega)]; omega
    · rw [mvs_take ht' j3 j4]
      exact R18.keep m26 fun i hi e => by have := fr18 i hi; have := hxp i e; omega
  · have et : t = (liv x.l).length := by omega
    subst et
    have hcp : W.length ≤ x.c := by
      rcases o.un with ⟨_, _, e⟩ | ⟨_, _, _, _, h1, _⟩
      · rw [e]; exact Nat.zero_le _
      · exact h1
    have htl := pi.tl
    rw [List.take_length] at htl
    have hwl := wds_liv_le x.l
    have em : (mvs x.l).take (liv x.l).length = mvs x.l := List.take_of_length_le (by omega)
    rw [em] at R ⊢
    refine cnd_f rfl ⟨_, rfl, _, _, _, cell_add hx9 rfl, slK_i 0 tt x.c rfl rfl rfl (Nat.le_refl _) (by omega) (Nat.zero_le _) ?_⟩
    intro n31 w32 h32
    have ep : (if x.c = 0 then x.p else x.p.map (·.add (0 * 1))) = x.p := by
      split
      · rfl
      · cases x.p <;> simp [Addr.add]
    rw [ep, Nat.sub_zero, Nat.sub_zero]
    have hn31 := h32.num
    have zG := G.size
    have ob := o.take (k := tt) (by omega)
    rw [pi.done] at ob
    have hx32 := hx9.old h32
    refine ⟨_, rfl, store_f hx32 rfl rfl fun w34 h34 m34 => ⟨_, rfl, store_f h34 rfl rfl fun w36 h36 m36 => ⟨_, rfl, store_f h36 rfl rfl fun w38 h38 m38 => ?_⟩⟩⟩
    have hbn : b < w1.heap.size := h1.lt b (.inl rfl)
    have M3 : Mod (· = b) w32 w38 := (m34.trans m36).trans m38
    have hb0 : b < w.heap.size := hlt b (.inl rfl)
    have R38 := (R.grow h32.mod).keep M3 (fun i hi e => by have := fr i hi; omega)
    have o38 := (ob.grow h32.mod).keep M3 (fun i hi e => h.bp (by rw [hi, e]))
    have s38 := (MB.new (P := Try.prog) (k := ty_int) (e := ty_bool) h32).keep M3 (by omega)
    refine ⟨fun v w' k => ∃ t : Nat, v = t ∧ t ≤ (liv x.l).length ∧ (∃ s, MB Try.prog ty_int ty_bool w' n31 t s ∧ ∀ a, s a = true ↔ ∃ i, i < t ∧ (plc (liv x.l) 0).getD i 0 = a) ∧ Mod (· = n31) w38 w' ∧ k + t = (liv x.l).length, ⟨_, 0, rfl, Nat.zero_le _, ⟨_, s38, by simp⟩, Mod.refl _, rfl⟩, ?_⟩
    rintro v w43 k _ ⟨t, rfl, ht, ⟨s, hs43, hsa43⟩, G43, hk43⟩
    have n38 : n31 < w38.heap.size := s38.lt
    have R43 := R38.keep G43 (fun i hi e => by have := R.lt i hi; omega)
    have h43 := h38.keep G43 (show b ≠ n31 by omega)
    refine cnd_i (fun q => ?_) (fun q => ?_) <;> simp only [decide_eq_true_eq, decide_eq_false_iff_not] at q
    · have ht' : t < (liv x.l).length := by omega
      refine (R43.vr mvE).ix (0, 0) (by omega) rfl q fun a44 e44 => ⟨_, _, e44, ?_⟩
      rw [Int.toNat_natCast]
      intro n47 w48 h48
      have hn47 := h48.num
      have z43 := G43.size
      refine store_i h48.has rfl rfl fun w49 h49 m49 => ?_
      have g49 : Grow w43 w49 := h48.mod.fresh m49 (by omega)
      have hs49 := (hs43.grow g49)
      refine ⟨_, rfl, _, cell_add (h43.grow g49).drew rfl, _, cell_add h49.drew rfl, ?_⟩
      have em2 : ((mvs x.l).getD t (0, 0)).2 = (plc (liv x.l) 0).getD t 0 := mvs_snd x.l t
      have em3 := plc_liv x.l ht'
      have em4 : off (liv x.l) t ≤ (wds x.l).length := Nat.le_trans (by rw [← off_len]; exact off_mono (Nat.le_of_lt ht') (Nat.le_refl _)) hwl
      have hs49' : MB Try.prog ty_int ty_bool w49.drew n31 t s := hs49.grow (Mod.refl w49).drew
      obtain ⟨w53, hr53, s53, m53⟩ := hs49'.put map_ib (by unfold maxLen; omega) (a := (plc (liv x.l) 0).getD t 0) (wf64 (by omega) (by omega)) true
      rw [em2]
      refine ⟨w53, hr53, k - 1, by omega, t + 1, ?_, ht', ⟨_, s53, fun a => ?_⟩, (G43.grow g49.drew).trans m53, by omega⟩
      · rw [wrap64_of (by omega) (by omega)]; omega
      · by_cases e : a = (plc (liv x.l) 0).getD t 0
        · rw [if_pos e]
          exact ⟨fun _ => ⟨t, by omega, e.symm⟩, fun _ => rfl⟩
        · rw [if_neg e, hsa43]
          constructor
          · rintro ⟨i, hi, he⟩; exact ⟨i, by omega, he⟩
          · rintro ⟨i, hi, he⟩
            refine ⟨i, ?_, he⟩
            rcases Nat.lt_or_ge i t with c | c
            · exact c
            · have : i = t := by omega
              subst this
              exact absurd he.symm e
    · have et : t = (liv x.l).length := by omega
      subst et
      have z38 := G43.size
      have o43 := o38.keep G43 (fun i hi e => by have := hxp i hi; omega)
      refine ⟨⟨p, c, rfl, R43, fun i hi => by have := fr i hi; omega⟩, ⟨x.p, x.c, n31, (liv x.l).length, liv x.l⟩, ⟨?_, o43, ⟨s, hs43, fun a => ?_⟩, h.bp, (by omega : n31 ≠ b), (fun e => by have := hxp n31 e; omega), Nat.le_refl _⟩, rfl, ?_, ?_⟩
      · show Has w43 b #[.bool true, .slice x.p (wds (liv x.l)).length x.c, .map (some n31), .int .i64 ((plc (liv x.l) 0).length : Int), .int .i64 (wst (liv x.l) : Int)]
        rw [plc_liv_len, wst_liv, ← htl]
        exact h43
      · rw [hsa43]
        constructor
        · rintro ⟨i, hi, he⟩
          exact ⟨i, hi, by rw [← he, plc_liv x.l hi], liv_getD x.l hi⟩
        · rintro ⟨i, hi, he, _⟩
          exact ⟨i, hi, by rw [plc_liv x.l hi]; exact he⟩
      · rintro i (rfl | hi | hi)
        · exact .inl (.inl rfl)
        · exact .inl (.inr (.inl hi))
        · have : i = n31 := hi
          exact .inr (by omega)
      · have A : Mod (x.foot b) w w32 := ((g1.mono fun _ _ => False.elim).then G fun i _ e => .inr (.inl e)).grow h32.mod
        exact (A.trans (M3.mono fun i _ e => .inl e)).then G43 fun i hi e => by omega
end Go.Proofs.Ytamckcamloelbaa.W
