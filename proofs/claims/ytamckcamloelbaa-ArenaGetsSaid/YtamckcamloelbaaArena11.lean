/- Layer 2: is an arena as it must be; the laws. -/
import Derived.Test.YtamckcamloelbaaArena10
namespace Go.Proofs.Ytamckcamloelbaa.W
open Go Go.Fw Go.RowKit Go.ArP

theorem awake_ok {w0 w : World} (G0 : Grow w0 w) : Calls Try.prog fathomlaw02_awake.id #[] w fun e w' => e = .returned (.bool true) ∧ Grow w0 w' := by
  refine fathomlaw02_awake.calls ?_
  refine (New_ok w).mono ?_
  rintro e w1 ⟨⟨b, x, rfl, hx, hxl, fx⟩, g1⟩
  refine ⟨_, rfl, ?_⟩
  intro n3 w4 h4
  have hlt := hx.lt
  have s4 := h4.num
  have z4 := New.size h4
  have V1 : OwI ty_int w4 (some ⟨n3, 0, none⟩) 2 [1, 2] := Ow.of_some h4.at (Nat.le_refl _) (by unfold maxLen; omega) rfl rfl
  have hx4 := hx.grow h4.mod
  refine (add_ok hx4 V1.vw rfl (by decide) (by rw [hxl]; decide) (fun _ j hj e => by have := blk_some hj; have := hlt j e; omega)).mono ?_
  rintro e w5 ⟨rfl, x2, hx2, hx2l, f2, m2⟩
  have a1 : addP x.l [1, 2] = ([([1, 2], false)], 0, 0) := by rw [hxl]; rfl
  rw [a1] at hx2l ⊢
  refine ⟨_, _, rfl, ?_⟩
  intro n8 w9 h9
  have hlt2 := hx2.lt
  have s9 := h9.num
  have z9 := New.size h9
  have V2 : OwI ty_int w9 (some ⟨n8, 0, none⟩) 1 [3] := Ow.of_some h9.at (Nat.le_refl _) (by unfold maxLen; omega) rfl rfl
  refine (add_ok (hx2.grow h9.mod) V2.vw rfl (by decide) (by rw [hx2l]; decide) (fun _ j hj e => by have := blk_some hj; have := hlt2 j e; omega)).mono ?_
  rintro e w10 ⟨rfl, x3, hx3, hx3l, f3, m3⟩
  have a2 : addP x2.l [3] = ([([1, 2], false), ([3], false)], 4, 0) := by rw [hx2l]; rfl
  rw [a2] at hx3l ⊢
  refine ⟨_, _, rfl, cnd_t rfl (cnd_t rfl (cnd_t rfl (cnd_t rfl ((words_ok hx3).mono ?_))))⟩
  rintro e w13 ⟨rfl, g13⟩
  refine ⟨_, rfl, ?_, ?_⟩
  · rw [hx3l]; rfl
  · have z1 := g1.size
    have G4 := G0.trans (g1.trans h4.mod)
    have z0 := G0.size
    have G5 : Grow w0 w5 := G4.then m2 fun j hj e => by have := fx j e; omega
    have G9 := G5.trans h9.mod
    have z5 := G5.size
    exact (G9.then m3 fun j hj e => by
      rcases f2 j e with e | e
      · have := fx j e; omega
      · have := G4.size; omega).trans g13

theorem live_place {l : List It} {t : Nat} (h : t < (plc l 0).length) : ∃ j, At l ((plc l 0).getD t 0) j := by
  obtain ⟨j, h1, h2, _, h4, _⟩ := live_at l 0 t (by rw [← plc_len l 0]; exact h)
  exact ⟨j, h1, by rw [h4, Nat.zero_add], h2⟩

theorem get_at {w : World} {b : Nat} {x : AS} (h : ARep w b x) (hw : (wds x.l).length ≤ 4194304) {a : Int} {i : Nat} (ha : At x.l a i) :
    Calls Try.prog arena_Arena_Get.id #[ptr b, .int .i64 a] w fun e w' => (∃ p c, e = .returned (.tuple #[.slice p (x.it i).1.length c, .bool true]) ∧ OwI ty_int w' p c (x.it i).1 ∧ ∀ k, blk p = some k → w.heap.size ≤ k) ∧ Grow w w' := by
  have hb := ha.bd
  refine (get_ok h hw (a := a) (wf64 (by omega) (by omega))).mono ?_
  rintro e w' ⟨⟨j, hj, k⟩ | ⟨no, _⟩, g⟩
  · rw [ha.one hj]; exact ⟨k, g⟩
  · exact absurd ha (no i)
theorem refGet_at {w : World} {q : Option Addr} {hs : List Hd} {l : List It} {n c : Nat} (h : RR w q hs l) (hn : n = l.length) (hw : (wds l).length ≤ 4194304) {a : Int} {i : Nat} (ha : At l a i) :
    Calls Try.prog fathomref02_Get.id #[.agg #[.slice q n c], .int .i64 a] w fun e w' => (∃ p c, e = .returned (.tuple #[.slice p (l.getD i ([], true)).1.length c, .bool true]) ∧ Vw (Value.int .i64) w' p (l.getD i ([], true)).1) ∧ Grow w w' := by
  refine (refGet_ok h hn hw a).mono ?_
  rintro e w' ⟨⟨j, hj, k⟩ | ⟨no, _⟩, g⟩
  · rw [ha.one hj]; exact ⟨k, g⟩
  · exact absurd ha (no i)

theorem it_len {l : List It} {i : Nat} (h : i < l.length) : (l.getD i ([], true)).1.length ≤ (wds l).length := by have := off_end h; omega

set_option maxHeartbeats 1000000 in
theorem like_ok {w0 w : World} {b : Nat} {x : AS} {q : Option Addr} {hs : List Hd} {n c : Nat} (G0 : Grow w0 w) (h : ARep w b x) (hr : RR w q hs x.l) (hn : n = x.l.length) (hw : (wds x.l).length ≤ 4000000) : Calls Try.prog fathomlaw02_like.id #[ptr b, .agg #[.slice q n c]] w fun e w' => e = .returned (.bool true) ∧ Grow w0 w' := by
  subst hn
  refine fathomlaw02_like.calls ?_
  unfold fathomlaw02_like.w
  simp only [and_self]
  intro n1 w2 h2
  replace h := h.grow h2.mod
  replace hr := hr.grow h2.mod
  have H := h2.has
  refine ⟨_, _, _, cells1 H, (refPlaces_ok hr rfl (by omega)).mono ?_⟩
  rintro e w4 ⟨⟨pp, cp, rfl, OP, frP⟩, g4⟩
  have G : Grow w0 w4.drew := ((G0.trans h2.mod).trans g4).drew
  replace h := (h.grow g4).drew
  replace hr := (hr.grow g4).drew
  replace H := (H.grow g4).drew
  replace OP := OP.drew
  refine ⟨_, _, _, rfl, fun w' => Grow w4.drew w', ?_, ?_⟩
  · refine (places_ok h (by omega)).mono ?_
    rintro e w7 ⟨⟨p8, c8, rfl, O8, fr8⟩, g7⟩
    have hpl : (plc x.l 0).length ≤ x.l.length := by rw [plc_len]; exact List.length_filter_le _ _
    have hll := len_le x.l
    refine ⟨_, _, _, rfl, (refInts_ok O8.vw (OP.grow g7).vw rfl rfl (by unfold maxLen; omega)).mono ?_⟩
    rintro e w9 ⟨rfl, g9⟩
    have gg : Grow w4.drew w9 := g7.trans g9
    refine ⟨_, rfl, cnd_f (by simp) ?_⟩
    generalize w4.drew = wb at *
    repeat' first
      | assumption
      | apply And.intro
      | (refine (count_ok (h.grow (by assumption))).mono ?_
         rintro e w' ⟨rfl, g⟩
         have gg : Grow wb w' := Mod.trans (by assumption) g
         refine ⟨_, rfl, ?_⟩)
      | (refine (words_ok (h.grow (by assumption))).mono ?_
         rintro e w' ⟨rfl, g⟩
         have gg : Grow wb w' := Mod.trans (by assumption) g
         refine ⟨_, rfl, ?_⟩)
      | (refine (waste_ok (h.grow (by assumption))).mono ?_
         rintro e w' ⟨rfl, g⟩
         have gg : Grow wb w' := Mod.trans (by assumption) g
         refine ⟨_, rfl, ?_⟩)
      | (refine (refWords_ok (hr.grow (by assumption)) rfl (by omega)).mono ?_
         rintro e w' ⟨rfl, g⟩
         have gg : Grow wb w' := Mod.trans (by assumption) g
         refine ⟨_, rfl, ?_⟩)
      | (refine (refWaste_ok (hr.grow (by assumption)) rfl (by omega)).mono ?_
         rintro e w' ⟨rfl, g⟩
         have gg : Grow wb w' := Mod.trans (by assumption) g
         refine ⟨_, rfl, ?_⟩)
      | refine ⟨_, _, _, cells1 (H.grow (by assumption)), ?_⟩
      | refine cnd_f (by simp) ?_
  · intro w75 _ g75
    refine ⟨fun i w' k => ∃ t : Nat, i = t ∧ t ≤ (plc x.l 0).length ∧ Grow w4.drew w' ∧ k + t = (plc x.l 0).length, ⟨_, 0, rfl, Nat.zero_le _, g75, rfl⟩, ?_⟩
    rintro i w80 k _ ⟨t, rfl, ht, g80, hk⟩
    have hpl : (plc x.l 0).length ≤ x.l.length := by rw [plc_len]; exact List.length_filter_le _ _
    have hll := len_le x.l
    refine cnd_i (fun qq => ?_) (fun qq => ⟨trivial, G.trans g80⟩) <;> simp only [decide_eq_true_eq] at qq
    obtain ⟨j, hj⟩ := live_place (l := x.l) (t := t) (by omega)
    refine (OP.grow g80).ix 0 (by omega) rfl qq fun a81 e81 => ⟨_, e81, ?_⟩
    rw [Int.toNat_natCast] at e81 ⊢
    refine (get_at (h.grow g80) (by omega) hj).mono ?_
    rintro e w83 ⟨⟨p, cc, rfl, O, fr⟩, g83⟩
    have g83' : Grow w80 w83.drew := g83.drew
    refine ⟨_, _, _, _, rfl, _, _, _, cells1 ((H.grow g80).grow g83'), ((OP.grow g80).grow g83').ix 0 (by omega) rfl qq fun a87 e87 => ⟨_, e87, ?_⟩⟩
    rw [Int.toNat_natCast] at e87 ⊢
    refine (refGet_at ((hr.grow g80).grow g83') rfl (by omega) hj).mono ?_
    rintro e w89 ⟨⟨p2, c2, rfl, V⟩, g89⟩
    have hil := it_len hj.1
    refine ⟨_, _, _, _, rfl, cnd_f rfl ((refInts_ok (O.drew.grow g89).vw V rfl rfl (by unfold maxLen; simp only [AS.it]; omega)).mono ?_)⟩
    rintro e w92 ⟨rfl, g92⟩
    refine ⟨_, rfl, cnd_f (by simp) ⟨k - 1, by omega, t + 1, by rw [wrap64_of (by omega) (by omega)]; omega, by omega, ((g80.trans g83').trans g89).trans g92, by omega⟩⟩

theorem ArenaActs_calls {W : World} {p : Option Addr} {n c : Nat} {f : Nat → Ac} (ha : Acs W p n f) (hn : n ≤ maxLen) : Calls Try.prog fathomlaw02_ArenaActs.id #[.slice p n c] W fun e W' => e = .returned (.bool true) ∧ Grow W W' := by
  refine fathomlaw02_ArenaActs.calls ?_
  refine (light_ok ha).mono ?_
  rintro e w1 ⟨⟨r, rfl, hl⟩, g1⟩
  refine ⟨_, rfl, cnd_i (fun _ => (awake_ok g1).mono ?_) (fun t => ?_)⟩
  · rintro e w3 ⟨rfl, g3⟩
    exact ⟨_, rfl, rfl, g3⟩
  · have ha1 : Acs w1 p n f := fun i hi => by
      obtain ⟨⟨a, h1, h2⟩, h3, h4, h5, h6⟩ := ha i hi
      exact ⟨⟨a, h1, CellsAt.grow g1 h2⟩, h3, h4, h5.grow g1, h6⟩
    refine (play_ok ha1 hn (hl (by simpa using t))).mono ?_
    rintro e w5 ⟨v, rfl, b, x, q, hs, c, rfl, hx, hr, dj, hw, G⟩
    refine ⟨_, _, _, _, _, rfl, ?_⟩
    intro n9 w10 h10
    refine store_i h10.has rfl rfl fun w11 h11 m11 => ?_
    have g11 : Grow w5 w11 := h10.mod.fresh m11 (by have := h10.num; omega)
    refine cnd_t rfl (cnd_t rfl ⟨_, _, _, cells1 h11, (like_ok ((g1.trans G).trans g11) (hx.grow g11) (hr.grow g11) rfl (by omega)).mono ?_⟩)
    rintro e w13 ⟨rfl, g13⟩
    refine ⟨_, rfl, cnd_t rfl ((awake_ok g13).mono ?_)⟩
    rintro e w15 ⟨rfl, g15⟩
    exact ⟨_, rfl, rfl, g15⟩

abbrev actsSh : Sh := .sl (.cons (.int .i64) (.cons (.sl (.int .i64)) (.cons (.int .i64) (.cons (.int .i64) (.cons (.int .i64) .nil)))))
theorem ArenaActs_law (v0 : Value) (W : World) (h0 : RdV W actsSh v0) : Calls Try.prog fathomlaw02_ArenaActs.id #[v0] W fun e W' => e = .returned (.bool true) ∧ Grow W W' := by
  obtain ⟨p, n, c, f, rfl, ha, hn⟩ := Acs.of_rd h0
  exact ArenaActs_calls ha hn

theorem ArenaGets_calls {W : World} {p : Option Addr} {n c : Nat} {f : Nat → Ac} (ha : Acs W p n f) (hn : n ≤ maxLen) {a : Int} (hwf : (Lit.int .i64 a).wf = true) : Calls Try.prog fathomlaw02_ArenaGets.id #[.slice p n c, .int .i64 a] W fun e W' => e = .returned (.bool true) ∧ Grow W W' := by
  refine fathomlaw02_ArenaGets.calls ?_
  refine (light_ok ha).mono ?_
  rintro e w1 ⟨⟨r, rfl, hl⟩, g1⟩
  refine ⟨_, rfl, cnd_i (fun _ => (awake_ok g1).mono ?_) (fun t => ?_)⟩
  · rintro e w3 ⟨rfl, g3⟩
    exact ⟨_, rfl, rfl, g3⟩
  · have ha1 : Acs w1 p n f := fun i hi => by
      obtain ⟨⟨a, h1, h2⟩, h3, h4, h5, h6⟩ := ha i hi
      exact ⟨⟨a, h1, CellsAt.grow g1 h2⟩, h3, h4, h5.grow g1, h6⟩
    refine (play_ok ha1 hn (hl (by simpa using t))).mono ?_
    rintro e w5 ⟨v, rfl, b, x, q, hs, c, rfl, hx, hr, dj, hw, G⟩
    refine ⟨_, _, _, _, _, rfl, ?_⟩
    intro n9 w10 h10
    refine store_i h10.has rfl rfl fun w11 h11 m11 => ?_
    have g11 : Grow w5 w11 := h10.mod.fresh m11 (by have := h10.num; omega)
    have G11 := (g1.trans G).trans g11
    replace hx := hx.grow g11
    replace hr := hr.grow g11
    clear g11 m11 h10 G ha1 ha
    refine cnd_f rfl (cnd_f rfl ((get_ok hx (by omega) hwf).mono ?_))
    have rest : ∀ (w16 : World) (r : Option Addr) (rc : Nat) (li : List Int), li.length ≤ 4194304 → OwI ty_int w16 r rc li → (∀ k, blk r = some k → w11.heap.size ≤ k) → Grow w11 w16 → 
       (∃ I21 : Int → World → Nat → Prop, (∃ k22, I21 0 w16 k22) ∧
        ∀ (i_24 : Int) (w25 : World) (k22 : Nat) (_ : Fr), I21 i_24 w25 k22 →
        cnd (decide (i_24 < (li.length : Int)))
          (ixK r li.length i_24 1 fun a26 =>
            ∃ w27 : World, StoreAt a26 0 [.int .i64 77] w25 w27 ∧ 
            ∃ k23, k23 < k22 ∧ I21 (IntKind.i64.wrap (i_24 + (1 : Int))) w27 k23)
          (∃ x28_p : Option Addr, ∃ x28_n : Nat, ∃ x28_c : Nat, CellsAt w25 (Addr.mk n9 0 none) 0 [.slice x28_p x28_n x28_c] ∧ 
            Calls Try.prog 29 #[ptr b, .agg #[.slice x28_p x28_n x28_c]] w25 fun e w29 => ∃ r30 : Bool, e = .returned (.bool r30) ∧ 
            cnd r30
            (Calls Try.prog 27 #[] w29 fun e w31 => ∃ r32 : Bool, e = .returned (.bool r32) ∧ 
            (Ending.returned (.bool r32) = .returned (.bool true) ∧ Grow W w31))
            (Ending.returned (.bool false) = .returned (.bool true) ∧ Grow W w29))) := by
      intro w16 r rc li hli O fr g16
      refine ⟨fun i w' k => ∃ (t : Nat) (l2 : List Int), i = t ∧ t ≤ li.length ∧ l2.length = li.length ∧ OwI ty_int w' r rc l2 ∧ Grow w11 w' ∧ k + t = li.length, ⟨_, 0, li, rfl, Nat.zero_le _, rfl, O, g16, rfl⟩, ?_⟩
      rintro i w25 k _ ⟨t, l2, rfl, ht, hl2, O2, g25, hk⟩
      refine cnd_i (fun qq => ?_) (fun qq => ?_) <;> simp only [decide_eq_true_eq, decide_eq_false_iff_not] at qq
      · refine O2.st 77 rfl rfl (by omega) hl2.symm (by omega) fun w27 O3 m27 => ⟨k - 1, by omega, t + 1, _, by rw [wrap64_of (by omega) (by omega)]; omega, by omega, by rw [List.length_set]; exact hl2, O3, g25.then m27 fun j hj e => by have := fr j e; omega, by omega⟩
      · refine ⟨_, _, _, cells1 (h11.grow g25), (like_ok (G11.trans g25) (hx.grow g25) (hr.grow g25) rfl (by omega)).mono ?_⟩
        rintro e w29 ⟨rfl, g29⟩
        refine ⟨_, rfl, cnd_t rfl ((awake_ok g29).mono ?_)⟩
        rintro e w31 ⟨rfl, g31⟩
        exact ⟨_, rfl, rfl, g31⟩
    rintro e w12 ⟨⟨i, hi, p13, c13, rfl, O, fr⟩ | ⟨no, rfl⟩, g12⟩
    · refine ⟨_, _, _, _, rfl, _, _, _, cells1 (h11.grow g12), (refGet_at (hr.grow g12) rfl (by omega) hi).mono ?_⟩
      rintro e w16 ⟨⟨p2, c2, rfl, V⟩, g16⟩
      have hil : (x.it i).1.length ≤ (wds x.l).length := it_len hi.1
      refine ⟨_, _, _, _, rfl, cnd_f rfl ((refInts_ok (O.grow g16).vw V rfl rfl (by unfold maxLen; omega)).mono ?_)⟩
      rintro e w19 ⟨rfl, g19⟩
      refine ⟨_, rfl, cnd_f (by simp) ?_⟩
      exact rest w19 _ _ _ (by omega) ((O.grow g16).grow g19) fr ((g12.trans g16).trans g19)
    · refine ⟨_, _, _, _, rfl, _, _, _, cells1 (h11.grow g12), (refGet_ok (hr.grow g12) rfl (by omega) a).mono ?_⟩
      rintro e w16 ⟨⟨j, hj, _⟩ | ⟨_, rfl⟩, g16⟩
      · exact absurd hj (no j)
      · have O : OwI ty_int w16 none 0 [] := Ow.nil _ _ _
        refine ⟨_, _, _, _, rfl, cnd_f rfl ((refInts_ok O.vw O.vw rfl rfl (by unfold maxLen; simp)).mono ?_)⟩
        rintro e w19 ⟨rfl, g19⟩
        refine ⟨_, rfl, cnd_f (by simp) ?_⟩
        exact rest w19 none 0 [] (by simp) (Ow.nil _ _ _) (by simp [blk]) ((g12.trans g16).trans g19)

theorem ArenaGets_law (v0 v1 : Value) (W : World) (h0 : RdV W actsSh v0) (h1 : RdV W (.int .i64) v1) : Calls Try.prog fathomlaw02_ArenaGets.id #[v0, v1] W fun e W' => e = .returned (.bool true) ∧ Grow W W' := by
  obtain ⟨p, n, c, f, rfl, ha, hn⟩ := Acs.of_rd h0
  obtain ⟨a, rfl, hwf⟩ := h1
  exact ArenaGets_calls ha hn hwf
end Go.Proofs.Ytamckcamloelbaa.W
