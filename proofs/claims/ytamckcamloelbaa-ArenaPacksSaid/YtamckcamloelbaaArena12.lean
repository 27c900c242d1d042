/- Layer 2: the law of packing; nobody's arena. -/
import Derived.Test.YtamckcamloelbaaArena11
namespace Go.Proofs.Ytamckcamloelbaa.W
open Go Go.Fw Go.RowKit Go.ArP

theorem pack_place {l : List It} {t : Nat} (h : t < (liv l).length) : ∃ i, At l ((plc l 0).getD t 0) i ∧ At (liv l) ((plc (liv l) 0).getD t 0) t ∧ (liv l).getD t ([], true) = l.getD i ([], true) ∧ (plc (liv l) 0).getD t 0 ≤ (plc l 0).getD t 0 := by
  obtain ⟨j, h1, h2, h3, h4, h5, h6⟩ := live_at l 0 t h
  rw [Nat.zero_add] at h4
  refine ⟨j, ⟨h1, h4.symm, h2⟩, ⟨h, (plc_liv l h).symm, liv_getD l h⟩, h6, ?_⟩
  rw [plc_liv l h, h4]
  unfold off
  rw [h5]
  have := wds_liv_le (l.take j)
  omega

theorem ArenaPacks_calls {W : World} {p : Option Addr} {n c : Nat} {f : Nat → Ac} (ha : Acs W p n f) (hn : n ≤ maxLen) : Calls Try.prog fathomlaw02_ArenaPacks.id #[.slice p n c] W fun e W' => e = .returned (.bool true) ∧ Grow W W' := by
  refine fathomlaw02_ArenaPacks.calls ?_
  refine (light_ok ha).mono ?_
  rintro e w1 ⟨⟨r, rfl, hl⟩, g1⟩
  refine ⟨_, rfl, cnd_i (fun _ => (awake_ok g1).mono ?_) (fun t => ?_)⟩
  · rintro e w3 ⟨rfl, g3⟩
    exact ⟨_, rfl, rfl, g3⟩
  have ha1 : Acs w1 p n f := fun i hi => by
    obtain ⟨⟨a, h1, h2⟩, h3, h4, h5, h6⟩ := ha i hi
    exact ⟨⟨a, h1, CellsAt.grow g1 h2⟩, h3, h4, h5.grow g1, h6⟩
  refine (play_ok ha1 hn (hl (by simpa using t))).mono ?_
  rintro e w5 ⟨v, rfl, b, x, q, hs, c, rfl, hx, hr, dj, hw, G⟩
  refine ⟨_, _, _, _, _, rfl, ?_⟩
  intro n9 w10 h10
  refine store_i h10.has rfl rfl fun w11 h11 m11 => ?_
  have s10 := h10.num
  have g11 : Grow w5 w11 := h10.mod.fresh m11 (by omega)
  have hlt := hx.lt
  have G11 := (g1.trans G).trans g11
  replace hx := hx.grow g11
  replace hr := hr.grow g11
  refine cnd_f rfl (cnd_f rfl ((count_ok hx).mono ?_))
  rintro e w12 ⟨rfl, g12⟩
  refine ⟨_, rfl, (pack_ok (hx.grow g12) (by omega)).mono ?_⟩
  rintro e w14 ⟨⟨pm, cm, rfl, Rm, frm⟩, z, hz, zl, fz, mz⟩
  have hll := len_le x.l
  have hlv : (liv x.l).length ≤ x.l.length := List.length_filter_le _ _
  have hpl : (plc x.l 0).length = (liv x.l).length := plc_len _ _
  have hml : (mvs x.l).length = (liv x.l).length := by rw [mvs_len, hpl]
  have hwl := wds_liv_le x.l
  have hr14 := (hr.grow g12).keep mz fun k hk e => (dj k e).1 hk
  have h14 := (h11.grow g12).keep mz fun e => by have := hlt n9 e; omega
  have zw := g11.size
  have zG := G.size
  have zg1 := g1.size
  have G14 : Grow W w14 := (G11.trans g12).then mz fun j hj e => by have := (dj j e).2; omega
  refine ⟨_, _, _, rfl, cnd_f ?_ ((waste_ok hz).mono ?_)⟩
  · rw [mvs_len]; simp
  rintro e w16 ⟨rfl, g16⟩
  refine ⟨_, rfl, cnd_f ?_ ((count_ok (hz.grow g16)).mono ?_)⟩
  · rw [zl, wst_liv]; rfl
  rintro e w18 ⟨rfl, g18⟩
  refine ⟨_, rfl, cnd_f ?_ ?_⟩
  · rw [zl, plc_liv_len]; simp
  have g0 := g16.trans g18
  have hz18 := hz.grow g0
  have hr18 := hr14.grow g0
  have h18 := h14.grow g0
  have Rm18 := Rm.grow g0
  have G18 := G14.trans g0
  refine ⟨fun i w' k => ∃ t : Nat, i = t ∧ t ≤ (liv x.l).length ∧ Grow w18 w' ∧ k + t = (liv x.l).length, ⟨_, 0, rfl, Nat.zero_le _, Mod.refl _, rfl⟩, ?_⟩
  rintro i w24 k _ ⟨t, rfl, ht, g24, hk⟩
  refine cnd_i (fun qq => ?_) (fun qq => ?_) <;> simp only [decide_eq_true_eq, decide_eq_false_iff_not] at qq
  · have ht' : t < (liv x.l).length := by omega
    obtain ⟨j, j1, j2, j3, j4⟩ := pack_place ht'
    have m1 := mvs_fst x.l t
    have m2 := mvs_snd x.l t
    have V := (Rm18.vr mvE).grow g24
    have ix : ∀ {w' : World} {K : Addr → Prop}, Grow w24 w' → (∀ a, w'.cell? (a.add 0) = some (.int .i64 ((plc x.l 0).getD t 0)) → w'.cell? (a.add 1) = some (.int .i64 ((plc (liv x.l) 0).getD t 0)) → K a) → ixK pm (mvs x.l).length (t : Int) 2 K := fun g hk =>
      (V.grow g).ix (0, 0) (by omega) rfl (by omega) fun a e => hk a (by have := e.1; rw [Int.toNat_natCast, m1] at this; exact this) (by have := e.2.1; rw [Int.toNat_natCast, m2] at this; exact this)
    replace j2 : At z.l ((plc (liv x.l) 0).getD t 0) t := by rw [zl]; exact j2
    refine ix (Mod.refl _) fun a25 x0 x1 => ⟨_, x1, (get_at (hz18.grow g24) (by rw [zl]; omega) j2).mono ?_⟩
    rintro e w27 ⟨⟨p2, c2, rfl, O, fr⟩, g27⟩
    have g27' : Grow w24 w27.drew := g27.drew
    refine ⟨_, _, _, _, rfl, _, _, _, cells1 ((h18.grow g24).grow g27'), ix g27' fun a31 y0 y1 => ⟨_, y0, (refGet_at ((hr18.grow g24).grow g27') rfl (by omega) j1).mono ?_⟩⟩
    rintro e w33 ⟨⟨p3, c3, rfl, V3⟩, g33⟩
    have g33' : Grow w27.drew w33.drew := g33.drew
    have hil := it_len j1.1
    have eit : (z.it t).1 = (x.l.getD j ([], true)).1 := by show (z.l.getD t ([], true)).1 = _; rw [zl, j3]
    refine ⟨_, _, _, _, rfl, cnd_f rfl ((refInts_ok (O.drew.grow g33').vw V3.drew rfl rfl (by rw [eit]; unfold maxLen; omega)).mono ?_)⟩
    rintro e w36 ⟨rfl, g36⟩
    have g36' := (g27'.trans g33').trans g36
    refine ⟨_, rfl, cnd_f (by rw [eit]; simp) (ix g36' fun a38 u0 u1 => ⟨_, u1, ix g36' fun a40 v0 v1 => ⟨_, v0, cnd_f (decide_eq_false (by omega)) ⟨k - 1, by omega, t + 1, by rw [wrap64_of (by omega) (by omega)]; omega, by omega, g24.trans g36', by omega⟩⟩⟩)⟩
  · refine (pack_ok (hz18.grow g24) (by rw [zl]; omega)).mono ?_
    rintro e w42 ⟨⟨pn, cn, rfl, Rn, frn⟩, y, hy, yl, fy, my⟩
    have G42 : Grow W w42 := (G18.trans g24).then my fun i hi e => by
      have z11 := g12.size
      rcases fz i e with e | e
      · have := (dj i e).2; omega
      · have := G11.size; omega
    rw [zl] at Rn ⊢
    have hml2 : (mvs (liv x.l)).length = (liv x.l).length := by rw [mvs_len, plc_liv_len, hpl]
    refine ⟨_, _, _, rfl, fun i w' k => ∃ t : Nat, i = t ∧ t ≤ (mvs (liv x.l)).length ∧ Grow w42 w' ∧ k + t = (mvs (liv x.l)).length, ⟨_, 0, rfl, Nat.zero_le _, Mod.refl _, rfl⟩, ?_⟩
    rintro i w48 k2 _ ⟨t2, rfl, ht2, g48, hk2⟩
    refine cnd_i (fun qq => ?_) (fun qq => ?_) <;> simp only [decide_eq_true_eq, decide_eq_false_iff_not] at qq
    · have V := ((Rn.vr mvE).grow g48).drew
      have e1 := mvs_fst (liv x.l) t2
      have e2 := mvs_snd (liv x.l) t2
      rw [liv_liv] at e2
      refine V.ix (0, 0) (by omega) rfl qq fun a49 x0 => ⟨_, x0.1, V.ix (0, 0) (by omega) rfl qq fun a51 x1 => ⟨_, x1.2.1, cnd_f ?_ ⟨k2 - 1, by omega, t2 + 1, by rw [wrap64_of (by omega) (by omega)]; omega, by omega, g48.drew, by omega⟩⟩⟩
      rw [Int.toNat_natCast, e1, e2]; simp
    · refine cnd_t ?_ ((awake_ok (G42.trans g48)).mono ?_)
      · rw [hml2, hpl]; simp
      · rintro e w53 ⟨rfl, g53⟩
        exact ⟨_, rfl, rfl, g53⟩

theorem ArenaPacks_law (v0 : Value) (W : World) (h0 : RdV W actsSh v0) : Calls Try.prog fathomlaw02_ArenaPacks.id #[v0] W fun e W' => e = .returned (.bool true) ∧ Grow W W' := by
  obtain ⟨p, n, c, f, rfl, ha, hn⟩ := Acs.of_rd h0
  exact ArenaPacks_calls ha hn

/-- Nobody's arena. -/
def Nob (w : World) (z : Option Addr) : Prop := z = none ∨ ∃ b, z = some ⟨b, 0, none⟩ ∧ Has w b #[.bool false, .slice none 0 0, .map none, .int .i64 0, .int .i64 0]
theorem Nob.grow {w w' : World} {z : Option Addr} (h : Nob w z) (g : Grow w w') : Nob w' z := by
  rcases h with rfl | ⟨b, rfl, h⟩
  · exact .inl rfl
  · exact .inr ⟨b, rfl, h.grow g⟩
variable {w : World} {z : Option Addr}
theorem nHas (h : Nob w z) {a : Int} (ha : (Lit.int .i64 a).wf = true) : Calls Try.prog arena_Arena_has.id #[.pointer z, .int .i64 a] w fun e w' => e = .returned (.bool false) ∧ Grow w w' := by
  refine arena_Arena_has.calls ?_
  rcases h with rfl | ⟨b, rfl, h⟩
  · exact cnd_f rfl ⟨rfl, Mod.refl w⟩
  · exact cnd_t rfl ⟨_, rfl, _, cell_add h rfl, _, _, look_nilB map_ib ha, rfl, Mod.refl w⟩
theorem nAdd (h : Nob w z) (s : Option Addr) (n k : Nat) : Calls Try.prog arena_Arena_Add.id #[.pointer z, .slice s n k] w fun e w' => e = .returned (.tuple #[.int .i64 0, .int .i64 5]) ∧ Grow w w' := by
  refine arena_Arena_Add.calls ?_
  rcases h with rfl | ⟨b, rfl, h⟩
  · exact cnd_t rfl ⟨rfl, Mod.refl w⟩
  · exact cnd_f rfl ⟨_, rfl, _, cell_add h rfl, cnd_t rfl ⟨rfl, Mod.refl w⟩⟩
theorem nGet (h : Nob w z) {a : Int} (ha : (Lit.int .i64 a).wf = true) : Calls Try.prog arena_Arena_Get.id #[.pointer z, .int .i64 a] w fun e w' => e = .returned (.tuple #[.slice none 0 0, .bool false]) ∧ Grow w w' := by
  refine arena_Arena_Get.calls ?_
  refine (nHas h ha).mono ?_
  rintro e w' ⟨rfl, g⟩
  exact ⟨_, rfl, cnd_t rfl ⟨rfl, g⟩⟩
theorem nDrop (h : Nob w z) {a : Int} (ha : (Lit.int .i64 a).wf = true) : Calls Try.prog arena_Arena_Drop.id #[.pointer z, .int .i64 a] w fun e w' => e = .returned (.int .i64 4) ∧ Grow w w' := by
  refine arena_Arena_Drop.calls ?_
  refine (nHas h ha).mono ?_
  rintro e w' ⟨rfl, g⟩
  exact ⟨_, rfl, cnd_t rfl ⟨rfl, g⟩⟩
theorem nSwap (h : Nob w z) {a : Int} (ha : (Lit.int .i64 a).wf = true) (u v : Int) : Calls Try.prog arena_Arena_Swap.id #[.pointer z, .int .i64 a, .int .i64 u, .int .i64 v] w fun e w' => e = .returned (.int .i64 4) ∧ Grow w w' := by
  refine arena_Arena_Swap.calls ?_
  refine (nHas h ha).mono ?_
  rintro e w' ⟨rfl, g⟩
  exact ⟨_, rfl, cnd_t rfl ⟨rfl, g⟩⟩
theorem nPlaces (h : Nob w z) : Calls Try.prog arena_Arena_Places.id #[.pointer z] w fun e w' => e = .returned (.slice none 0 0) ∧ Grow w w' := by
  refine arena_Arena_Places.calls ?_
  rcases h with rfl | ⟨b, rfl, h⟩
  · exact cnd_t rfl ⟨rfl, Mod.refl w⟩
  · refine cnd_f rfl ⟨fun p n c i w' k => p = none ∧ n = 0 ∧ c = 0 ∧ i = 0 ∧ w' = w, ⟨0, rfl, rfl, rfl, rfl, rfl⟩, ?_⟩
    rintro p n c i w6 k _ ⟨rfl, rfl, rfl, rfl, rfl⟩
    exact ⟨_, rfl, _, _, _, cell_add h rfl, cnd_f (by decide) ⟨rfl, Mod.refl _⟩⟩
theorem nCount (h : Nob w z) : Calls Try.prog arena_Arena_Count.id #[.pointer z] w fun e w' => e = .returned (.int .i64 0) ∧ Grow w w' := by
  refine arena_Arena_Count.calls ?_
  rcases h with rfl | ⟨b, rfl, h⟩
  · exact cnd_t rfl ⟨rfl, Mod.refl w⟩
  · exact cnd_f rfl ⟨_, rfl, _, cell_add h rfl, rfl, Mod.refl w⟩
theorem nWords (h : Nob w z) : Calls Try.prog arena_Arena_Words.id #[.pointer z] w fun e w' => e = .returned (.int .i64 0) ∧ Grow w w' := by
  refine arena_Arena_Words.calls ?_
  rcases h with rfl | ⟨b, rfl, h⟩
  · exact cnd_t rfl ⟨rfl, Mod.refl w⟩
  · exact cnd_f rfl ⟨_, rfl, _, _, _, cell_add h rfl, rfl, Mod.refl w⟩
theorem nWaste (h : Nob w z) : Calls Try.prog arena_Arena_Waste.id #[.pointer z] w fun e w' => e = .returned (.int .i64 0) ∧ Grow w w' := by
  refine arena_Arena_Waste.calls ?_
  rcases h with rfl | ⟨b, rfl, h⟩
  · exact cnd_t rfl ⟨rfl, Mod.refl w⟩
  · exact cnd_f rfl ⟨_, rfl, _, cell_add h rfl, rfl, Mod.refl w⟩
theorem nPack (h : Nob w z) {w0 : World} (G : Grow w0 w) (fr : ∀ k, blk z = some k → w0.heap.size ≤ k) : Calls Try.prog arena_Arena_Pack.id #[.pointer z] w fun e w' => e = .returned (.slice none 0 0) ∧ Grow w0 w' := by
  refine arena_Arena_Pack.calls ?_
  refine (nPlaces h).mono ?_
  rintro e w1 ⟨rfl, g1⟩
  replace h := h.grow g1
  refine ⟨_, _, _, rfl, fun p n c to v w' k => p = none ∧ n = 0 ∧ c = 0 ∧ to = 0 ∧ v = 0 ∧ w' = w1, ⟨0, rfl, rfl, rfl, rfl, rfl, rfl⟩, ?_⟩
  rintro p n c to v w9 k _ ⟨rfl, rfl, rfl, rfl, rfl, rfl⟩
  refine cnd_f (by decide) ?_
  rcases h with rfl | ⟨b, rfl, h⟩
  · exact cnd_t rfl ⟨rfl, G.trans g1⟩
  · have fb := fr b rfl
    refine cnd_f rfl ⟨_, rfl, _, _, _, cell_add h rfl, slK_i 0 0 0 rfl rfl rfl (Nat.le_refl _) (Nat.le_refl _) (Nat.le_refl _) ?_⟩
    intro n31 w32 h32
    refine ⟨_, rfl, store_f (h.old h32) rfl rfl fun w34 h34 m34 => ⟨_, rfl, store_f h34 rfl rfl fun w36 h36 m36 => ⟨_, rfl, store_f h36 rfl rfl fun w38 h38 m38 => ?_⟩⟩⟩
    refine ⟨fun v w' k => v = 0 ∧ w' = w38, ⟨0, rfl, rfl⟩, ?_⟩
    rintro v w43 k _ ⟨rfl, rfl⟩
    refine cnd_f (by decide) ⟨rfl, ?_⟩
    exact ((G.trans g1).trans h32.mod).then ((m34.trans m36).trans m38) fun j hj (e : j = b) => by omega

theorem cells5' {w : World} {b : Nat} {u v x y z : Value} (h : Has w b #[u, v, x, y, z]) : Has w b #[u, v, x, y, z] := h

theorem ArenaNobody_calls {W : World} {d a i j : Int} {s : Option Addr} {n k : Nat} (ha : (Lit.int .i64 a).wf = true) : Calls Try.prog fathomlaw02_ArenaNobody.id #[.agg #[.int .i64 d, .slice s n k, .int .i64 a, .int .i64 i, .int .i64 j]] W fun e W' => e = .returned (.bool true) ∧ Grow W W' := by
  refine fathomlaw02_ArenaNobody.calls ?_
  intro n1 w2 h2
  have H := h2.has
  refine ⟨fun i w' k => ∃ t : Nat, i = t ∧ t ≤ 2 ∧ Grow w2 w' ∧ k + t = 2, ⟨2, 0, rfl, by omega, Mod.refl _, rfl⟩, ?_⟩
  rintro kk w7 m _ ⟨t, rfl, ht, g7, hm⟩
  refine cnd_i (fun qq => ?_) (fun qq => (awake_ok (h2.mod.trans g7)).mono ?_) <;> simp only [decide_eq_true_eq, decide_eq_false_iff_not] at qq
  · refine ⟨fun z w' => Nob w' z ∧ Grow w2 w' ∧ ∀ k, blk z = some k → w2.heap.size ≤ k, ?_, ?_⟩
    · refine cnd_i (fun _ => ?_) (fun _ => ⟨.inl rfl, g7, by simp [blk]⟩)
      intro n9 w10 h9
      exact ⟨.inr ⟨n9, rfl, h9.has⟩, g7.trans h9.mod, fun k hk => by have := blk_some hk; have := h9.num; have := g7.size; omega⟩
    · rintro z w12 _ ⟨nz, g12, fr⟩
      refine ⟨_, _, _, cell_add (H.grow g12) rfl, (nAdd nz _ _ _).mono ?_⟩
      rintro e w14 ⟨rfl, g14⟩
      replace g12 := g12.trans g14
      replace nz := nz.grow g14
      refine ⟨_, _, rfl, _, cell_add (H.grow g12) rfl, (nGet nz ha).mono ?_⟩
      rintro e w18 ⟨rfl, g18⟩
      replace g12 := g12.trans g18
      replace nz := nz.grow g18
      refine ⟨_, _, _, _, rfl, cnd_f rfl (cnd_f rfl (cnd_f rfl (cnd_f rfl ⟨_, cell_add (H.grow g12) rfl, (nDrop nz ha).mono ?_⟩)))⟩
      rintro e w22 ⟨rfl, g22⟩
      replace g12 := g12.trans g22
      replace nz := nz.grow g22
      refine ⟨_, rfl, cnd_f rfl ⟨_, cell_add (H.grow g12) rfl, _, cell_add (H.grow g12) rfl, _, cell_add (H.grow g12) rfl, (nSwap nz ha _ _).mono ?_⟩⟩
      rintro e w27 ⟨rfl, g27⟩
      replace g12 := g12.trans g27
      replace nz := nz.grow g27
      refine ⟨_, rfl, cnd_f rfl ((nPlaces nz).mono ?_)⟩
      rintro e w29 ⟨rfl, g29⟩
      replace g12 := g12.trans g29
      replace nz := nz.grow g29
      refine ⟨_, _, _, rfl, cnd_f rfl ((nCount nz).mono ?_)⟩
      rintro e w31 ⟨rfl, g31⟩
      replace g12 := g12.trans g31
      replace nz := nz.grow g31
      refine ⟨_, rfl, cnd_f rfl ((nWords nz).mono ?_)⟩
      rintro e w33 ⟨rfl, g33⟩
      replace g12 := g12.trans g33
      replace nz := nz.grow g33
      refine ⟨_, rfl, cnd_f rfl ((nWaste nz).mono ?_)⟩
      rintro e w35 ⟨rfl, g35⟩
      replace g12 := g12.trans g35
      replace nz := nz.grow g35
      refine ⟨_, rfl, cnd_f rfl ((nPack nz g12 fr).mono ?_)⟩
      rintro e w37 ⟨rfl, g37⟩
      exact ⟨_, _, _, rfl, cnd_f rfl ⟨m - 1, by omega, t + 1, by rw [wrap64_of (by omega) (by omega)]; omega, by omega, g37, by omega⟩⟩
  · rintro e w39 ⟨rfl, g39⟩
    exact ⟨_, rfl, rfl, g39⟩

theorem ArenaNobody_law (v0 : Value) (W : World) (h0 : RdV W (.cons (.int .i64) (.cons (.sl (.int .i64)) (.cons (.int .i64) (.cons (.int .i64) (.cons (.int .i64) .nil))))) v0) : Calls Try.prog fathomlaw02_ArenaNobody.id #[v0] W fun e W' => e = .returned (.bool true) ∧ Grow W W' := by
  obtain ⟨cs, rfl, h⟩ := h0
  obtain ⟨x, rfl, _, _, _, ha⟩ := ac_of_rd h
  exact ArenaNobody_calls ha
end Go.Proofs.Ytamckcamloelbaa.W
