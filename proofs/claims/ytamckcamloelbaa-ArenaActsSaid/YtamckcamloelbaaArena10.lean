/- Layer 2: a play of acts. -/
import Derived.Test.YtamckcamloelbaaArena9
import Derived.Test.YtamckcamloelbaaFwEq
namespace Go.Proofs.Ytamckcamloelbaa.W
open Go Go.Fw Go.RowKit Go.ArP

theorem mv_eq : structInts Try.prog ty_api_Move 2 = true := by kernel_rfl
theorem run_neq2 {P : Program} {t : TypeId} (h : structInts P t 2 = true) (x y : Operand) (a b a' b' : Int) (w : World) :
    (do eqGuard .neq t x y (.agg #[.int .i64 a, .int .i64 b]) (.agg #[.int .i64 a', .int .i64 b']); binOp .neq t (.agg #[.int .i64 a, .int .i64 b]) (.agg #[.int .i64 a', .int .i64 b'])).run P w = .ok (.bool (!([a, b] == [a', b']))) w := by
  have hg : P.eqGuardType P.depth t = false := by simp [structInts] at h; exact h.2
  rw [Sem.run_bind, run_eqGuard_agg _ _ _ _ _ _ _ hg, Result.andThen_ok, run_neq_struct, run_equalInts h #[.int .i64 a, .int .i64 b] #[.int .i64 a', .int .i64 b'] [a, b] [a', b'] w rfl rfl rfl rfl, Result.andThen_ok]

/-- An act. -/
structure Ac where
  d : Int
  s : Sl
  c : List Int
  at_ : Int
  i : Int
  j : Int
abbrev Ac.cells (x : Ac) : List Value := [.int .i64 x.d, x.s.v, .int .i64 x.at_, .int .i64 x.i, .int .i64 x.j]
/-- Acts that stand in a slice. -/
def Acs (w : World) (p : Option Addr) (n : Nat) (f : Nat → Ac) : Prop :=
  ∀ i, i < n → (∃ a, p = some a ∧ CellsAt w (a.add (i * 5)) 0 (f i).cells) ∧ (f i).s.n = (f i).c.length ∧ (f i).s.n ≤ maxLen ∧ Vw (Value.int .i64) w (f i).s.p (f i).c ∧ (Lit.int .i64 (f i).at_).wf = true

theorem CellsAt.grow {w w' : World} (g : Grow w w') {a : Addr} {vs : List Value} {i : Nat} (h : CellsAt w a i vs) : CellsAt w' a i vs := Go.Fw.CellsAt.keep g id h
theorem Acs.ix {w w' : World} {p : Option Addr} {n : Nat} {f : Nat → Ac} (h : Acs w p n f) (g : Grow w w') {i : Nat} (hi : i < n) {K : Addr → Prop} (hk : ∀ a, CellsAt w' a 0 (f i).cells → K a) : ixK p n (i : Int) 5 K := by
  obtain ⟨⟨a, rfl, h1⟩, _⟩ := h i hi
  refine ⟨a, rfl, by omega, by omega, ?_⟩
  rw [Int.toNat_natCast]
  exact hk _ (CellsAt.grow g h1)

theorem ac_of_rd {w : World} {cs : List Value} (h : Rd w (.cons (.int .i64) (.cons (.sl (.int .i64)) (.cons (.int .i64) (.cons (.int .i64) (.cons (.int .i64) .nil))))) cs) : ∃ x : Ac, cs = x.cells ∧ x.s.n = x.c.length ∧ x.s.n ≤ maxLen ∧ Vw (Value.int .i64) w x.s.p x.c ∧ (Lit.int .i64 x.at_).wf = true := by
  obtain ⟨_, _, rfl, ⟨d, rfl, _⟩, ws, _, rfl, hc, _, _, rfl, ⟨v, rfl, hv⟩, _, _, rfl, ⟨m, rfl, _⟩, _, _, rfl, ⟨k, rfl, _⟩, rfl⟩ := h
  have hc' : ∃ u, ws = [u] ∧ RdV w (.sl (.int .i64)) u := by
    rcases hc with rfl | ⟨a', len', cap', rfl, g⟩
    · exact ⟨_, rfl, .inl rfl⟩
    · exact ⟨_, rfl, .inr ⟨a', len', cap', rfl, g⟩⟩
  obtain ⟨u, rfl, hu⟩ := hc'
  obtain ⟨p, n, c, l, rfl, h1, h2, h3, h4⟩ := ints_of_rd' hu
  exact ⟨⟨d, ⟨p, n, c⟩, l, v, m, k⟩, rfl, h1, Nat.le_trans h2 h3, h4, hv⟩

theorem Acs.of_rd {w : World} {v : Value} (h : RdV w (.sl (.cons (.int .i64) (.cons (.sl (.int .i64)) (.cons (.int .i64) (.cons (.int .i64) (.cons (.int .i64) .nil)))))) v) : ∃ p n c f, v = .slice p n c ∧ Acs w p n f ∧ n ≤ maxLen := by
  rcases h with rfl | ⟨a, len, cap, rfl, h1, h2, h3⟩
  · exact ⟨none, 0, 0, fun _ => ⟨0, Sl.nil, [], 0, 0, 0⟩, rfl, fun i hi => by omega, Nat.zero_le _⟩
  · have : ∀ i, ∃ x : Ac, i < len → CellsAt w (a.add (i * 5)) 0 x.cells ∧ x.s.n = x.c.length ∧ x.s.n ≤ maxLen ∧ Vw (Value.int .i64) w x.s.p x.c ∧ (Lit.int .i64 x.at_).wf = true := by
      intro i
      by_cases hi : i < len
      · obtain ⟨es, _, hc, hr⟩ := h3 i hi
        obtain ⟨x, rfl, hx⟩ := ac_of_rd hr
        exact ⟨x, fun _ => ⟨hc, hx⟩⟩
      · exact ⟨⟨0, Sl.nil, [], 0, 0, 0⟩, fun h => absurd h hi⟩
    refine ⟨some a, len, cap, fun i => Classical.choose (this i), rfl, fun i hi => ?_, by omega⟩
    have := Classical.choose_spec (this i) hi
    exact ⟨⟨a, rfl, this.1⟩, this.2⟩

theorem light_ok {w : World} {p : Option Addr} {n c : Nat} {f : Nat → Ac} (ha : Acs w p n f) : Calls Try.prog fathomlaw02_light.id #[.slice p n c] w fun e w' => (∃ r, e = .returned (.bool r) ∧ (r = true → ∀ i, i < n → i < 40 → (f i).c.length ≤ 300)) ∧ Grow w w' := by
  refine fathomlaw02_light.calls ?_
  refine ⟨fun i w' k => ∃ t : Nat, i = t ∧ t ≤ n ∧ (∀ j, j < t → (f j).c.length ≤ 300) ∧ Grow w w' ∧ k + t = n, ⟨n, 0, rfl, Nat.zero_le _, fun j hj => by omega, Mod.refl _, rfl⟩, ?_⟩
  rintro i w5 k _ ⟨t, rfl, ht, hl, g, hk⟩
  refine cnd_i (fun q => cnd_i (fun q2 => ?_) (fun q2 => ⟨⟨_, rfl, fun _ j h1 h2 => hl j ?_⟩, g⟩)) (fun q => ⟨⟨_, rfl, fun _ j h1 h2 => hl j ?_⟩, g⟩) <;> simp only [decide_eq_true_eq, decide_eq_false_iff_not] at *
  · have q' : t < n := by omega
    refine ha.ix g q' fun a e => ⟨_, _, _, e.2.1, cnd_i (fun q3 => ⟨⟨_, rfl, fun h => by simp at h⟩, g⟩) (fun q3 => ⟨k - 1, by omega, t + 1, by rw [wrap64_of (by omega) (by omega)]; omega, q', fun j hj => ?_, g, by omega⟩)⟩
    simp only [decide_eq_false_iff_not] at q3
    rcases Nat.lt_or_ge j t with c | c
    · exact hl j c
    · have : j = t := by omega
      subst this
      have := (ha j q').2.1
      omega
  · omega
  · omega

/-- What stands while a play goes on. -/
structure PInv (w0 : World) (b n1 n5 : Nat) (w : World) (x : AS) (q : Option Addr) (hs : List Hd) (c : Nat) (l : List It) : Prop where
  h : ARep w b x
  hr : RR w q hs l
  hv : Has w n5 #[.slice q l.length c]
  ho : Has w n1 #[.slice none 0 0]
  dx : ∀ k, x.foot b k → ¬ RFoot q hs k ∧ k ≠ n5 ∧ k ≠ n1 ∧ w0.heap.size ≤ k
  dr : ∀ k, RFoot q hs k → k ≠ n5 ∧ k ≠ n1
  n51 : n5 ≠ n1
  f5 : w0.heap.size ≤ n5
  f1 : w0.heap.size ≤ n1
  G : Grow w0 w

variable {w0 w w' : World} {b n1 n5 : Nat} {x z : AS} {q q' : Option Addr} {hs hs' : List Hd} {c c' n' : Nat} {l l' : List It} {X : Nat → Prop}

theorem PInv.grow (p : PInv w0 b n1 n5 w x q hs c l) (g : Grow w w') : PInv w0 b n1 n5 w' x q hs c l :=
  ⟨p.h.grow g, p.hr.grow g, p.hv.grow g, p.ho.grow g, p.dx, p.dr, p.n51, p.f5, p.f1, p.G.trans g⟩
theorem PInv.drew (p : PInv w0 b n1 n5 w x q hs c l) : PInv w0 b n1 n5 w.drew x q hs c l := p.grow (Mod.refl w).drew

theorem PInv.act (p : PInv w0 b n1 n5 w x q hs c l) (u : Upd w w' b x l') : ∃ z, z.l = l' ∧ PInv w0 b n1 n5 w' z q hs c l ∧ Mod (x.foot b) w w' := by
  obtain ⟨z, h, e, f, m⟩ := u
  refine ⟨z, e, ⟨h, p.hr.keep m fun k hk e => (p.dx k e).1 hk, p.hv.keep m fun e => (p.dx _ e).2.1 rfl, p.ho.keep m fun e => (p.dx _ e).2.2.1 rfl, fun k hk => ?_, p.dr, p.n51, p.f5, p.f1, p.G.then m fun k hk e => by have := (p.dx k e).2.2.2; omega⟩, m⟩
  rcases f k hk with e | e
  · exact p.dx k e
  · have l7 := p.hv.lt; have l1 := p.ho.lt; have := p.G.size
    exact ⟨fun e2 => by have := p.hr.lt k e2; omega, by omega, by omega, by omega⟩

theorem PInv.ref (p : PInv w0 b n1 n5 w x q hs c l) (g : Grow w w') (u : RUpd w w' q hs X l' q' n') (hX : ∀ k, X k → k < w0.heap.size) {w2 : World} (hv : Has w2 n5 #[.slice q' n' c']) (m : Mod (· = n5) w' w2) : ∃ hs', PInv w0 b n1 n5 w2 x q' hs' c' l' := by
  obtain ⟨hs', hr, e, f⟩ := u
  subst e
  have p' := p.grow g
  have l7 := p.hv.lt; have l1 := p.ho.lt; have z := p.G.size
  have f5 := p.f5; have f1 := p.f1
  have d : ∀ k, RFoot q' hs' k → k ≠ n5 ∧ k ≠ n1 := fun k hk => by
    rcases f k hk with e | e | e
    · exact p.dr k e
    · have := hX k e; exact ⟨by omega, by omega⟩
    · exact ⟨by omega, by omega⟩
  refine ⟨hs', p'.h.keep m fun k hk e => (p.dx k hk).2.1 e, hr.keep m fun k hk e => (d k hk).1 e, hv, p'.ho.put m (Ne.symm p.n51), fun k hk => ⟨fun e => ?_, (p.dx k hk).2⟩, d, p.n51, p.f5, p.f1, p'.G.then m fun k hk (e : k = n5) => by omega⟩
  rcases f k e with e | e | e
  · exact (p.dx k hk).1 e
  · have := hX k e; have := (p.dx k hk).2.2.2; omega
  · have := p.h.lt k hk; omega

/-- What a play tells. -/
def Played (w0 : World) (v : Value) (w' : World) : Prop := ∃ b x q hs c, v = .tuple #[ptr b, .agg #[.slice q x.l.length c], .bool true] ∧ ARep w' b x ∧ RR w' q hs x.l ∧ (∀ k, x.foot b k → ¬ RFoot q hs k ∧ w0.heap.size ≤ k) ∧ (wds x.l).length ≤ 12080 ∧ Grow w0 w'

theorem cells5 {w : World} {b : Nat} {u v x y z : Value} (h : Has w b #[u, v, x, y, z]) : CellsAt w ⟨b, 0, none⟩ 0 [u, v, x, y, z] :=
  ⟨cell_add h rfl, cell_add h rfl, cell_add h rfl, cell_add h rfl, cell_add h rfl, trivial⟩

theorem addP_len (l : List It) (c : List Int) : (wds (addP l c).1).length ≤ (wds l).length + (c.length + 2) := by
  unfold addP
  split
  · simp [wds, ws_len]
  · simp
theorem dropP_len (l : List It) (a : Int) : (wds (dropP l a).1).length = (wds l).length := by
  unfold dropP
  by_cases h : ∃ i, At l a i
  · obtain ⟨i, h⟩ := h
    rw [idx_some h]
    exact wds_same (x := ((l.getD i ([], true)).1, true)) h.1 rfl
  · rw [idx_none fun i hi => h ⟨i, hi⟩]
theorem swapP_len (l : List It) (a u v : Int) : (wds (swapP l a u v).1).length = (wds l).length := by
  unfold swapP
  by_cases h : ∃ i, At l a i
  · obtain ⟨i, h⟩ := h
    rw [idx_some h]
    simp only []
    split
    · exact wds_same (x := (swp (l.getD i ([], true)).1 u v, false)) h.1 (swp_len _ _ _)
    · rfl
  · rw [idx_none fun i hi => h ⟨i, hi⟩]

theorem play_ok {p : Option Addr} {n cc : Nat} {f : Nat → Ac} (ha : Acs w p n f) (hn : n ≤ maxLen) (hl : ∀ i, i < n → i < 40 → (f i).c.length ≤ 300) : Calls Try.prog fathomlaw02_Play.id #[.slice p n cc] w fun e w' => ∃ v, e = .returned v ∧ Played w v w' := by
  refine fathomlaw02_Play.calls ?_
  unfold maxLen at hn
  intro n1 w2 h1
  have H1 := h1.has
  refine (New_ok w2).mono ?_
  rintro e w3 ⟨⟨b, x, rfl, hx, hxl, fx⟩, g3⟩
  refine ⟨_, rfl, ?_⟩
  intro n5 w6 h5
  have l1 := H1.lt
  have s1 := h1.num; have s5 := h5.num
  have z3 := g3.size
  have z2 := New.size h1
  refine store_i h5.has rfl rfl fun w7 Hv m7 => ?_
  have hxt := hx.lt
  have hx7 := (hx.grow h5.mod).keep m7 fun k hk e => by have := hxt k hk; omega
  have H1 := ((H1.grow g3).old h5).put m7 (by omega)
  have G7 : Grow w w7 := ((h1.mod.trans g3).trans h5.mod).then m7 fun k hk (e : k = n5) => by omega
  have P : PInv w b n1 n5 w7 x none [] 0 [] := ⟨hx7, ⟨Vr.nil, rfl, fun j hj => by simp at hj⟩, Hv, H1, fun k hk => by
      have := fx k hk
      have := hxt k hk
      exact ⟨fun e => by rcases e with ⟨e, _⟩ | ⟨_, e, _⟩ <;> simp at e, by omega, by omega, by omega⟩, fun k hk => by rcases hk with ⟨e, _⟩ | ⟨_, e, _⟩ <;> simp at e, by omega, by omega, by omega, G7⟩
  refine ⟨fun i w' k => ∃ t : Nat, i = t ∧ t ≤ n ∧ t ≤ 40 ∧ k + t = n ∧ ∃ x q hs c, PInv w b n1 n5 w' x q hs c x.l ∧ (wds x.l).length ≤ t * 302, ⟨n, 0, rfl, by omega, by omega, rfl, x, none, [], 0, by rw [hxl]; exact P, by rw [hxl]; simp [wds]⟩, ?_⟩
  clear P hx7 H1 G7 m7 Hv hx hxl fx hxt x
  rintro i w12 k _ ⟨t, rfl, ht, ht40, hk, x, q, hs, c, P, hw⟩
  have fin : ∀ w', Grow w12 w' → ∃ x126_p : Option Addr, ∃ x126_n : Nat, ∃ x126_c : Nat, CellsAt w' (Addr.mk n5 0 none) 0 [.slice x126_p x126_n x126_c] ∧ 
        ∃ w129 : World, StoreAt (Addr.mk n1 0 none) 0 [.slice x126_p x126_n x126_c] w' w129 ∧ 
        ∃ x130_p : Option Addr, ∃ x130_n : Nat, ∃ x130_c : Nat, CellsAt w129 (Addr.mk n1 0 none) 0 [.slice x130_p x130_n x130_c] ∧ 
        ∃ v, Ending.returned (.tuple #[.pointer (some ⟨b, 0, none⟩), .agg #[.slice x130_p x130_n x130_c], .bool true]) = .returned v ∧ Played w v w129 := by
    intro w' g
    have P := P.grow g
    refine ⟨_, _, _, cells1 P.hv, store_i P.ho rfl rfl fun w3 Ho m => ⟨_, _, _, cells1 Ho, _, rfl, b, x, q, hs, c, rfl, ?_, ?_, fun k hk => ⟨(P.dx k hk).1, (P.dx k hk).2.2.2⟩, by omega, ?_⟩⟩
    · exact P.h.keep m fun k hk e => (P.dx k hk).2.2.1 e
    · exact P.hr.keep m fun k hk e => (P.dr k hk).2 e
    · exact P.G.then m fun k hk (e : k = n1) => by have := P.f1; omega
  refine cnd_i (fun qq => cnd_i (fun q2 => ?_) (fun q2 => fin _ (Mod.refl w12).drew)) (fun qq => fin _ (Mod.refl w12).drew)
  simp only [decide_eq_true_eq] at qq q2
  clear fin
  obtain ⟨T, hT⟩ : ∃ T, T = t * 302 := ⟨_, rfl⟩
  rw [← hT] at hw
  have hT40 : T ≤ 12080 := by omega
  have qn : t < n := by omega
  obtain ⟨_, a1, a2, a3, a4⟩ := ha t qn
  refine ha.ix P.G qn fun a13 e13 => ⟨_, _, _, _, _, _, _, e13, ?_⟩
  have hcl := hl t qn (by omega)
  have hac : ∀ k, (f t).c ≠ [] → blk (f t).s.p = some k → k < w.heap.size := fun k hne hk => a3.lt hne k hk
  generalize f t = y at *
  intro n19 w20 h19
  have s19 := h19.num
  have P0 := P.grow h19.mod
  have z20 := New.size h19
  refine store_i h19.has rfl rfl fun w21 H19 m21 => ?_
  have g21 : Grow w12 w21 := h19.mod.fresh m21 (by omega)
  have P := P.grow g21
  have n19f : ∀ k, x.foot b k → n19 ≠ k := fun k hk => by
    have := P0.h.lt k hk
    have := (P.grow (Mod.refl _)).h.lt k hk
    intro e
    subst e
    have hh : ∀ k, x.foot b k → k < w12.heap.size := by
      rename PInv w b n1 n5 w12 x q hs c x.l => PP
      exact PP.h.lt
    have := hh n19 hk
    omega
  have n195 : n19 ≠ n5 := by
    rename PInv w b n1 n5 w12 x q hs c x.l => PP
    have := PP.hv.lt
    omega
  have hgw := P.G
  clear P0 m21 z20 g21 e13 h19 s19
  rename PInv w b n1 n5 w12 x q hs c x.l => PP
  clear PP
  have H19 : Has w21 n19 #[.int .i64 y.d, y.s.v, .int .i64 y.at_, .int .i64 y.i, .int .i64 y.j] := H19
  have next : ∀ (w' : World) (x : AS) (q hs c), PInv w b n1 n5 w' x q hs c x.l → (wds x.l).length ≤ T + 302 → ∃ k10 : Nat, k10 < k ∧ ∃ t' : Nat, IntKind.i64.wrap ((t : Int) + 1) = t' ∧ t' ≤ n ∧ t' ≤ 40 ∧ k10 + t' = n ∧ ∃ x q hs c, PInv w b n1 n5 w' x q hs c x.l ∧ (wds x.l).length ≤ t' * 302 :=
    fun w' x q hs c P hw => ⟨k - 1, by omega, t + 1, by rw [wrap64_of (by omega) (by omega)]; omega, by omega, by omega, by omega, x, q, hs, c, P, by rw [Nat.succ_mul, ← hT]; exact hw⟩
  refine ⟨_, cell_add H19 rfl, cnd_i (fun s => ?_) (fun s => cnd_i (fun s2 => ?_) (fun s2 => cnd_i (fun s3 => ?_) (fun s3 => cnd_i (fun s4 => ?_) (fun s4 => cnd_f (by decide) (next _ x q hs c P (by omega))))))⟩
  · refine ⟨_, _, _, cell_add H19 rfl, (add_ok P.h (a3.grow hgw) a1 hcl (by omega) (fun hne j hj e => by have := hac j hne hj; have := (P.dx j e).2.2.2; omega)).mono ?_⟩
    rintro e w24 ⟨rfl, u⟩
    obtain ⟨z, zl, P2, m2⟩ := P.act u
    have H19 := H19.keep m2 (fun e => n19f _ e rfl)
    refine ⟨_, _, rfl, _, _, _, cells1 P2.hv, _, _, _, cell_add H19 rfl, (refAdd_ok P2.hr rfl (by omega) (a3.grow P2.G) a1 hcl).mono ?_⟩
    rintro e w29 ⟨⟨p', n', c', rfl, u2⟩, g29⟩
    refine ⟨_, _, _, _, _, rfl, store_i (P2.hv.grow g29) rfl rfl fun w33 H33 m33 => ?_⟩
    obtain ⟨hs', P3⟩ := P2.ref g29 u2 (fun k hk => hac k hk.1 hk.2) H33 m33
    rw [← zl] at P3
    refine cnd_f (by simp) (cnd_f (by simp) (next _ z _ _ _ P3 ?_))
    have := addP_len x.l y.c
    rw [zl]; omega
  · refine ⟨_, cell_add H19 rfl, (drop_ok P.h (by omega) a4).mono ?_⟩
    rintro e w24 ⟨rfl, u⟩
    obtain ⟨z, zl, P2, m2⟩ := P.act u
    have H19 := H19.keep m2 (fun e => n19f _ e rfl)
    refine ⟨_, rfl, _, _, _, cells1 P2.hv, _, cell_add H19 rfl, (refDrop_ok P2.hr rfl (by omega) _).mono ?_⟩
    rintro e w29 ⟨⟨p', n', c', rfl, u2⟩, g29⟩
    refine ⟨_, _, _, _, rfl, store_i (P2.hv.grow g29) rfl rfl fun w33 H33 m33 => ?_⟩
    obtain ⟨hs', P3⟩ := P2.ref g29 u2 (fun k hk => hk.elim) H33 m33
    rw [← zl] at P3
    refine cnd_f (by simp) (next _ z _ _ _ P3 ?_)
    rw [zl, dropP_len]; omega
  · refine ⟨_, cell_add H19 rfl, _, cell_add H19 rfl, _, cell_add H19 rfl, (swap_ok P.h (by omega) a4 _ _).mono ?_⟩
    rintro e w24 ⟨rfl, u⟩
    obtain ⟨z, zl, P2, m2⟩ := P.act u
    have H19 := H19.keep m2 (fun e => n19f _ e rfl)
    refine ⟨_, rfl, _, _, _, cells1 P2.hv, _, cell_add H19 rfl, _, cell_add H19 rfl, _, cell_add H19 rfl, (refSwap_ok P2.hr rfl (by omega) _ _ _).mono ?_⟩
    rintro e w29 ⟨⟨p', n', c', rfl, u2⟩, g29⟩
    refine ⟨_, _, _, _, rfl, store_i (P2.hv.grow g29) rfl rfl fun w33 H33 m33 => ?_⟩
    obtain ⟨hs', P3⟩ := P2.ref g29 u2 (fun k hk => hk.elim) H33 m33
    rw [← zl] at P3
    refine cnd_f (by simp) (next _ z _ _ _ P3 ?_)
    rw [zl, swapP_len]; omega
  · refine (pack_ok P.h (by omega)).mono ?_
    rintro e w24 ⟨⟨pm, cm, rfl, Rm, frm⟩, u⟩
    obtain ⟨z, zl, P2, m2⟩ := P.act u
    refine ⟨_, _, _, rfl, ?_⟩
    intro n70 w71 h70
    have P2 := P2.grow h70.mod
    refine ⟨_, _, _, cells1 P2.hv, (refPack_ok P2.hr rfl (by omega)).mono ?_⟩
    rintro e w73 ⟨⟨p', n', c', pm2, cm2, rfl, u2, Rm2, fr2⟩, g73⟩
    refine ⟨_, _, _, _, _, _, rfl, store_i (P2.hv.grow g73) rfl rfl fun w33 H33 m33 => ?_⟩
    obtain ⟨hs', P3⟩ := P2.ref g73 u2 (fun k hk => hk.elim) H33 m33
    rw [← zl] at P3
    have zw := wds_liv_le x.l
    have hll := len_le x.l
    have hml : (mvs x.l).length ≤ x.l.length := by rw [mvs_len, plc_len]; exact List.length_filter_le _ _
    have V1 := (((Rm.grow h70.mod).vr mvE).grow g73).keep m33 (fun j hj e => by have := frm j hj; have := P.hv.lt; omega)
    have V2 := (Rm2.vr mvE)
    refine cnd_f (by simp) ?_
    refine ⟨fun i w' k => ∃ t : Nat, i = t ∧ t ≤ (mvs x.l).length ∧ Grow w33 w' ∧ k + t = (mvs x.l).length, ⟨_, 0, rfl, Nat.zero_le _, Mod.refl _, rfl⟩, ?_⟩
    rintro i w84 k2 _ ⟨t2, rfl, ht2, g84, hk2⟩
    have V1 := (V1.grow g84).drew
    have V2 := ((V2.keep m33 (fun j hj e => by have := fr2 j hj; have := P2.hv.lt; omega)).grow g84).drew
    refine cnd_i (fun qq => ?_) (fun qq => cnd_f (by decide) (next _ z _ _ _ (P3.grow g84) (by rw [zl]; omega))) 
    simp only [decide_eq_true_eq] at qq
    refine V1.ix (0, 0) (by omega) rfl qq fun a85 e85 => ⟨_, _, e85, V2.ix (0, 0) (by omega) rfl qq fun a88 e88 => ⟨_, _, e88, _, _, run_neq2 mv_eq _ _ _ _ _ _ _, cnd_f (by simp) ⟨k2 - 1, by omega, t2 + 1, by rw [wrap64_of (by omega) (by omega)]; omega, by omega, g84.drew, by omega⟩⟩⟩
end Go.Proofs.Ytamckcamloelbaa.W
