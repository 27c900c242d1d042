/- Layer 9: the laws of acts. -/
import Derived.Test.YtamckcamloelbaaHeap9
import Derived.Test.YtamckcamloelbaaFwRead
namespace Go.Proofs.Ytamckcamloelbaa.W
open Go Go.Fw Go.RowKit Go.HeapP

variable {w0 w w' : World} {b n7 N : Nat} {x z : HS} {r r' : RS}

/-- What a law has at hand behind a play. -/
structure QInv (w0 : World) (b n7 N : Nat) (w : World) (x : HS) (r : RS) : Prop where
  h : HRep w b x
  gd : HGood x N
  hr : RRep w r
  hv : Has w n7 r.row
  dx : ∀ k, x.foot b k → ¬ r.foot k ∧ k ≠ n7 ∧ w0.heap.size ≤ k
  dr : ∀ k, r.foot k → k ≠ n7
  f7 : w0.heap.size ≤ n7
  G : Grow w0 w

theorem QInv.grow (p : QInv w0 b n7 N w x r) (g : Grow w w') : QInv w0 b n7 N w' x r :=
  ⟨p.h.grow g, p.gd, p.hr.grow g, p.hv.grow g, p.dx, p.dr, p.f7, p.G.trans g⟩
theorem QInv.drew (p : QInv w0 b n7 N w x r) : QInv w0 b n7 N w.drew x r := p.grow (Mod.refl w).drew

theorem QInv.heap (p : QInv w0 b n7 N w x r) (h : HRep w' b z) (gd : HGood z N) (m : Mod (x.foot b) w w') (f : ∀ k, z.foot b k → x.foot b k ∨ w.heap.size ≤ k) : QInv w0 b n7 N w' z r := by
  refine ⟨h, gd, p.hr.keep m fun k hk e => (p.dx k e).1 hk, p.hv.keep m fun e => (p.dx _ e).2.1 rfl, fun k hk => ?_, p.dr, p.f7, p.G.then m fun k hk e => by have := (p.dx k e).2.2; omega⟩
  rcases f k hk with e | e
  · exact p.dx k e
  · have l7 := p.hv.lt; have := p.G.size
    exact ⟨fun e2 => by have := p.hr.lt k e2; omega, by omega, by omega⟩

theorem QInv.ref (p : QInv w0 b n7 N w x r) (g : Grow w w') (hr : RRep w' r') (f : ∀ k, r'.foot k → r.foot k ∨ w.heap.size ≤ k) {w2 : World} (hv : Has w2 n7 r'.row) (m : Mod (· = n7) w' w2) : QInv w0 b n7 N w2 x r' := by
  have q := p.grow g
  have l7 := p.hv.lt
  have d : ∀ k, r'.foot k → k ≠ n7 := fun k hk => (f k hk).elim (p.dr k) fun e => by omega
  refine ⟨q.h.keep m fun k hk e => (p.dx k hk).2.1 e, q.gd, hr.put m fun e => d _ e rfl, hv, fun k hk => ⟨fun e => ?_, (p.dx k hk).2⟩, d, p.f7, q.G.then m fun k hk (e : k = n7) => by have := p.f7; omega⟩
  rcases f k e with e | e
  · exact (p.dx k hk).1 e
  · have := p.h.lt k hk; omega

/-- Both decay; no variable goes ahead of another one that had no less. -/
theorem decay3 {K : World → Prop} (p : QInv w0 b n7 N w x r) (rel : Rel x N r) (hk : ∀ w' x' r', QInv w0 b n7 N w' x' r' → Rel x' N r' → (∀ a c, g x.score c ≤ g x.score a → g x'.score c ≤ g x'.score a) → K w') :
    Calls Try.prog heap_Heap_Decay.id #[ptr b] w fun e w107 => e = .returned (.tuple #[]) ∧ 
      ∃ x108_p : Option Addr, ∃ x108_n : Nat, ∃ x108_c : Nat, ∃ x109_p : Option Addr, ∃ x109_n : Nat, ∃ x109_c : Nat, ∃ x110 : Int, CellsAt w107 (Addr.mk n7 0 none) 0 [.slice x108_p x108_n x108_c, .slice x109_p x109_n x109_c, .int .i64 x110] ∧ 
      Calls Try.prog fathomref09_Decay.id #[.agg #[.slice x108_p x108_n x108_c, .slice x109_p x109_n x109_c, .int .i64 x110]] w107 fun e w111 => ∃ r112_p : Option Addr, ∃ r112_n : Nat, ∃ r112_c : Nat, ∃ r113_p : Option Addr, ∃ r113_n : Nat, ∃ r113_c : Nat, ∃ r114 : Int, e = .returned (.agg #[.slice r112_p r112_n r112_c, .slice r113_p r113_n r113_c, .int .i64 r114]) ∧ 
      ∃ w115 : World, StoreAt (Addr.mk n7 0 none) 0 [.slice r112_p r112_n r112_c, .slice r113_p r113_n r113_c, .int .i64 r114] w111 w115 ∧ K w115 := by
  have gd := p.gd
  have hN := gd.ok.big
  have hns := gd.ok.ns
  have hst := gd.st
  unfold top at hst
  refine (decay_ok p.h gd).mono ?_
  rintro e w1 ⟨rfl, z, hz, gz, lz, mz⟩
  have zf : ∀ k, z.foot b k → x.foot b k ∨ w.heap.size ≤ k := by
    intro k hk
    left
    rw [lz.foot b] at hk
    split at hk <;> exact hk
  have q := p.heap hz gz mz zf
  have sm := gd.small rel
  refine ⟨rfl, _, _, _, _, _, _, _, cells3 q.hv, (refDecay_ok q.hr (by rw [rel.s]; omega) (fun t ht => ⟨(sm t ht).1, by have := (sm t ht).2; omega⟩) (by rw [rel.st]; omega)).mono ?_⟩
  rintro e w2 ⟨r', rfl, sc, hf, g2⟩
  have mono : ∀ a c, g x.score c ≤ g x.score a → g z.score c ≤ g z.score a := by
    intro a c hac
    split at lz
    · rw [show z.score = x.score.map f20 from lz.score, g_map rfl, g_map rfl]
      unfold f20; omega
    · rw [show z.score = x.score from lz.score]; exact hac
  refine ⟨_, _, _, _, _, _, _, rfl, store_i (q.hv.grow g2) rfl rfl fun w3 Hv m => hk w3 z r' (q.ref g2 sc.rep hf Hv m) ?_ mono⟩
  have must : RS.must { r with step := r.step + (r.step / 16 + 1) } = true ↔ top < x.step + (x.step / 16 + 1) := by
    rw [must_iff]
    show (top < r.step + (r.step / 16 + 1) ∨ ∃ t : Nat, t < r.rs.length ∧ top < g r.rs t) ↔ _
    rw [rel.st]
    constructor
    · rintro (h | ⟨t, ht, h⟩)
      · exact h
      · have := (sm t ht).2
        rw [g_nat] at this
        unfold top at h; omega
    · exact .inl
  by_cases hc : top < x.step + (x.step / 16 + 1)
  · rw [if_pos hc] at lz
    have hm := must.2 hc
    refine ⟨by rw [sc.rin]; exact rel.n, ?_, ?_, fun u u0 u1 => ?_⟩
    · rw [sc.rs, if_pos hm]; show r.rs.map f20 = _; rw [rel.s]; exact lz.score.symm
    · rw [sc.step, if_pos hm]; show imax 1 (f20 (r.step + (r.step / 16 + 1))) = _; rw [rel.st]; exact lz.step.symm
    · rw [sc.rin]; show gb r.rin u = _; rw [rel.i u u0 u1]; exact decide_eq_decide.2 (lz.has u u0 u1).symm
  · rw [if_neg hc] at lz
    have hm : ¬ RS.must { r with step := r.step + (r.step / 16 + 1) } = true := fun h => hc (must.1 h)
    refine ⟨by rw [sc.rin]; exact rel.n, ?_, ?_, fun u u0 u1 => ?_⟩
    · rw [sc.rs, if_neg hm]; show r.rs = _; rw [rel.s]; exact lz.score.symm
    · rw [sc.step, if_neg hm]; show r.step + (r.step / 16 + 1) = _; rw [rel.st]; exact lz.step.symm
    · rw [sc.rin]; show gb r.rin u = _; rw [rel.i u u0 u1]; exact decide_eq_decide.2 (lz.has u u0 u1).symm


/-- The variable that holds what a play left. -/
theorem QInv.mk' {w8 w9 : World} {o : Obj} (hx : HRep w b x) (gd : HGood x N) (hr : RRep w r) (d : ∀ k, x.foot b k → ¬ r.foot k ∧ w0.heap.size ≤ k) (G : Grow w0 w) (h7 : New o w n7 w8) (Hv : Has w9 n7 r.row) (m9 : Mod (· = n7) w8 w9) : QInv w0 b n7 N w9 x r := by
  have s7 := h7.num
  have z := G.size
  have hxl := hx.lt
  have hrl := hr.lt
  exact ⟨(hx.grow h7.mod).keep m9 fun k hk (e : k = n7) => by have := hxl k hk; omega, gd, (hr.grow h7.mod).put m9 fun e => by have := hrl _ e; omega, Hv, fun k hk => ⟨(d k hk).1, by have := hxl k hk; omega, (d k hk).2⟩, fun k hk => by have := hrl k hk; omega, by omega, (G.trans h7.mod).then m9 fun k hk (e : k = n7) => by omega⟩

theorem mod20 {n : Int} (h : 0 ≤ n ∧ n < 256) : IntKind.i64.wrap (n.tmod 20) = ((n % 20).toNat : Int) := by
  rw [Int.tmod_eq_emod_of_nonneg (by omega), wrap64_of (by omega) (by omega)]; omega

theorem HeapActs_calls {n : Int} (hn : 0 ≤ n ∧ n < 256) {p : Option Addr} {m c : Nat} {f : Nat → Int × Int × Int} (ha : Acts w p m f) (hm : m ≤ maxLen) : Calls Try.prog fathomlaw09_HeapActs.id #[.int .u8 n, .slice p m c] w fun e w' => e = .returned (.bool true) ∧ Grow w w' := by
  refine fathomlaw09_HeapActs.calls ?_
  unfold fathomlaw09_HeapActs.w
  rw [mod20 hn]
  refine ⟨by decide, (play_ok (by omega) ha hm).mono ?_⟩
  rintro e w1 ⟨v, rfl, hp⟩
  obtain ⟨b, x, r, rfl, hx, gd, hr, rel, d, G⟩ := hp
  refine ⟨_, _, _, _, _, _, _, _, _, rfl, ?_⟩
  intro n7 w8 h7
  refine store_i h7.has rfl rfl fun w9 Hv m9 => ?_
  have Q : QInv w b n7 (n % 20).toNat w9 x r := QInv.mk' hx gd hr d G h7 Hv m9
  refine cnd_t rfl ⟨_, _, _, _, _, _, _, cells3 Q.hv, (like_ok (r := r) Q.G Q.h Q.gd Q.hr rel).mono ?_⟩
  rintro e w13 ⟨rfl, g13⟩
  exact ⟨_, rfl, cnd_t rfl (awake9' g13)⟩

theorem HeapActs_law (v0 v1 : Value) (W : World) (h0 : RdV W (.int .u8) v0) (h1 : RdV W (.sl (.cons (.int .i64) (.cons (.int .i64) (.cons (.int .i64) .nil)))) v1) : Calls Try.prog fathomlaw09_HeapActs.id #[v0, v1] W fun e W' => e = .returned (.bool true) ∧ Grow W W' := by
  obtain ⟨n, rfl, hn⟩ := h0
  obtain ⟨p, m, c, f, rfl, ha, hm⟩ := Acts.of_rd h1
  exact HeapActs_calls (bdU8_of_wf hn) ha hm

theorem mod5 {x : Int} (h : 0 ≤ x ∧ x < 256) : ∃ a : Int, IntKind.i64.wrap (1 + IntKind.i64.wrap (x.tmod 5)) = a ∧ 1 ≤ a ∧ a ≤ 5 := by
  refine ⟨1 + x % 5, ?_, by omega, by omega⟩
  rw [Int.tmod_eq_emod_of_nonneg (by omega), wrap64_of (x := x % 5) (by omega) (by omega), wrap64_of (by omega) (by omega)]

theorem HeapScales_calls {p : Option Addr} {m c : Nat} {f : Nat → Int × Int × Int} (ha : Acts w p m f) (hm : m ≤ maxLen) {x1 y1 : Int} (hx1 : 0 ≤ x1 ∧ x1 < 256) (hy1 : 0 ≤ y1 ∧ y1 < 256) : Calls Try.prog fathomlaw09_HeapScales.id #[.slice p m c, .int .u8 x1, .int .u8 y1] w fun e w' => e = .returned (.bool true) ∧ Grow w w' := by
  refine fathomlaw09_HeapScales.calls ?_
  unfold fathomlaw09_HeapScales.w
  obtain ⟨a, ea, a1, a2⟩ := mod5 hx1
  obtain ⟨b', eb, b1, b2⟩ := mod5 hy1
  rw [ea, eb]
  refine (play_ok (N := 5) (by omega) ha hm).mono ?_
  rintro e w1 ⟨v, rfl, hp⟩
  obtain ⟨b, x, r, rfl, hx, gd, hr, rel, d, G⟩ := hp
  refine ⟨_, _, _, _, _, _, _, _, _, rfl, ?_⟩
  intro n7 w8 h7
  refine store_i h7.has rfl rfl fun w9 Hv m9 => ?_
  have Q : QInv w b n7 5 w9 x r := QInv.mk' hx gd hr d G h7 Hv m9
  have sc : ∀ {x : HS}, HGood x 5 → x.score.length = x.at_.length ∧ ∀ v : Int, 1 ≤ v → v ≤ 5 → (if 1 ≤ v ∧ v < (x.at_.length : Int) then g x.score v else 0) = g x.score v := by
    intro x gd
    have h1 := gd.ok.na; have h2 := gd.ok.ns
    exact ⟨by omega, fun v v1 v2 => if_pos (by omega)⟩
  refine ⟨by decide, by decide, cnd_f rfl ((score_ok Q.h (sc Q.gd).1 a).mono ?_)⟩
  rintro e w10 ⟨rfl, g10⟩
  have Q := Q.grow g10
  rw [(sc Q.gd).2 a a1 a2]
  refine ⟨_, rfl, (score_ok Q.h (sc Q.gd).1 b').mono ?_⟩
  rintro e w12 ⟨rfl, g12⟩
  have Q := Q.grow g12
  rw [(sc Q.gd).2 b' b1 b2]
  refine ⟨_, rfl, ?_⟩
  have h0 : g x.score a > g x.score b' → g x.score b' ≤ g x.score a := fun h => Int.le_of_lt h
  generalize hsa : g x.score a = sa
  generalize hsb : g x.score b' = sb
  have h0 : sa > sb → g x.score b' ≤ g x.score a := fun h => h0 (by omega)
  clear hsa hsb
  refine ⟨fun k w' m => 0 ≤ k ∧ k ≤ 300 ∧ m = (300 - k).toNat ∧ ∃ x r, QInv w b n7 5 w' x r ∧ Rel x 5 r ∧ (sa > sb → g x.score b' ≤ g x.score a), ⟨300, by omega, by omega, rfl, x, r, Q, rel, h0⟩, ?_⟩
  clear Q rel h0 gd hx hr d G Hv m9 h7
  rintro k w18 m' _ ⟨k0, k1, hm', x, r, Q, rel, h0⟩
  refine cnd_i (fun q => ?_) (fun q => ?_) <;> simp only [decide_eq_true_eq, decide_eq_false_iff_not] at q
  · refine decay3 Q rel fun w' z r' Q rel hmono => ?_
    have st := Q.gd.st
    have sa' := Q.gd.sc a (by omega) a2
    have sb' := Q.gd.sc b' (by omega) b2
    unfold top at st sa' sb'
    have next : ∀ w2, Grow w' w2 → ∃ k16 : Nat, k16 < m' ∧ (0 ≤ IntKind.i64.wrap (k + 1) ∧ IntKind.i64.wrap (k + 1) ≤ 300 ∧ k16 = (300 - IntKind.i64.wrap (k + 1)).toNat ∧ ∃ x r, QInv w b n7 5 w2 x r ∧ Rel x 5 r ∧ (sa > sb → g x.score b' ≤ g x.score a)) := by
      intro w2 g2
      rw [wrap64_of (by omega) (by omega)]
      exact ⟨(300 - (k + 1)).toNat, by omega, by omega, by omega, rfl, z, r', Q.grow g2, rel, fun h => hmono a b' (h0 h)⟩
    have stepS : ∀ w2, Grow w' w2 → Calls Try.prog heap_Heap_Step.id #[ptr b] w2 fun e w' => e = .returned (.int .i64 z.step) ∧ Grow w2 w' := fun w2 g2 => step_ok (Q.h.grow g2)
    have scA : ∀ w2, Grow w' w2 → Calls Try.prog heap_Heap_Score.id #[ptr b, .int .i64 a] w2 fun e w' => e = .returned (.int .i64 (g z.score a)) ∧ Grow w2 w' := fun w2 g2 => by
      have := score_ok (Q.h.grow g2) (sc Q.gd).1 a
      rwa [(sc Q.gd).2 a a1 a2] at this
    have scB : ∀ w2, Grow w' w2 → Calls Try.prog heap_Heap_Score.id #[ptr b, .int .i64 b'] w2 fun e w' => e = .returned (.int .i64 (g z.score b')) ∧ Grow w2 w' := fun w2 g2 => by
      have := score_ok (Q.h.grow g2) (sc Q.gd).1 b'
      rwa [(sc Q.gd).2 b' b1 b2] at this
    have r0 : Grow w' w' := Mod.refl _
    refine cnd_i (fun t => ?_) (fun t => ?_)
    · have t : sa > sb := of_decide_eq_true t
      refine (scA _ r0).mono ?_
      rintro e w28 ⟨rfl, g1⟩
      refine ⟨_, rfl, (scB _ g1).mono ?_⟩
      rintro e w30 ⟨rfl, g2⟩
      have g2 := g1.trans g2
      refine ⟨_, rfl, cnd_f (decide_eq_false (by have := hmono a b' (h0 t); omega)) ((stepS _ g2).mono ?_)⟩
      rintro e w32 ⟨rfl, g3⟩
      have g3 := g2.trans g3
      refine ⟨_, rfl, cnd_f (decide_eq_false (by omega)) ((scA _ g3).mono ?_)⟩
      rintro e w34 ⟨rfl, g4⟩
      exact ⟨_, rfl, cnd_f (decide_eq_false (by omega)) (next _ (g3.trans g4))⟩
    · refine (stepS _ r0).mono ?_
      rintro e w36 ⟨rfl, g3⟩
      refine ⟨_, rfl, cnd_f (decide_eq_false (by omega)) ((scA _ g3).mono ?_)⟩
      rintro e w38 ⟨rfl, g4⟩
      exact ⟨_, rfl, cnd_f (decide_eq_false (by omega)) (next _ (g3.trans g4))⟩
  · refine ⟨_, _, _, _, _, _, _, cells3 Q.hv, (like_ok (r := r) Q.G Q.h Q.gd Q.hr rel).mono ?_⟩
    rintro e w43 ⟨rfl, g13⟩
    exact ⟨_, rfl, cnd_t rfl (awake9' g13)⟩

theorem HeapScales_law (v0 v1 v2 : Value) (W : World) (h0 : RdV W (.sl (.cons (.int .i64) (.cons (.int .i64) (.cons (.int .i64) .nil)))) v0) (h1 : RdV W (.int .u8) v1) (h2 : RdV W (.int .u8) v2) : Calls Try.prog fathomlaw09_HeapScales.id #[v0, v1, v2] W fun e W' => e = .returned (.bool true) ∧ Grow W W' := by
  obtain ⟨p, m, c, f, rfl, ha, hm⟩ := Acts.of_rd h0
  obtain ⟨x, rfl, hx⟩ := h1
  obtain ⟨y, rfl, hy⟩ := h2
  exact HeapScales_calls ha hm (bdU8_of_wf hx) (bdU8_of_wf hy)

theorem HeapOrders_calls {n : Int} (hn : 0 ≤ n ∧ n < 256) {p : Option Addr} {m c : Nat} {f : Nat → Int × Int × Int} (ha : Acts w p m f) (hm : m ≤ maxLen) : Calls Try.prog fathomlaw09_HeapOrders.id #[.int .u8 n, .slice p m c] w fun e w' => e = .returned (.bool true) ∧ Grow w w' := by
  refine fathomlaw09_HeapOrders.calls ?_
  unfold fathomlaw09_HeapOrders.w
  rw [mod20 hn]
  obtain ⟨N, hN, hN2⟩ : ∃ N : Nat, N = (n % 20).toNat ∧ N ≤ 19 := ⟨_, rfl, by omega⟩
  rw [← hN]
  refine ⟨by decide, (play_ok (by omega) ha hm).mono ?_⟩
  rintro e w1 ⟨v, rfl, hp⟩
  obtain ⟨b, x, r, rfl, hx, gd, hr, rel, d, G⟩ := hp
  refine ⟨_, _, _, _, _, _, _, _, _, rfl, ?_⟩
  intro n7 w8 h7
  refine store_i h7.has rfl rfl fun w9 Hv m9 => ?_
  have Q : QInv w b n7 N w9 x r := QInv.mk' hx gd hr d G h7 Hv m9
  have hrn := rel.n
  refine cnd_f rfl ⟨_, _, _, _, _, _, _, cells3 Q.hv, (refLen_ok (r := r) Q.hr (by omega)).mono ?_⟩
  rintro e w13 ⟨rfl, g13⟩
  rw [rel.len Q.gd]
  have Q := Q.grow g13
  refine ⟨_, rfl, fun last i w' k => ∃ x r, QInv w b n7 N w' x r ∧ Rel x N r ∧ i = x.l.length ∧ k = x.l.length ∧ (last = 0 ∨ (1 ≤ last ∧ last ≤ N ∧ ∀ u : Int, 1 ≤ u → u ≤ N → 0 < g x.at_ u → ¬ Bt (g x.score) u last)), ⟨_, x, r, Q, rel, rfl, rfl, .inl rfl⟩, ?_⟩
  clear Q rel gd hx hr d G Hv m9 h7 hrn
  rintro last i w20 k _ ⟨x, r, Q, rel, rfl, rfl, hlast⟩
  have hrn := rel.n
  have hns := Q.gd.ok.ns
  have hrs : r.rs.length = N + 1 := by rw [rel.s]; omega
  refine cnd_i (fun q => ?_) (fun q => ?_) <;> simp only [decide_eq_true_eq, decide_eq_false_iff_not] at q
  · have h0 : x.l.length ≠ 0 := by omega
    have t := Q.gd.best h0
    refine (pop_ok Q.h Q.gd h0).mono ?_
    rintro e w21 ⟨rfl, z, hz, gz, lz, zl, mz, zf⟩
    have Q2 := Q.heap hz gz mz fun k hk => .inl (by rw [← zf]; exact hk)
    generalize hv : g x.l 0 = v at t lz
    have v0 : 0 ≤ v := by omega
    have hin : gb r.rin v = true := by rw [rel.i v t.1 t.2.1]; exact decide_eq_true t.2.2.1
    have nxt : ∀ w2, QInv w b n7 N w2 z r → ∃ x40_p : Option Addr, ∃ x40_n : Nat, ∃ x40_c : Nat, ∃ x41_p : Option Addr, ∃ x41_n : Nat, ∃ x41_c : Nat, ∃ x42 : Int, CellsAt w2 (Addr.mk n7 0 none) 0 [.slice x40_p x40_n x40_c, .slice x41_p x41_n x41_c, .int .i64 x42] ∧ 
            Calls Try.prog fathomref09_Set.id #[.agg #[.slice x40_p x40_n x40_c, .slice x41_p x41_n x41_c, .int .i64 x42], .int .i64 v, .bool false] w2 fun e w43 => ∃ r44_p : Option Addr, ∃ r44_n : Nat, ∃ r44_c : Nat, ∃ r45_p : Option Addr, ∃ r45_n : Nat, ∃ r45_c : Nat, ∃ r46 : Int, e = .returned (.agg #[.slice r44_p r44_n r44_c, .slice r45_p r45_n r45_c, .int .i64 r46]) ∧ 
            ∃ w47 : World, StoreAt (Addr.mk n7 0 none) 0 [.slice r44_p r44_n r44_c, .slice r45_p r45_n r45_c, .int .i64 r46] w43 w47 ∧ 
            ∃ k17 : Nat, k17 < x.l.length ∧ ∃ y r, QInv w b n7 N w47 y r ∧ Rel y N r ∧ IntKind.i64.wrap ((x.l.length : Int) - 1) = y.l.length ∧ k17 = y.l.length ∧ (v = 0 ∨ (1 ≤ v ∧ v ≤ N ∧ ∀ u : Int, 1 ≤ u → u ≤ N → 0 < g y.at_ u → ¬ Bt (g y.score) u v)) := by
      intro w2 Q3
      have hnl := Q.gd.ok.nl
      refine ⟨_, _, _, _, _, _, _, cells3 Q3.hv, (refSet_ok Q3.hr v false v0 (by omega) (by omega)).mono ?_⟩
      rintro e w81 ⟨r', rfl, hr', ri, rs, rt, rf, g81⟩
      refine ⟨_, _, _, _, _, _, _, rfl, store_i (Q3.hv.grow g81) rfl rfl fun w85 Hv m85 => ⟨z.l.length, by omega, z, r', Q3.ref g81 hr' rf Hv m85, ?_, ?_, rfl, .inr ⟨t.1, t.2.1, fun u u0 u1 u2 => ?_⟩⟩⟩
      · refine ⟨by rw [ri, List.length_set]; exact rel.n, by rw [rs, rel.s, lz.score], by rw [rt, rel.st, lz.step], fun u u0 u1 => ?_⟩
        rw [ri, gb_set (by omega) (by omega)]
        simp only
        rw [rel.i u u0 u1]
        by_cases e : u = v
        · rw [if_pos e]
          refine (decide_eq_false fun h => ?_).symm
          exact ((lz.has u u0 u1).1 h).2 e
        · rw [if_neg e]
          refine decide_eq_decide.2 ?_
          rw [lz.has u u0 u1]
          exact ⟨fun h => ⟨h, e⟩, fun h => h.1⟩
      · rw [wrap64_of (by omega) (by omega)]; omega
      · rw [lz.score]
        exact t.2.2.2 u u0 u1 ((lz.has u u0 u1).1 u2).1
    refine ⟨_, _, rfl, cnd_f rfl ?_⟩
    refine cnd_f (decide_eq_false (by omega)) ⟨_, _, _, cell_add Q2.hv rfl, cnd_f (decide_eq_false (by omega)) ⟨_, _, _, cell_add Q2.hv rfl, Q2.hr.i.ix false v0 rfl (by omega) fun a e => ⟨_, e, cnd_f ?_ ?_⟩⟩⟩
    · rw [gb_nn v0, hin]; rfl
    have Q3 := Q2.drew
    refine cnd_i (fun s => ?_) (fun s => nxt _ Q3)
    have s : last > 0 := of_decide_eq_true s
    obtain ⟨l1, l2, hl⟩ := hlast.resolve_left (by omega)
    have nb := hl v t.1 t.2.1 t.2.2.1
    rw [← rel.s] at nb
    unfold Bt at nb
    have l0 : 0 ≤ last := by omega
    refine ⟨_, _, _, cell_add Q3.hv rfl, Q3.hr.s.ix 0 l0 rfl (by omega) fun a e => ⟨_, e, _, _, _, cell_add Q3.hv rfl, Q3.hr.s.ix 0 v0 rfl (by omega) fun a e => ⟨_, e, ?_⟩⟩⟩
    rw [g_nn l0, g_nn v0]
    refine cnd_f (decide_eq_false (by omega)) ⟨_, _, _, cell_add Q3.hv rfl, Q3.hr.s.ix 0 l0 rfl (by omega) fun a e => ⟨_, e, _, _, _, cell_add Q3.hv rfl, Q3.hr.s.ix 0 v0 rfl (by omega) fun a e => ⟨_, e, ?_⟩⟩⟩
    rw [g_nn l0, g_nn v0]
    refine cnd_i (fun s2 => cnd_f (decide_eq_false ?_) (nxt _ Q3)) (fun s2 => nxt _ Q3)
    have := beq_iff_eq.1 s2
    omega
  · have h0 : x.l.length = 0 := by omega
    refine (pop_no Q.h h0).mono ?_
    rintro e w64 ⟨rfl, h, g64⟩
    refine ⟨_, _, rfl, cnd_t rfl ((len_ok h).mono ?_)⟩
    rintro e w67 ⟨rfl, g67⟩
    rw [h0]
    exact ⟨_, rfl, cnd_t rfl (awake9' ((Q.G.trans g64).trans g67))⟩

theorem HeapOrders_law (v0 v1 : Value) (W : World) (h0 : RdV W (.int .u8) v0) (h1 : RdV W (.sl (.cons (.int .i64) (.cons (.int .i64) (.cons (.int .i64) .nil)))) v1) : Calls Try.prog fathomlaw09_HeapOrders.id #[v0, v1] W fun e W' => e = .returned (.bool true) ∧ Grow W W' := by
  obtain ⟨n, rfl, hn⟩ := h0
  obtain ⟨p, m, c, f, rfl, ha, hm⟩ := Acts.of_rd h1
  exact HeapOrders_calls (bdU8_of_wf hn) ha hm
end Go.Proofs.Ytamckcamloelbaa.W
