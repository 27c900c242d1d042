/- Layer 9: nobody's heap, and the law of new ones. -/
import Derived.Test.YtamckcamloelbaaHeap3
import Derived.Test.YtamckcamloelbaaFwRead
namespace Go.Proofs.Ytamckcamloelbaa.W
open Go Go.Fw Go.RowKit Go.HeapP

def x0 : HS := ⟨none, 0, none, 0, none, 0, [], [], [], 0⟩

/-- Nobody's heap. -/
def NRep (w : World) (z : Option Addr) : Prop := z = none ∨ ∃ b, z = some ⟨b, 0, none⟩ ∧ HRep w b x0
theorem NRep.grow {w w' : World} {z : Option Addr} (h : NRep w z) (g : Grow w w') : NRep w' z := h.imp id fun ⟨b, e, h⟩ => ⟨b, e, h.grow g⟩

theorem len_nil {w : World} {z : Option Addr} (h : NRep w z) : Calls Try.prog heap_Heap_Len.id #[.pointer z] w fun e w' => e = .returned (.int .i64 0) ∧ Grow w w' := by
  rcases h with rfl | ⟨b, rfl, h⟩
  · exact heap_Heap_Len.calls (cnd_t rfl ⟨rfl, Mod.refl w⟩)
  · exact len_ok h
theorem step_nil {w : World} {z : Option Addr} (h : NRep w z) : Calls Try.prog heap_Heap_Step.id #[.pointer z] w fun e w' => e = .returned (.int .i64 0) ∧ Grow w w' := by
  rcases h with rfl | ⟨b, rfl, h⟩
  · exact heap_Heap_Step.calls (cnd_t rfl ⟨rfl, Mod.refl w⟩)
  · exact step_ok h
theorem is_nil {w : World} {z : Option Addr} (h : NRep w z) (v : Int) : Calls Try.prog heap_Heap_is.id #[.pointer z, .int .i64 v] w fun e w' => e = .returned (.bool false) ∧ Grow w w' := by
  rcases h with rfl | ⟨b, rfl, h⟩
  · exact heap_Heap_is.calls (cnd_f rfl ⟨rfl, Mod.refl w⟩)
  · refine (is_ok h v).mono fun e w' ⟨he, g⟩ => ⟨?_, g⟩
    have : ¬ (1 ≤ v ∧ v < (x0.at_.length : Int)) := by show ¬ (1 ≤ v ∧ v < 0); omega
    rw [he, decide_eq_false this]
theorem has_nil {w : World} {z : Option Addr} (h : NRep w z) (v : Int) : Calls Try.prog heap_Heap_Has.id #[.pointer z, .int .i64 v] w fun e w' => e = .returned (.bool false) ∧ Grow w w' := by
  refine heap_Heap_Has.calls ?_
  refine (is_nil h v).mono ?_
  rintro e w1 ⟨rfl, g1⟩
  exact ⟨_, rfl, cnd_f rfl ⟨rfl, g1⟩⟩
theorem score_nil {w : World} {z : Option Addr} (h : NRep w z) (v : Int) : Calls Try.prog heap_Heap_Score.id #[.pointer z, .int .i64 v] w fun e w' => e = .returned (.int .i64 0) ∧ Grow w w' := by
  refine heap_Heap_Score.calls ?_
  refine (is_nil h v).mono ?_
  rintro e w1 ⟨rfl, g1⟩
  exact ⟨_, rfl, cnd_t rfl ⟨rfl, g1⟩⟩
theorem push_nil {w : World} {z : Option Addr} (h : NRep w z) (v : Int) : Calls Try.prog heap_Heap_Push.id #[.pointer z, .int .i64 v] w fun e w' => e = .returned (.int .i64 1) ∧ Grow w w' := by
  refine heap_Heap_Push.calls ?_
  refine (is_nil h v).mono ?_
  rintro e w1 ⟨rfl, g1⟩
  exact ⟨_, rfl, cnd_t rfl ⟨rfl, g1⟩⟩
theorem bump_nil {w : World} {z : Option Addr} (h : NRep w z) (v : Int) : Calls Try.prog heap_Heap_Bump.id #[.pointer z, .int .i64 v] w fun e w' => e = .returned (.int .i64 1) ∧ Grow w w' := by
  refine heap_Heap_Bump.calls ?_
  refine (is_nil h v).mono ?_
  rintro e w1 ⟨rfl, g1⟩
  exact ⟨_, rfl, cnd_t rfl ⟨rfl, g1⟩⟩
theorem best_nil {w : World} {z : Option Addr} (h : NRep w z) : Calls Try.prog heap_Heap_Best.id #[.pointer z] w fun e w' => e = .returned (.tuple #[.int .i64 0, .bool false]) ∧ Grow w w' := by
  refine heap_Heap_Best.calls ?_
  refine (len_nil h).mono ?_
  rintro e w1 ⟨rfl, g1⟩
  exact ⟨_, rfl, cnd_t rfl ⟨rfl, g1⟩⟩
theorem pop_nil {w : World} {z : Option Addr} (h : NRep w z) : Calls Try.prog heap_Heap_Pop.id #[.pointer z] w fun e w' => e = .returned (.tuple #[.int .i64 0, .bool false]) ∧ Grow w w' := by
  refine heap_Heap_Pop.calls ?_
  refine (best_nil h).mono ?_
  rintro e w1 ⟨rfl, g1⟩
  exact ⟨_, _, rfl, cnd_t rfl ⟨rfl, g1⟩⟩
theorem decay_nil {w : World} {z : Option Addr} (h : NRep w z) : Calls Try.prog heap_Heap_Decay.id #[.pointer z] w fun e w' => e = .returned (.tuple #[]) ∧ Grow w w' := by
  refine heap_Heap_Decay.calls ?_
  rcases h with rfl | ⟨b, rfl, h⟩
  · exact cnd_t rfl ⟨rfl, Mod.refl w⟩
  · exact cnd_f rfl ⟨_, rfl, _, _, _, cell_add h.me rfl, cnd_t rfl ⟨rfl, Mod.refl w⟩⟩

/-- Who is first is in it, and none that is in it is better. -/
theorem HGood.best {x : HS} {N : Int} (h : HGood x N) (h0 : x.l.length ≠ 0) : 1 ≤ g x.l 0 ∧ g x.l 0 ≤ N ∧ 0 < g x.at_ (g x.l 0) ∧ ∀ u, 1 ≤ u → u ≤ N → 0 < g x.at_ u → ¬ Bt (g x.score) u (g x.l 0) := by
  have f := h.ok.pos.fit 0 (Int.le_refl _) (by omega)
  refine ⟨f.1, f.2.1, by omega, fun u u1 u2 u3 => ?_⟩
  have bk := h.ok.pos.back u u1 u2
  have := Ord.best h.ord (g x.at_ u - 1).toNat (by omega)
  rw [Int.toNat_of_nonneg (by omega), bk.2.2 u3] at this
  exact this

theorem awake9 {w0 w : World} (G : Grow w0 w) : Calls Try.prog fathomlaw09_awake.id #[] w fun e w' => e = .returned (.bool true) ∧ Grow w0 w' := by
  refine fathomlaw09_awake.calls ?_
  refine (new_ok 3 (by omega)).mono ?_
  rintro e w1 ⟨b, x, rfl, h, f, hf, g1⟩
  have gd := f.good (by omega)
  refine ⟨_, _, rfl, cnd_f rfl (cnd_f rfl ?_)⟩
  refine (bump_ok h gd 2).mono ?_
  rintro e w4 ⟨rfl, y, hy, gy, ly, my⟩
  have s2 : g x.score 2 = 0 := by rw [f.s, g_rep]
  rw [if_pos (by decide)] at ly
  rw [s2, f.st, if_neg (by decide)] at ly
  have G4 : Grow w w4 := g1.then my fun k hk e => by have := hf k e; omega
  refine ⟨_, rfl, cnd_f rfl ?_⟩
  have yl : y.l.length = 3 := by rw [ly.l]; exact f.l
  have yf : y.foot b = x.foot b := by rw [ly.foot b]; rfl
  have ys : g y.score = fun j => if j = 2 then 64 else g x.score j := by
    rw [show y.score = x.score.set (2 : Int).toNat (0 + 64) from ly.score, g_set (by decide) (by rw [f.s]; decide)]
    rfl
  have yS : ∀ u, u ≠ 2 → g y.score u = 0 := by intro u hu; rw [ys]; simp only [hu, if_false]; rw [f.s, g_rep]
  have yS2 : g y.score 2 = 64 := by rw [ys]; rfl
  have yin : ∀ u, 1 ≤ u → u ≤ 3 → 0 < g y.at_ u := by
    intro u u1 u2
    refine (ly.has u u1 u2).2 ?_
    show 0 < g x.at_ u
    rw [f.au u (by omega) u2]
    rw [if_pos (show u ≤ ((3 : Nat) : Int) from u2)]; omega
  have hb := gy.best (by omega)
  have b1 : g y.l 0 = 2 := by
    have := hb.2.2.2 2 (by omega) (by omega) (yin 2 (by omega) (by omega))
    rcases Int.lt_trichotomy (g y.l 0) 2 with h | h | h
    · rw [Bt, yS2, yS (g y.l 0) (by omega)] at this; omega
    · exact h
    · rw [Bt, yS2, yS (g y.l 0) (by omega)] at this; omega
  refine (pop_ok hy gy (by omega)).mono ?_
  rintro e w6 ⟨rfl, z, hz, gz, lz, zl, mz, zf⟩
  have G6 : Grow w w6 := G4.then mz fun k hk e => by have := hf k (yf ▸ e); omega
  refine ⟨_, _, rfl, ?_⟩
  have hc := gz.best (by omega)
  have zs : z.score = y.score := lz.score
  have b2 : g z.l 0 = 1 := by
    have in1 : 0 < g z.at_ 1 := (lz.has 1 (by omega) (by omega)).2 ⟨yin 1 (by omega) (by omega), by omega⟩
    have := hc.2.2.2 1 (by omega) (by omega) in1
    have h2 : g z.l 0 ≠ 2 := by
      have := ((lz.has (g z.l 0) hc.1 hc.2.1).1 hc.2.2.1).2
      rw [b1] at this; exact this
    rw [Bt, zs, yS 1 (by omega), yS (g z.l 0) h2] at this
    omega
  refine (pop_ok hz gz (by omega)).mono ?_
  rintro e w9 ⟨rfl, q, hq, gq, lq, ql, mq, qf⟩
  have G9 : Grow w w9 := G6.then mq fun k hk e => by have := hf k (by rw [← yf, ← zf]; exact e); omega
  rw [b1, b2]
  refine ⟨_, _, rfl, cnd_t rfl (cnd_t rfl ?_)⟩
  refine (len_ok hq).mono ?_
  rintro e w12 ⟨rfl, g12⟩
  refine ⟨_, rfl, ?_, G.trans (G9.trans g12)⟩
  have : (q.l.length : Int) = 1 := by omega
  rw [this]; rfl

theorem awake9' {w0 w : World} (G : Grow w0 w) : Calls Try.prog fathomlaw09_awake.id #[] w fun e w' => ∃ b : Bool, e = .returned (.bool b) ∧ (Ending.returned (.bool b) = .returned (.bool true) ∧ Grow w0 w') :=
  (awake9 G).mono fun _ _ ⟨he, hw⟩ => ⟨true, he, rfl, hw⟩

theorem HeapNew_calls (n v : Int) (w : World) : Calls Try.prog fathomlaw09_HeapNew.id #[.int .i64 n, .int .i64 v] w fun e w' => e = .returned (.bool true) ∧ Grow w w' := by
  refine fathomlaw09_HeapNew.calls ?_
  refine ⟨fun m w' => w' = w ∧ (m ≤ 5000 ∨ 1048576 < m), ?_, ?_⟩
  · refine cnd_i (fun t => cnd_i (fun t2 => ⟨rfl, .inl (by omega)⟩) (fun t2 => ⟨rfl, .inr ?_⟩)) (fun t => ⟨rfl, .inl ?_⟩)
    · simpa using t2
    · simpa using t
  rintro n w3 _ ⟨rfl, hn⟩
  have nw : Calls Try.prog heap_New.id #[.int .i64 n] w3 fun e w' => Grow w3 w' ∧ ((n < 0 ∨ 1048576 < n) ∧ e = .returned (.tuple #[.pointer none, .int .i64 1]) ∨ 0 ≤ n ∧ n ≤ 1048576 ∧ ∃ b x, e = .returned (.tuple #[ptr b, .int .i64 0]) ∧ HRep w' b x ∧ Fresh x n.toNat n.toNat) := by
    by_cases h : n < 0 ∨ 1048576 < n
    · exact (new_bad n h).mono fun e w' ⟨he, g⟩ => ⟨g, .inl ⟨h, he⟩⟩
    · obtain ⟨m, rfl⟩ : ∃ m : Nat, n = m := ⟨n.toNat, by omega⟩
      exact (new_ok m (by omega)).mono fun e w' ⟨b, x, he, h1, h2, _, g⟩ => ⟨g, .inr ⟨by omega, by omega, b, x, he, h1, by simpa using h2⟩⟩
  refine nw.mono ?_
  rintro e w4 ⟨g4, hr⟩
  have J : ∃ (r5 : Option Addr) (r6 : Int), e = .returned (.tuple #[.pointer r5, .int .i64 r6]) := by
    rcases hr with ⟨_, rfl⟩ | ⟨_, _, b, x, rfl, _⟩
    · exact ⟨_, _, rfl⟩
    · exact ⟨_, _, rfl⟩
  obtain ⟨r5, r6, rfl⟩ := J
  refine ⟨_, _, rfl, fun w' => Grow w3 w', ?_, ?_⟩
  · rcases hr with ⟨hbad, he⟩ | ⟨h0, h1, b, x, he, h, f⟩
    · cases he
      refine cnd_i (fun t => cnd_f rfl (cnd_f rfl g4)) (fun t => cnd_i (fun t2 => cnd_f rfl (cnd_f rfl g4)) (fun t2 => ?_))
      simp only [decide_eq_false_iff_not] at t t2
      omega
    · cases he
      refine cnd_f (decide_eq_false (by omega)) (cnd_f (decide_eq_false (by omega)) (cnd_f rfl (cnd_f rfl ?_)))
      refine (len_ok h).mono ?_
      rintro e w8 ⟨rfl, g8⟩
      have hl : (x.l.length : Int) = n := by rw [f.l]; omega
      rw [hl]
      refine ⟨_, rfl, cnd_f (by simp) ?_⟩
      have h := h.grow g8
      refine (step_ok h).mono ?_
      rintro e w10 ⟨rfl, g10⟩
      rw [f.st]
      refine ⟨_, rfl, cnd_f rfl ?_⟩
      refine (has_ok (h.grow g10) v).mono ?_
      rintro e w12 ⟨rfl, g12⟩
      have G := ((g4.trans g8).trans g10).trans g12
      have hal := f.a
      refine ⟨_, rfl, cnd_i (fun t => cnd_f ?_ G) (fun t => cnd_f ?_ G)⟩ <;> simp only [decide_eq_true_eq, decide_eq_false_iff_not, ge_iff_le] at t
      · by_cases hv : v ≤ n
        · have : 1 ≤ v ∧ v < (x.at_.length : Int) ∧ 0 < g x.at_ v := ⟨t, by omega, by rw [f.au v (by omega) (by omega), if_pos (by omega)]; omega⟩
          simp [this, hv]
        · have : ¬ (1 ≤ v ∧ v < (x.at_.length : Int) ∧ 0 < g x.at_ v) := by omega
          simp [this, hv]
      · have : ¬ (1 ≤ v ∧ v < (x.at_.length : Int) ∧ 0 < g x.at_ v) := by omega
        simp [this]
  · intro w14 _ G
    refine ⟨fun k w' m => 0 ≤ k ∧ k ≤ 2 ∧ m = (2 - k).toNat ∧ Grow w3 w', ⟨2, by omega, by omega, rfl, G⟩, ?_⟩
    rintro k w19 m _ ⟨k0, k1, hm, G⟩
    refine cnd_i (fun t => ?_) (fun t => awake9' G)
    simp only [decide_eq_true_eq] at t
    refine ⟨fun z w' => NRep w' z ∧ Grow w3 w', cnd_i (fun t2 => ?_) (fun t2 => ⟨.inl rfl, G⟩), ?_⟩
    · intro n21 w22 hn
      exact ⟨.inr ⟨n21, rfl, ⟨hn.has, Ow.nil _ _ _, Ow.nil _ _ _, Ow.nil _ _ _, by simp [blk, x0], by simp [blk, x0], by simp [blk, x0], by simp [blk, x0], by simp [blk, x0], by simp [blk, x0]⟩⟩, G.trans hn.mod⟩
    rintro z w24 _ ⟨h, G⟩
    refine (decay_nil h).mono ?_
    rintro e w25 ⟨rfl, g⟩
    refine ⟨rfl, ?_⟩
    replace h := h.grow g
    replace G := G.trans g
    clear g
    refine (best_nil h).mono ?_
    rintro e w26 ⟨rfl, g⟩
    replace h := h.grow g
    replace G := G.trans g
    clear g
    refine ⟨_, _, rfl, (pop_nil h).mono ?_⟩
    rintro e w29 ⟨rfl, g⟩
    replace h := h.grow g
    replace G := G.trans g
    clear g
    refine ⟨_, _, rfl, cnd_f rfl (cnd_f rfl (cnd_f rfl (cnd_f rfl ((push_nil h v).mono ?_))))⟩
    rintro e w32 ⟨rfl, g⟩
    replace h := h.grow g
    replace G := G.trans g
    clear g
    refine ⟨_, rfl, cnd_f rfl ((bump_nil h v).mono ?_)⟩
    rintro e w34 ⟨rfl, g⟩
    replace h := h.grow g
    replace G := G.trans g
    clear g
    refine ⟨_, rfl, cnd_f rfl ((has_nil h v).mono ?_)⟩
    rintro e w36 ⟨rfl, g⟩
    replace h := h.grow g
    replace G := G.trans g
    clear g
    refine ⟨_, rfl, cnd_f rfl ((score_nil h v).mono ?_)⟩
    rintro e w38 ⟨rfl, g⟩
    replace h := h.grow g
    replace G := G.trans g
    clear g
    refine ⟨_, rfl, cnd_f rfl ((step_nil h).mono ?_)⟩
    rintro e w40 ⟨rfl, g⟩
    replace h := h.grow g
    replace G := G.trans g
    clear g
    refine ⟨_, rfl, cnd_f rfl ((len_nil h).mono ?_)⟩
    rintro e w42 ⟨rfl, g⟩
    refine ⟨_, rfl, cnd_f rfl ⟨(2 - (k + 1)).toNat, by omega, ?_, ?_, ?_, G.trans g⟩⟩
    · rw [wrap64_of (by omega) (by omega)]; omega
    · rw [wrap64_of (by omega) (by omega)]; omega
    · rw [wrap64_of (by omega) (by omega)]

theorem HeapNew_law (v0 v1 : Value) (W : World) (h0 : RdV W (.int .i64) v0) (h1 : RdV W (.int .i64) v1) : Calls Try.prog fathomlaw09_HeapNew.id #[v0, v1] W fun e W' => e = .returned (.bool true) ∧ Grow W W' := by
  obtain ⟨n, rfl, _⟩ := h0
  obtain ⟨v, rfl, _⟩ := h1
  exact HeapNew_calls n v W
end Go.Proofs.Ytamckcamloelbaa.W
