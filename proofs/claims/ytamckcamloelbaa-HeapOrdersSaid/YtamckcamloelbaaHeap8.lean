/- Layer 9: what acts leave. -/
import Derived.Test.YtamckcamloelbaaHeap7
namespace Go.Proofs.Ytamckcamloelbaa.W
open Go Go.Fw Go.RowKit Go.HeapP

theorem Rel.lk {x z : HS} {N : Nat} {r : RS} (h : Rel x N r) (l : Lk N x z) : Rel z N r :=
  ⟨h.n, h.s.trans l.score.symm, h.st.trans l.step.symm, fun u u0 u1 => by rw [h.i u u0 u1]; exact decide_eq_decide.2 (l.has u u0 u1).symm⟩

theorem must_iff (r : RS) : r.must = true ↔ top < r.step ∨ ∃ t : Nat, t < r.rs.length ∧ top < g r.rs t := by
  unfold RS.must
  rw [Bool.or_eq_true, List.any_eq_true]
  constructor
  · rintro (h | ⟨v, hv, h⟩)
    · left; exact of_decide_eq_true h
    · right
      obtain ⟨t, ht⟩ := List.getElem?_of_mem hv
      have hl := (List.getElem?_eq_some_iff.1 ht).1
      refine ⟨t, hl, ?_⟩
      rw [← g_nat, List.getD_eq_getElem?_getD, ht]
      exact of_decide_eq_true h
  · rintro (h | ⟨t, hl, h⟩)
    · left; exact decide_eq_true h
    · right
      refine ⟨r.rs[t], List.getElem_mem hl, ?_⟩
      rw [← g_nat, List.getD_eq_getElem?_getD, List.getElem?_eq_getElem hl] at h
      exact decide_eq_true h

/-- What a play has at hand. -/
structure PInv (w0 : World) (b n1 n7 N : Nat) (w : World) (x : HS) (r : RS) : Prop where
  h : HRep w b x
  gd : HGood x N
  hr : RRep w r
  hv : Has w n7 r.row
  ho : Has w n1 #[.slice none 0 0, .slice none 0 0, .int .i64 0]
  dx : ∀ k, x.foot b k → ¬ r.foot k ∧ k ≠ n7 ∧ k ≠ n1 ∧ w0.heap.size ≤ k
  dr : ∀ k, r.foot k → k ≠ n7 ∧ k ≠ n1
  n71 : n7 ≠ n1
  f7 : w0.heap.size ≤ n7
  f1 : w0.heap.size ≤ n1
  G : Grow w0 w

variable {w0 w w' : World} {b n1 n7 N : Nat} {x z : HS} {r r' : RS}

theorem PInv.grow (p : PInv w0 b n1 n7 N w x r) (g : Grow w w') : PInv w0 b n1 n7 N w' x r :=
  ⟨p.h.grow g, p.gd, p.hr.grow g, p.hv.grow g, p.ho.grow g, p.dx, p.dr, p.n71, p.f7, p.f1, p.G.trans g⟩
theorem PInv.drew (p : PInv w0 b n1 n7 N w x r) : PInv w0 b n1 n7 N w.drew x r := p.grow (Mod.refl w).drew

theorem PInv.heap (p : PInv w0 b n1 n7 N w x r) (h : HRep w' b z) (gd : HGood z N) (m : Mod (x.foot b) w w') (f : ∀ k, z.foot b k → x.foot b k ∨ w.heap.size ≤ k) : PInv w0 b n1 n7 N w' z r := by
  refine ⟨h, gd, p.hr.keep m fun k hk e => (p.dx k e).1 hk, p.hv.keep m fun e => (p.dx _ e).2.1 rfl, p.ho.keep m fun e => (p.dx _ e).2.2.1 rfl, fun k hk => ?_, p.dr, p.n71, p.f7, p.f1, p.G.then m fun k hk e => by have := (p.dx k e).2.2.2; omega⟩
  rcases f k hk with e | e
  · exact p.dx k e
  · have l7 := p.hv.lt; have l1 := p.ho.lt; have := p.G.size
    exact ⟨fun e2 => by have := p.hr.lt k e2; omega, by omega, by omega, by omega⟩

theorem PInv.ref (p : PInv w0 b n1 n7 N w x r) (g : Grow w w') (hr : RRep w' r') (f : ∀ k, r'.foot k → r.foot k ∨ w.heap.size ≤ k) {w2 : World} (hv : Has w2 n7 r'.row) (m : Mod (· = n7) w' w2) : PInv w0 b n1 n7 N w2 x r' := by
  have q := p.grow g
  have l7 := p.hv.lt; have l1 := p.ho.lt
  have d : ∀ k, r'.foot k → k ≠ n7 ∧ k ≠ n1 := fun k hk => (f k hk).elim (p.dr k) fun e => ⟨by omega, by omega⟩
  refine ⟨q.h.keep m fun k hk e => (p.dx k hk).2.1 e, q.gd, hr.put m fun e => (d _ e).1 rfl, hv, q.ho.put m (Ne.symm p.n71), fun k hk => ⟨fun e => ?_, (p.dx k hk).2⟩, d, p.n71, p.f7, p.f1, q.G.then m fun k hk (e : k = n7) => by have := p.f7; omega⟩
  rcases f k e with e | e
  · exact (p.dx k hk).1 e
  · have := p.h.lt k hk; omega

/-- Acts that stand in a slice. -/
def Acts (w : World) (p : Option Addr) (n : Nat) (f : Nat → Int × Int × Int) : Prop :=
  ∀ i, i < n → ∃ a, p = some a ∧ w.cell? ((a.add (i * 3)).add 0) = some (.int .i64 (f i).1) ∧ w.cell? ((a.add (i * 3)).add 1) = some (.int .i64 (f i).2.1) ∧ w.cell? ((a.add (i * 3)).add 2) = some (.int .i64 (f i).2.2)

theorem Acts.ix {p : Option Addr} {n : Nat} {f : Nat → Int × Int × Int} (h : Acts w p n f) {i : Nat} (hi : i < n) {K : Addr → Prop} (hk : ∀ a, w.cell? (a.add 0) = some (.int .i64 (f i).1) → w.cell? (a.add 1) = some (.int .i64 (f i).2.1) → w.cell? (a.add 2) = some (.int .i64 (f i).2.2) → K a) : ixK p n (i : Int) 3 K := by
  obtain ⟨a, rfl, h1, h2, h3⟩ := h i hi
  refine ⟨a, rfl, by omega, by omega, ?_⟩
  rw [Int.toNat_natCast]
  exact hk _ h1 h2 h3

theorem Acts.of_rd {v : Value} (h : RdV w (.sl (.cons (.int .i64) (.cons (.int .i64) (.cons (.int .i64) .nil)))) v) : ∃ p n c f, v = .slice p n c ∧ Acts w p n f ∧ n ≤ maxLen := by
  rcases h with rfl | ⟨a, len, cap, rfl, h1, h2, h3⟩
  · exact ⟨none, 0, 0, fun _ => (0, 0, 0), rfl, fun i hi => by omega, Nat.zero_le _⟩
  · have : ∀ i, ∃ t : Int × Int × Int, i < len → w.cell? ((a.add (i * 3)).add 0) = some (.int .i64 t.1) ∧ w.cell? ((a.add (i * 3)).add 1) = some (.int .i64 t.2.1) ∧ w.cell? ((a.add (i * 3)).add 2) = some (.int .i64 t.2.2) := by
      intro i
      by_cases hi : i < len
      · obtain ⟨es, _, hc, _, _, rfl, ⟨d, rfl, _⟩, _, _, rfl, ⟨v, rfl, _⟩, _, _, rfl, ⟨m, rfl, _⟩, rfl⟩ := h3 i hi
        exact ⟨(d, v, m), fun _ => ⟨hc.1, hc.2.1, hc.2.2.1⟩⟩
      · exact ⟨(0, 0, 0), fun h => absurd h hi⟩
    refine ⟨some a, len, cap, fun i => Classical.choose (this i), rfl, fun i hi => ⟨a, rfl, Classical.choose_spec (this i) hi⟩, by omega⟩

theorem HGood.small (gd : HGood x N) (rel : Rel x N r) : ∀ t : Nat, t < r.rs.length → 0 ≤ r.rs.getD t 0 ∧ r.rs.getD t 0 ≤ 1099511627776 := by
  intro t ht
  have hns := gd.ok.ns
  rw [rel.s] at ht ⊢
  rw [g_nat]
  exact gd.sc t (by omega) (by omega)

/-- Both decay. -/
theorem decay2 {K : World → Prop} (p : PInv w0 b n1 n7 N w x r) (rel : Rel x N r) (hk : ∀ w' x' r', PInv w0 b n1 n7 N w' x' r' → Rel x' N r' → K w') :
    Calls Try.prog heap_Heap_Decay.id #[ptr b] w fun e w107 => e = .returned (.tuple #[]) ∧ 
      ∃ x108_p : Option Addr, ∃ x108_n : Nat, ∃ x108_c : Nat, ∃ x109_p : Option Addr, ∃ x109_n : Nat, ∃ x109_c : Nat, ∃ x110 : Int, CellsAt w107 (Addr.mk n7 0 none) 0 [.slice x108_p x108_n x108_c, .slice x109_p x109_n x109_c, .int .i64 x110] ∧ 
      Calls Try.prog fathomref09_Decay.id #[.agg #[.slice x108_p x108_n x108_c, .slice x109_p x109_n x109_c, .int .i64 x110]] w107 fun e w111 => ∃ r112_p : Option Addr, ∃ r112_n : Nat, ∃ r112_c : Nat, ∃ r113_p : Option Addr, ∃ r113_n : Nat, ∃ r113_c : Nat, ∃ r114 : Int, e = .returned (.agg #[.slice r112_p r112_n r112_c, .slice r113_p r113_n r113_c, .int .i64 r114]) ∧ 
      ∃ w115 : World, StoreAt (Addr.mk n7 0 none) 0 [.slice r112_p r112_n r112_c, .slice r113_p r113_n r113_c, .int .i64 r114] w111 w115 ∧ K w115 := by
  have gd := p.gd
  have hN := gd.ok.big
  have hns := gd.ok.ns
  have hst := gd.st
  unfold top at hst
  refine (decay_ok p.h gd).mono ?_
  rintro e w1 ⟨rfl, z, hz, gz, lz, mz⟩
  have zf : ∀ k, z.foot b k → x.foot b k ∨ w.heap.size ≤ k := by
    intro k hk
    left
    rw [lz.foot b] at hk
    split at hk <;> exact hk
  have q := p.heap hz gz mz zf
  have sm := gd.small rel
  refine ⟨rfl, _, _, _, _, _, _, _, cells3 q.hv, (refDecay_ok q.hr (by rw [rel.s]; omega) (fun t ht => ⟨(sm t ht).1, by have := (sm t ht).2; omega⟩) (by rw [rel.st]; omega)).mono ?_⟩
  rintro e w2 ⟨r', rfl, sc, hf, g2⟩
  refine ⟨_, _, _, _, _, _, _, rfl, store_i (q.hv.grow g2) rfl rfl fun w3 Hv m => hk w3 z r' (q.ref g2 sc.rep hf Hv m) ?_⟩
  have must : RS.must { r with step := r.step + (r.step / 16 + 1) } = true ↔ top < x.step + (x.step / 16 + 1) := by
    rw [must_iff]
    show (top < r.step + (r.step / 16 + 1) ∨ ∃ t : Nat, t < r.rs.length ∧ top < g r.rs t) ↔ _
    rw [rel.st]
    constructor
    · rintro (h | ⟨t, ht, h⟩)
      · exact h
      · have := (sm t ht).2
        rw [g_nat] at this
        unfold top at h; omega
    · exact .inl
  by_cases hc : top < x.step + (x.step / 16 + 1)
  · rw [if_pos hc] at lz
    have hm := must.2 hc
    refine ⟨by rw [sc.rin]; exact rel.n, ?_, ?_, fun u u0 u1 => ?_⟩
    · rw [sc.rs, if_pos hm]; show r.rs.map f20 = _; rw [rel.s]; exact lz.score.symm
    · rw [sc.step, if_pos hm]; show imax 1 (f20 (r.step + (r.step / 16 + 1))) = _; rw [rel.st]; exact lz.step.symm
    · rw [sc.rin]; show gb r.rin u = _; rw [rel.i u u0 u1]; exact decide_eq_decide.2 (lz.has u u0 u1).symm
  · rw [if_neg hc] at lz
    have hm : ¬ RS.must { r with step := r.step + (r.step / 16 + 1) } = true := fun h => hc (must.1 h)
    refine ⟨by rw [sc.rin]; exact rel.n, ?_, ?_, fun u u0 u1 => ?_⟩
    · rw [sc.rs, if_neg hm]; show r.rs = _; rw [rel.s]; exact lz.score.symm
    · rw [sc.step, if_neg hm]; show r.step + (r.step / 16 + 1) = _; rw [rel.st]; exact lz.step.symm
    · rw [sc.rin]; show gb r.rin u = _; rw [rel.i u u0 u1]; exact decide_eq_decide.2 (lz.has u u0 u1).symm

end Go.Proofs.Ytamckcamloelbaa.W
