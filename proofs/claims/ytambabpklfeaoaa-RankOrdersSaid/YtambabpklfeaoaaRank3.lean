/- Layer 19: an order's square and clauses. -/
import Derived.Test.YtambabpklfeaoaaRank1
import Derived.Test.YtambabpklfeaoaaRank2
namespace Go.Proofs.Ytambabpklfeaoaa.W
open Go Go.Fw Go.RowKit

theorem New.ow {α : Type} {f : α → Value} {T : TypeId} {w w' : World} {n : Nat} {cs : Array Value} {l : List α} (h : New (.cells cs T) w n w') (hc : cs.toList = l.map f) (hl : l.length ≤ maxLen) : Ow f T w' (some ⟨n, 0, none⟩) l.length l := by
  refine Ow.of_some h.at (Nat.le_refl _) hl ?_ ?_
  · have := congrArg List.length hc; simpa using this
  · rw [hc, List.take_of_length_le (by simp)]

theorem pst_step (n : Nat) : ∀ i a, a < i → pst n a + (n - 1 - a) ≤ pst n i
  | 0, a, h => by omega
  | i + 1, a, h => by
    simp only [pst]
    rcases Nat.lt_or_ge a i with h1 | h1
    · have := pst_step n i a h1; omega
    · have : a = i := by omega
      subst this; omega

theorem pidx_inj {n i j a b : Nat} (h1 : i < j) (h2 : j < n) (h3 : a < b) (h4 : b < n) (e : pidx n a b = pidx n i j) : a = i ∧ b = j := by
  unfold pidx at e
  rcases Nat.lt_trichotomy a i with h | h | h
  · have := pst_step n i a h; omega
  · subst h; omega
  · have := pst_step n a i h; omega

theorem ordM_step {n g0 i j : Nat} (h1 : i < j) (h2 : j < n) (a b : Nat) (ha : a < n) (hb : b < n) :
    (if a = j ∧ b = i then 2 * ((g0 + pidx n i j + 1 : Nat) : Int) + 1 else if a = i ∧ b = j then 2 * ((g0 + pidx n i j + 1 : Nat) : Int) else ordM n g0 (pidx n i j) a b) = ordM n g0 (pidx n i j + 1) a b := by
  unfold ordM
  by_cases e1 : a = j ∧ b = i
  · obtain ⟨rfl, rfl⟩ := e1
    rw [if_pos ⟨rfl, rfl⟩, if_neg (by omega), if_pos h1, if_pos (by omega)]
  · rw [if_neg e1]
    by_cases e2 : a = i ∧ b = j
    · obtain ⟨rfl, rfl⟩ := e2
      rw [if_pos ⟨rfl, rfl⟩, if_pos h1, if_pos (by omega)]
    · rw [if_neg e2]
      by_cases c1 : a < b
      · rw [if_pos c1, if_pos c1]
        have : pidx n a b ≠ pidx n i j := fun e => e2 (pidx_inj h1 h2 c1 hb e)
        by_cases c2 : pidx n a b < pidx n i j
        · rw [if_pos c2, if_pos (by omega)]
        · rw [if_neg c2, if_neg (by omega)]
      · rw [if_neg c1, if_neg c1]
        by_cases c3 : b < a
        · rw [if_pos c3, if_pos c3]
          have : pidx n b a ≠ pidx n i j := fun e => e1 (by have := pidx_inj h1 h2 c3 ha e; omega)
          by_cases c2 : pidx n b a < pidx n i j
          · rw [if_pos c2, if_pos (by omega)]
          · rw [if_neg c2, if_neg (by omega)]
        · rw [if_neg c3, if_neg c3]

theorem pidx_lt {n i j : Nat} (h1 : i < j) (h2 : j < n) : pidx n i j < pst n n := by
  have := pst_step n n i (by omega)
  unfold pidx; omega

theorem ordM_bd {n g0 t : Nat} (a b : Nat) : 0 ≤ ordM n g0 t a b ∧ ordM n g0 t a b ≤ 2 * ((g0 + t : Nat) : Int) + 1 := by
  unfold ordM
  split
  · split <;> omega
  · split
    · split <;> omega
    · omega

/-- An order has been begun: so many pairs are done. -/
structure OSt (w0 : World) (b : Nat) (x : AG) (n : Nat) (p : Option Addr) (c : Nat) (hs : List Sl) (t : Nat) (w : World) (y : AG) (rows : List (List Int)) : Prop where
  a : ARep w b y
  g : y.g = x.g ++ List.replicate t (-1, -1)
  o : Own2 (Value.int .i64) ty_sl_int ty_int w p c hs rows
  m : rowsAre n rows (ordM n x.g.length t)
  d : ∀ k, foot2 p hs k → ¬ y.foot b k ∧ w0.heap.size ≤ k
  f : ∀ k, y.foot b k → x.foot b k ∨ w0.heap.size ≤ k
  M : Mod (x.foot b) w0 w
  bm : y.bm = x.bm

theorem OSt.grow {w0 w w' : World} {b : Nat} {x y : AG} {n : Nat} {p : Option Addr} {c : Nat} {hs : List Sl} {t : Nat} {rows : List (List Int)} (h : OSt w0 b x n p c hs t w y rows) (g : Grow w w') : OSt w0 b x n p c hs t w' y rows :=
  ⟨h.a.grow g, h.g, h.o.grow g, h.m, h.d, h.f, h.M.grow g, h.bm⟩

/-- One pair. -/
theorem OSt.step {w0 w w1 w2 w3 : World} {b : Nat} {x y z : AG} {n : Nat} {p : Option Addr} {c : Nat} {hs : List Sl} {rows : List (List Int)} {i j : Nat} (h1 : i < j) (h2 : j < n) (h : OSt w0 b x n p c hs (pidx n i j) w y rows)
    (hz : ARep w1 b z) (mz : More w b y z (-1, -1)) (m1 : Mod (y.foot b) w w1) (hn : hs.length = n)
    (o1 : OwI ty_int w2 (hs.getD i Sl.nil).p (hs.getD i Sl.nil).c ((rows.getD i []).set j (2 * ((x.g.length + pidx n i j + 1 : Nat) : Int)))) (m2 : Mod (fun k => blk (hs.getD i Sl.nil).p = some k) w1 w2)
    (o2 : OwI ty_int w3 (hs.getD j Sl.nil).p (hs.getD j Sl.nil).c (((rows.set i ((rows.getD i []).set j (2 * ((x.g.length + pidx n i j + 1 : Nat) : Int)))).getD j []).set i (2 * ((x.g.length + pidx n i j + 1 : Nat) : Int) + 1))) (m3 : Mod (fun k => blk (hs.getD j Sl.nil).p = some k) w2 w3) :
    ∃ rows', OSt w0 b x n p c hs (pidx n i j + 1) w3 z rows' := by
  have hr := h.m.1
  have mem : ∀ i, i < n → hs.getD i Sl.nil ∈ hs := fun i hi => by
    have : i < hs.length := by omega
    simp [List.getD, this]
  have fi : ∀ k, blk (hs.getD i Sl.nil).p = some k → foot2 p hs k := fun k hk => .inr ⟨_, mem i (by omega), hk⟩
  have fj : ∀ k, blk (hs.getD j Sl.nil).p = some k → foot2 p hs k := fun k hk => .inr ⟨_, mem j h2, hk⟩
  have lt := h.o.lt
  have zf : ∀ k, foot2 p hs k → ¬ z.foot b k := fun k hk e => by
    rcases mz.foot k e with e | e
    · exact (h.d k hk).1 e
    · have := lt k hk; omega
  have q1 := h.o.keep m1 fun k hk e => (h.d k hk).1 e
  have q2 := q1.set (by omega) (by simp) o1 m2
  have q3 := q2.set (by rw [List.length_set]; omega) (by simp) o2 m3
  refine ⟨_, (hz.keep m2 fun k hk e => zf k (fi k e) hk).keep m3 fun k hk e => zf k (fj k e) hk, ?_, q3, ?_, fun k hk => ⟨zf k hk, (h.d k hk).2⟩, fun k hk => ?_, ?_, mz.bm.trans h.bm⟩
  · rw [mz.g, h.g, List.append_assoc, ← List.replicate_succ']
  · have r1 := h.m.set (i := i) (j := j) (by omega) h2 (2 * ((x.g.length + pidx n i j + 1 : Nat) : Int))
    have r2 := r1.set (i := j) (j := i) h2 (by omega) (2 * ((x.g.length + pidx n i j + 1 : Nat) : Int) + 1)
    refine ⟨r2.1, fun a ha => ⟨(r2.2 a ha).1, fun b hb => ?_⟩⟩
    rw [(r2.2 a ha).2 b hb]
    exact ordM_step h1 h2 a b ha hb
  · rcases mz.foot k hk with e | e
    · exact h.f k e
    · right; have := h.M.size; omega
  · refine ((h.M.then m1 fun k hk e => ?_).then m2 fun k hk e => ?_).then m3 fun k hk e => ?_
    · exact (h.f k e).resolve_right (by omega)
    · have := (h.d k (fi k e)).2; omega
    · have := (h.d k (fj k e)).2; omega
end Go.Proofs.Ytambabpklfeaoaa.W
