/- Layers 15 and 18: rows of gates, looked at. -/
import Derived.Test.YtambabpklfeaoaaAig0
import Derived.Test.YtambabpklfeaoaaLitF
import Derived.Test.YtambabpklfeaoaaFwMore
import Derived.Test.YtambabpklfeaoaaFwEq
import Derived.Test.YtambabpklfeaoaaPureA
namespace Go.Proofs.Ytambabpklfeaoaa.W
open Go Go.Fw Go.RowKit Go.TsP

theorem gate_eq : structInts Try.prog ty_api_Gate 2 = true := by kernel_rfl

theorem gIx {w : World} {p : Option Addr} {g : List (Int × Int)} (h : Vr 2 gateV w p g) {t n : Nat} (hn : n = g.length) (ht : t < g.length) {K : Addr → Prop} (hk : ∀ a, w.cell? (a.add 0) = some (.int .i64 (g.getD t (0, 0)).1) → w.cell? (a.add 1) = some (.int .i64 (g.getD t (0, 0)).2) → K a) : ixK p n (t : Int) 2 K :=
  h.ix (0, 0) (by omega) hn (by omega) fun a e => by
    rw [Int.toNat_natCast] at e
    exact hk a e.1 e.2.1

theorem all_range_succ {q : Nat → Bool} {t : Nat} (h : (List.range t).all q = true) (hq : q t = true) : (List.range (t + 1)).all q = true := by
  rw [List.range_succ, List.all_append, h]; simp [hq]

theorem all_take_succ {α : Type} {l : List α} {q : α → Bool} {t : Nat} {d : α} (ht : t < l.length) (h : (l.take t).all q = true) (hq : q (l.getD t d) = true) : (l.take (t + 1)).all q = true := by
  rw [List.take_add_one, List.all_append, h]
  have : l[t]? = some (l.getD t d) := by simp [List.getD, ht]
  simp only [this, Option.toList_some, List.all_cons, List.all_nil, hq, Bool.and_true]
theorem all_false {α : Type} {l : List α} {q : α → Bool} {t : Nat} {d : α} (ht : t < l.length) (hq : q (l.getD t d) = false) : l.all q = false := by
  rw [← Bool.not_eq_true, List.all_eq_true]
  intro h
  rw [h _ (by simp [List.getD, ht])] at hq; cases hq

end Go.Proofs.Ytambabpklfeaoaa.W
