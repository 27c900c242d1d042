/- Layers 15 and 18: what nodes are by inputs, plain. -/
import Derived.Test.YtambabpklfeaoaaTsPure
namespace Go.TsP

/-- How many of the first nodes are inputs. -/
def cntIn (g : List Gt) : Nat → Nat
  | 0 => 0
  | t + 1 => cntIn g t + (if (g.getD t (0, 0)).1 < 0 then 1 else 0)
theorem cntIn_succ (g : List Gt) (t : Nat) : cntIn g (t + 1) = cntIn g t + (if (g.getD t (0, 0)).1 < 0 then 1 else 0) := rfl
theorem cntIn_le (g : List Gt) : ∀ t, cntIn g t ≤ t
  | 0 => Nat.le_refl _
  | t + 1 => by have := cntIn_le g t; rw [cntIn_succ]; split <;> omega
theorem cntIn_mono (g : List Gt) {a b : Nat} (h : a ≤ b) : cntIn g a ≤ cntIn g b := by
  induction h with
  | refl => exact Nat.le_refl _
  | step _ ih => exact Nat.le_trans ih (by rw [cntIn_succ]; omega)
/-- A literal's value, of nodes' values. -/
def evalL (v : List Bool) (l : Int) : Bool := if l < 2 then l == 1 else !(v.getD (l / 2 - 1).toNat false == (l % 2 == 1))
def nodeV (g : List Gt) (ins : List Bool) (v : List Bool) (i : Nat) : Bool :=
  if 0 ≤ (g.getD i (0, 0)).1 then evalL v (g.getD i (0, 0)).1 && evalL v (g.getD i (0, 0)).2 else ins.getD (cntIn g i) false
/-- The values of the first nodes. -/
def vals (g : List Gt) (ins : List Bool) : Nat → List Bool
  | 0 => []
  | t + 1 => vals g ins t ++ [nodeV g ins (vals g ins t) t]
theorem vals_succ (g : List Gt) (ins : List Bool) (t : Nat) : vals g ins (t + 1) = vals g ins t ++ [nodeV g ins (vals g ins t) t] := rfl
theorem vals_len (g : List Gt) (ins : List Bool) : ∀ t, (vals g ins t).length = t
  | 0 => rfl
  | t + 1 => by rw [vals_succ, List.length_append, vals_len g ins t]; rfl
theorem vals_get (g : List Gt) (ins : List Bool) {i : Nat} : ∀ {t : Nat}, i < t → (vals g ins t).getD i false = nodeV g ins (vals g ins i) i
  | 0, h => by omega
  | t + 1, h => by
    rw [vals_succ]
    simp only [List.getD_eq_getElem?_getD]
    by_cases e : i = t
    · subst e
      rw [List.getElem?_append_right (by rw [vals_len]; exact Nat.le_refl _), vals_len, Nat.sub_self]; rfl
    · rw [List.getElem?_append_left (by rw [vals_len]; omega)]
      have := vals_get g ins (i := i) (t := t) (by omega)
      rw [List.getD_eq_getElem?_getD] at this
      exact this
theorem evalL_vals (g : List Gt) (ins : List Bool) {t n : Nat} {l : Int} (h : t ≤ n) (hl : l ≤ 2 * t + 1) : evalL (vals g ins t) l = evalL (vals g ins n) l := by
  unfold evalL
  split
  · rfl
  · rw [vals_get g ins (show (l / 2 - 1).toNat < t by omega), vals_get g ins (show (l / 2 - 1).toNat < n by omega)]
/-- Is a literal, by inputs? -/
def truth (g : List Gt) (ins : List Bool) (l : Int) : Bool := evalL (vals g ins g.length) l
theorem truth_lt {g : List Gt} {ins : List Bool} {l : Int} (h : l < 2) : truth g ins l = (l == 1) := by unfold truth evalL; rw [if_pos h]
theorem truth_node {g : List Gt} {ins : List Bool} (hm : mayG g = true) {i : Nat} (hi : i < g.length) {l : Int} (hl : l / 2 = i + 1) (h2 : 2 ≤ l) :
    truth g ins l = !((if 0 ≤ (g.getD i (0, 0)).1 then truth g ins (g.getD i (0, 0)).1 && truth g ins (g.getD i (0, 0)).2 else ins.getD (cntIn g i) false) == (l % 2 == 1)) := by
  conv => lhs; unfold truth evalL
  rw [if_neg (by omega), show (l / 2 - 1).toNat = i by omega, vals_get g ins hi]
  congr 2
  unfold nodeV
  split
  · rename_i h0
    have hb := okG_and (mayG_at hm hi) h0
    rw [evalL_vals g ins (Nat.le_of_lt hi) (by omega), evalL_vals g ins (Nat.le_of_lt hi) (by omega)]
    rfl
  · rfl
def askedP (g : List Gt) (cs : List (List Int)) (ins : List Bool) : Bool := cs.all fun c => c.any (truth g ins)
end Go.TsP
