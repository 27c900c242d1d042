/- Layer 2: clauses in one row of words, plain. -/
namespace Go.ArP

/-- A clause, and whether it is gone. -/
abbrev It := List Int × Bool
def ws (x : It) : List Int := (x.1.length : Int) :: (if x.2 then 2 else 1) :: x.1
def wds (l : List It) : List Int := l.flatMap ws
/-- Where an item begins. -/
def off (l : List It) (i : Nat) : Nat := (wds (l.take i)).length
/-- Which item is at a place. -/
def At (l : List It) (a : Int) (i : Nat) : Prop := i < l.length ∧ (off l i : Int) = a ∧ (l.getD i ([], true)).2 = false
def plc : List It → Nat → List Int
  | [], _ => []
  | x :: l, n => (if x.2 then [] else [(n : Int)]) ++ plc l (n + (x.1.length + 2))
def wst : List It → Nat
  | [] => 0
  | x :: l => (if x.2 then x.1.length + 2 else 0) + wst l
def liv (l : List It) : List It := l.filter fun x => !x.2

theorem ws_len (x : It) : (ws x).length = x.1.length + 2 := by simp [ws]
theorem wds_nil : wds [] = [] := rfl
theorem wds_cons (x : It) (l : List It) : wds (x :: l) = ws x ++ wds l := by simp [wds]
theorem wds_app (l k : List It) : wds (l ++ k) = wds l ++ wds k := by simp [wds]
theorem off_zero (l : List It) : off l 0 = 0 := by simp [off, wds]
theorem off_len (l : List It) : off l l.length = (wds l).length := by simp [off]
theorem off_next {l : List It} {i : Nat} (h : i < l.length) : off l (i + 1) = off l i + ((l.getD i ([], true)).1.length + 2) := by
  unfold off
  rw [List.take_add_one, wds_app, List.length_append]
  simp [List.getD, h, wds, ws_len]
theorem off_mono {l : List It} {i j : Nat} (h : i ≤ j) (hj : j ≤ l.length) : off l i ≤ off l j := by
  induction h with
  | refl => exact Nat.le_refl _
  | step _ ih =>
    rw [off_next (by omega)]
    have := ih (by omega)
    omega
theorem off_lt {l : List It} {i j : Nat} (h : i < j) (hj : j ≤ l.length) : off l i + ((l.getD i ([], true)).1.length + 2) ≤ off l j := by
  rw [← off_next (by omega)]
  exact off_mono h hj
theorem off_inj {l : List It} {i j : Nat} (hi : i < l.length) (hj : j < l.length) (h : off l i = off l j) : i = j := by
  rcases Nat.lt_trichotomy i j with h1 | h1 | h1
  · have := off_lt (l := l) h1 (by omega); omega
  · exact h1
  · have := off_lt (l := l) h1 (by omega); omega
theorem At.one {l : List It} {a : Int} {i j : Nat} (h : At l a i) (k : At l a j) : i = j := off_inj h.1 k.1 (by have := h.2.1; have := k.2.1; omega)

theorem split_at {l : List It} {i : Nat} (h : i < l.length) : l = l.take i ++ l.getD i ([], true) :: l.drop (i + 1) := by
  have : l.getD i ([], true) = l[i] := by simp [List.getD, h]
  rw [this, ← List.drop_eq_getElem_cons h, List.take_append_drop]
theorem wds_split {l : List It} {i : Nat} (h : i < l.length) : wds l = wds (l.take i) ++ (ws (l.getD i ([], true)) ++ wds (l.drop (i + 1))) := by
  rw [← wds_cons, ← wds_app, ← split_at h]

theorem getD_mid {a b c : List Int} {k : Nat} (h : k < b.length) : (a ++ (b ++ c)).getD (a.length + k) 0 = b.getD k 0 := by
  simp only [List.getD_eq_getElem?_getD]
  rw [List.getElem?_append_right (by omega), List.getElem?_append_left (by omega), Nat.add_sub_cancel_left]
theorem set_mid {a b c : List Int} {k : Nat} (h : k < b.length) (v : Int) : (a ++ (b ++ c)).set (a.length + k) v = a ++ (b.set k v ++ c) := by
  rw [List.set_append, if_neg (by omega), Nat.add_sub_cancel_left, List.set_append, if_pos h]

/-- A word of an item. -/
theorem word {l : List It} {i : Nat} (h : i < l.length) {k : Nat} (hk : k < (l.getD i ([], true)).1.length + 2) : (wds l).getD (off l i + k) 0 = (ws (l.getD i ([], true))).getD k 0 := by
  rw [wds_split h]
  exact getD_mid (by rw [ws_len]; exact hk)
theorem word0 {l : List It} {i : Nat} (h : i < l.length) : (wds l).getD (off l i) 0 = (l.getD i ([], true)).1.length := by
  have := word h (k := 0) (by omega)
  rw [Nat.add_zero] at this
  rw [this]; rfl
theorem word1 {l : List It} {i : Nat} (h : i < l.length) : (wds l).getD (off l i + 1) 0 = if (l.getD i ([], true)).2 then 2 else 1 := by
  rw [word h (by omega)]; rfl
theorem off_end {l : List It} {i : Nat} (h : i < l.length) : off l i + ((l.getD i ([], true)).1.length + 2) ≤ (wds l).length := by
  rw [← off_len]; exact off_lt h (Nat.le_refl _)
theorem At.bd {l : List It} {a : Int} {i : Nat} (h : At l a i) : 0 ≤ a ∧ a + ((l.getD i ([], true)).1.length + 2) ≤ (wds l).length := by
  have := off_end h.1
  have := h.2.1
  omega

/-- The literals of an item. -/
theorem lits_at {l : List It} {i : Nat} (h : i < l.length) : ((wds l).drop (off l i + 2)).take (l.getD i ([], true)).1.length = (l.getD i ([], true)).1 := by
  rw [wds_split h, List.drop_append, List.drop_of_length_le (by unfold off; omega), List.nil_append, show off l i + 2 - (wds (l.take i)).length = 2 by unfold off; omega]
  simp [ws]

theorem off_set {l : List It} {i : Nat} {x : It} (hx : x.1.length = (l.getD i ([], true)).1.length) (hi : i < l.length) : ∀ j, j ≤ l.length → off (l.set i x) j = off l j
  | 0, _ => by rw [off_zero, off_zero]
  | j + 1, hj => by
    rw [off_next (by simp; omega), off_next (by omega), off_set hx hi j (by omega)]
    congr 2
    simp only [List.getD_eq_getElem?_getD, List.getElem?_set]
    by_cases e : i = j
    · subst e
      simp only [List.getD_eq_getElem?_getD] at hx
      simp [hi, hx]
    · rw [if_neg e]
theorem wds_set {l : List It} {i : Nat} (hi : i < l.length) (x : It) : wds (l.set i x) = wds (l.take i) ++ (ws x ++ wds (l.drop (i + 1))) := by
  rw [List.set_eq_take_append_cons_drop, if_pos hi, wds_app, wds_cons]
/-- A word of an item is turned. -/
theorem set_word {l : List It} {i k : Nat} (hi : i < l.length) (hk : k < (l.getD i ([], true)).1.length + 2) {v : Int} {x : It} (hx : (ws (l.getD i ([], true))).set k v = ws x) : (wds l).set (off l i + k) v = wds (l.set i x) := by
  rw [wds_set hi, wds_split hi, ← hx]
  exact set_mid (by rw [ws_len]; exact hk) v

theorem plc_app : ∀ (l k : List It) (n : Nat), plc (l ++ k) n = plc l n ++ plc k (n + (wds l).length)
  | [], k, n => by simp [plc, wds]
  | x :: l, k, n => by
    simp only [List.cons_append, plc, plc_app l k, wds_cons, List.length_append, ws_len, List.append_assoc]
    congr 3
    omega
theorem plc_take {l : List It} {i : Nat} (h : i < l.length) : plc (l.take (i + 1)) 0 = plc (l.take i) 0 ++ (if (l.getD i ([], true)).2 then [] else [(off l i : Int)]) := by
  rw [List.take_add_one, plc_app]
  simp [List.getD, h, plc, off]
theorem wst_app : ∀ (l k : List It), wst (l ++ k) = wst l + wst k
  | [], k => by simp [wst]
  | x :: l, k => by simp only [List.cons_append, wst, wst_app l k]; omega
theorem plc_len : ∀ (l : List It) (n : Nat), (plc l n).length = (liv l).length
  | [], _ => rfl
  | (c, true) :: l, n => by simp [plc, liv, plc_len l]
  | (c, false) :: l, n => by simpa [plc, liv] using plc_len l _

theorem getD_set' {β : Type} {l : List β} {i j : Nat} {x d : β} (hi : i < l.length) : (l.set i x).getD j d = if j = i then x else l.getD j d := by
  simp only [List.getD_eq_getElem?_getD, List.getElem?_set]
  by_cases h : j = i
  · subst h; simp [hi]
  · rw [if_neg (fun e => h e.symm), if_neg h]

/-- Where things are when an item is turned, of the same length. -/
theorem At_set {l : List It} {i : Nat} {x : It} (hi : i < l.length) (hx : x.1.length = (l.getD i ([], true)).1.length) (a : Int) (j : Nat) : At (l.set i x) a j ↔ if j = i then (off l i : Int) = a ∧ x.2 = false else At l a j := by
  unfold At
  rw [List.length_set, getD_set' hi]
  constructor
  · rintro ⟨h1, h2, h3⟩
    rw [off_set hx hi j (by omega)] at h2
    split <;> rename_i e
    · subst e
      rw [if_pos rfl] at h3
      exact ⟨h2, h3⟩
    · rw [if_neg e] at h3
      exact ⟨h1, h2, h3⟩
  · split <;> rename_i e
    · subst e
      rintro ⟨h2, h3⟩
      exact ⟨hi, by rw [off_set hx hi j (by omega)]; exact h2, h3⟩
    · rintro ⟨h1, h2, h3⟩
      exact ⟨h1, by rw [off_set hx hi j (by omega)]; exact h2, h3⟩

theorem liv_app (l k : List It) : liv (l ++ k) = liv l ++ liv k := by simp [liv]
theorem liv_one (x : It) : liv [x] = if x.2 then [] else [x] := by cases h : x.2 <;> simp [liv, h]
theorem wst_one (x : It) : wst [x] = if x.2 then x.1.length + 2 else 0 := by simp [wst]

theorem liv_split {l : List It} {i : Nat} (h : i < l.length) : liv l = liv (l.take i) ++ ((if (l.getD i ([], true)).2 then [] else [l.getD i ([], true)]) ++ liv (l.drop (i + 1))) := by
  rw [← liv_one, ← liv_app, ← liv_app, List.singleton_append, ← split_at h]
theorem wst_split {l : List It} {i : Nat} (h : i < l.length) : wst l = wst (l.take i) + ((if (l.getD i ([], true)).2 then (l.getD i ([], true)).1.length + 2 else 0) + wst (l.drop (i + 1))) := by
  rw [← wst_one, ← wst_app, ← wst_app, List.singleton_append, ← split_at h]
theorem liv_set {l : List It} {i : Nat} (h : i < l.length) (x : It) : liv (l.set i x) = liv (l.take i) ++ ((if x.2 then [] else [x]) ++ liv (l.drop (i + 1))) := by
  rw [List.set_eq_take_append_cons_drop, if_pos h, ← liv_one, ← liv_app, ← liv_app, List.singleton_append]
theorem wst_set {l : List It} {i : Nat} (h : i < l.length) (x : It) : wst (l.set i x) = wst (l.take i) + ((if x.2 then x.1.length + 2 else 0) + wst (l.drop (i + 1))) := by
  rw [List.set_eq_take_append_cons_drop, if_pos h, ← wst_one, ← wst_app, ← wst_app, List.singleton_append]

theorem plc_same {l : List It} {i : Nat} {x : It} (h : i < l.length) (hb : x.2 = (l.getD i ([], true)).2) : (plc (l.set i x) 0).length = (plc l 0).length := by
  rw [plc_len, plc_len, liv_set h, liv_split h, hb]
  split <;> simp
theorem wst_same {l : List It} {i : Nat} {x : It} (h : i < l.length) (hx : x.1.length = (l.getD i ([], true)).1.length) (hb : x.2 = (l.getD i ([], true)).2) : wst (l.set i x) = wst l := by
  rw [wst_set h, wst_split h, hb, hx]
theorem wds_same {l : List It} {i : Nat} {x : It} (h : i < l.length) (hx : x.1.length = (l.getD i ([], true)).1.length) : (wds (l.set i x)).length = (wds l).length := by
  rw [wds_set h, wds_split h]
  simp only [List.length_append, ws_len, hx]
theorem plc_drop {l : List It} {i : Nat} (h : i < l.length) (hb : (l.getD i ([], true)).2 = false) (c : List Int) : (plc (l.set i (c, true)) 0).length + 1 = (plc l 0).length := by
  rw [plc_len, plc_len, liv_set h, liv_split h, hb]
  simp
  omega
theorem wst_drop {l : List It} {i : Nat} (h : i < l.length) (hb : (l.getD i ([], true)).2 = false) : wst (l.set i ((l.getD i ([], true)).1, true)) = wst l + ((l.getD i ([], true)).1.length + 2) := by
  rw [wst_set h, wst_split h, hb]
  simp
  omega

/-! ## What acts come to -/
open Classical in
/-- Which item that is not gone is at a place. -/
noncomputable def idx (l : List It) (a : Int) : Option Nat := if h : ∃ i, At l a i then some (Classical.choose h) else none
theorem idx_some {l : List It} {a : Int} {i : Nat} (h : At l a i) : idx l a = some i := by
  unfold idx
  have he : ∃ i, At l a i := ⟨i, h⟩
  rw [dif_pos he]
  exact congrArg some (Classical.choose_spec he |>.one h)
theorem idx_none {l : List It} {a : Int} (h : ∀ i, ¬ At l a i) : idx l a = none := by
  unfold idx
  rw [dif_neg (fun ⟨i, hi⟩ => h i hi)]

noncomputable def getP (l : List It) (a : Int) : List Int × Bool := match idx l a with
  | some i => ((l.getD i ([], true)).1, true)
  | none => ([], false)
noncomputable def dropP (l : List It) (a : Int) : List It × Int := match idx l a with
  | some i => (l.set i ((l.getD i ([], true)).1, true), 0)
  | none => (l, 4)
def swp (c : List Int) (u v : Int) : List Int := (c.set u.toNat (c.getD v.toNat 0)).set v.toNat (c.getD u.toNat 0)
noncomputable def swapP (l : List It) (a u v : Int) : List It × Int := match idx l a with
  | some i => if 0 ≤ u ∧ 0 ≤ v ∧ u < (l.getD i ([], true)).1.length ∧ v < (l.getD i ([], true)).1.length then (l.set i (swp (l.getD i ([], true)).1 u v, false), 0) else (l, 1)
  | none => (l, 4)
def mvs (l : List It) : List (Int × Int) := (plc l 0).zip (plc (liv l) 0)

theorem swp_len (c : List Int) (u v : Int) : (swp c u v).length = c.length := by simp [swp]

theorem liv_take_le (l : List It) {i j : Nat} (h : i ≤ j) : (liv (l.take i)).length ≤ (liv (l.take j)).length := by
  have : l.take j = l.take i ++ (l.drop i).take (j - i) := by rw [← List.take_add, show i + (j - i) = j by omega]
  rw [this, liv_app, List.length_append]
  omega
theorem wds_liv_le : ∀ l : List It, (wds (liv l)).length ≤ (wds l).length
  | [] => Nat.le_refl _
  | (c, true) :: l => by
    have := wds_liv_le l
    simp only [liv, List.filter_cons, Bool.not_true, wds_cons, List.length_append]
    simp only [liv] at this
    simp
    omega
  | (c, false) :: l => by
    have := wds_liv_le l
    simp only [liv, List.filter_cons, Bool.not_false, wds_cons, List.length_append]
    simp only [liv] at this
    simp [wds_cons]
    omega

theorem off_cons (x : It) (l : List It) (j : Nat) : off (x :: l) (j + 1) = (x.1.length + 2) + off l j := by
  simp [off, wds_cons, ws_len]

/-- The items that are not gone, one by one. -/
theorem live_at : ∀ (l : List It) (n t : Nat), t < (liv l).length → ∃ j, j < l.length ∧ (l.getD j ([], true)).2 = false ∧ (liv (l.take j)).length = t ∧ (plc l n).getD t 0 = (n + off l j : Nat) ∧ (liv l).take t = liv (l.take j) ∧ (liv l).getD t ([], true) = l.getD j ([], true)
  | [], n, t, h => by simp [liv] at h
  | (c, true) :: l, n, t, h => by
    have e : liv ((c, true) :: l) = liv l := by simp [liv]
    rw [e] at h
    obtain ⟨j, h1, h2, h3, h4, h5, h6⟩ := live_at l (n + (c.length + 2)) t h
    refine ⟨j + 1, by simp; omega, by simpa using h2, ?_, ?_, ?_, ?_⟩
    · simpa [liv] using h3
    · rw [off_cons]
      simp only [plc]
      simp only [if_pos, List.nil_append]
      rw [h4]
      congr 1
      omega
    · rw [e, h5]; simp [liv]
    · rw [e, h6]; simp
  | (c, false) :: l, n, 0, h => by
    refine ⟨0, by simp, by simp, rfl, ?_, ?_, ?_⟩
    · simp [plc, off_zero]
    · simp [liv]
    · simp [liv]
  | (c, false) :: l, n, t + 1, h => by
    have e : liv ((c, false) :: l) = (c, false) :: liv l := by simp [liv]
    rw [e] at h
    obtain ⟨j, h1, h2, h3, h4, h5, h6⟩ := live_at l (n + (c.length + 2)) t (by simpa using h)
    refine ⟨j + 1, by simp; omega, by simpa using h2, ?_, ?_, ?_, ?_⟩
    · simp only [List.take_succ_cons]
      have : liv ((c, false) :: l.take j) = (c, false) :: liv (l.take j) := by simp [liv]
      rw [this, List.length_cons, h3]
    · rw [off_cons]
      simp only [plc]
      simp only [Bool.false_eq_true, if_false, List.singleton_append, List.getD_cons_succ]
      rw [h4]
      congr 1
      omega
    · rw [e, List.take_succ_cons, List.take_succ_cons, h5]; simp [liv]
    · rw [e, List.getD_cons_succ, h6, List.getD_cons_succ]

theorem liv_liv (l : List It) : liv (liv l) = liv l := by simp [liv]
theorem plc_liv_len (l : List It) : (plc (liv l) 0).length = (plc l 0).length := by rw [plc_len, plc_len, liv_liv]
theorem mvs_len (l : List It) : (mvs l).length = (plc l 0).length := by simp [mvs, plc_liv_len]
end Go.ArP
namespace Go.ArP
theorem wst_le : ∀ l : List It, wst l ≤ (wds l).length
  | [] => Nat.le_refl _
  | (c, g) :: l => by
    have := wst_le l
    simp only [wst, wds_cons, List.length_append, ws_len]
    split <;> simp_all <;> omega
theorem len_le : ∀ l : List It, l.length ≤ (wds l).length
  | [] => Nat.le_refl _
  | (c, g) :: l => by
    have := len_le l
    simp only [wds_cons, List.length_append, ws_len, List.length_cons]
    omega
end Go.ArP
