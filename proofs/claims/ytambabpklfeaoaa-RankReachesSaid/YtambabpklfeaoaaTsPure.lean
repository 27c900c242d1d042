/- Layer 18: graphs as formulas, plain. -/
namespace Go.TsP

abbrev Gt := Int × Int
def okG (i : Nat) (x : Gt) : Bool := decide (x = (-1, -1)) || decide (0 ≤ x.1 ∧ 0 ≤ x.2 ∧ x.1 ≤ 2 * i + 1 ∧ x.2 ≤ 2 * i + 1)
def mayG (g : List Gt) : Bool := decide (g.length ≤ 1048576) && (List.range g.length).all fun i => okG i (g.getD i (0, 0))
def isL (n : Nat) (l : Int) : Bool := decide (0 ≤ l ∧ l ≤ 2 * n + 1)
def mayC (n : Nat) (c : List Int) : Bool := c.all (isL n) && decide (c.length ≤ 4096)
def mayT (g : List Gt) (cs : List (List Int)) : Bool := mayG g && cs.all (mayC g.length)

theorem mayG_at {g : List Gt} (h : mayG g = true) {i : Nat} (hi : i < g.length) : okG i (g.getD i (0, 0)) = true := by
  simp only [mayG, Bool.and_eq_true, List.all_eq_true, List.mem_range] at h
  exact h.2 i hi
theorem okG_and {i : Nat} {x : Gt} (h : okG i x = true) (h0 : 0 ≤ x.1) : 0 ≤ x.2 ∧ x.1 ≤ 2 * i + 1 ∧ x.2 ≤ 2 * i + 1 := by
  simp only [okG, Bool.or_eq_true, decide_eq_true_eq] at h
  rcases h with h | h
  · rw [h] at h0; simp at h0
  · exact ⟨h.2.1, h.2.2.1, h.2.2.2⟩

/-- Do clauses name a node? -/
def hit (cs : List (List Int)) (n : Nat) : Prop := ∃ c ∈ cs, ∃ l ∈ c, l.tdiv 2 = (n : Int)
/-- Is a node one of a gate's? -/
def kid (g : List Gt) (i n : Nat) : Prop := 0 ≤ (g.getD i (0, 0)).1 ∧ ((g.getD i (0, 0)).1.tdiv 2 = n ∨ (g.getD i (0, 0)).2.tdiv 2 = n)
/-- Do clauses hang on a node? -/
inductive H (g : List Gt) (cs : List (List Int)) : Nat → Prop
  | hit {n : Nat} : hit cs n → H g cs n
  | kid {n i : Nat} : n ≤ i → i < g.length → kid g i n → H g cs (i + 1) → H g cs n
theorem H.cases' {g : List Gt} {cs : List (List Int)} {n : Nat} : H g cs n ↔ TsP.hit cs n ∨ ∃ i, n ≤ i ∧ i < g.length ∧ TsP.kid g i n ∧ H g cs (i + 1) := by
  constructor
  · intro h
    cases h with
    | hit h => exact .inl h
    | kid h1 h2 h3 h4 => exact .inr ⟨_, h1, h2, h3, h4⟩
  · rintro (h | ⟨i, h1, h2, h3, h4⟩)
    · exact .hit h
    · exact .kid h1 h2 h3 h4

theorem kid_le {g : List Gt} (h : mayG g = true) {i n : Nat} (hi : i < g.length) (hk : kid g i n) : n ≤ i := by
  obtain ⟨h0, h1⟩ := hk
  have := okG_and (mayG_at h hi) h0
  rw [Int.tdiv_eq_ediv_of_nonneg h0, Int.tdiv_eq_ediv_of_nonneg this.1] at h1
  omega

/-- How many nodes of the first ones are so. -/
def cnt (P : Nat → Bool) : Nat → Nat
  | 0 => 0
  | t + 1 => cnt P t + (if P (t + 1) then 1 else 0)
/-- Variables of the first nodes. -/
def vs (P : Nat → Bool) (t : Nat) : List Int := (List.range t).map fun i => if P (i + 1) then (cnt P (i + 1) : Int) else 0
theorem vs_len (P : Nat → Bool) (t : Nat) : (vs P t).length = t := by simp [vs]
theorem vs_succ (P : Nat → Bool) (t : Nat) : vs P (t + 1) = vs P t ++ [if P (t + 1) then (cnt P (t + 1) : Int) else 0] := by simp [vs, List.range_succ]
theorem vs_get (P : Nat → Bool) {t i : Nat} (h : i < t) : (vs P t).getD i 0 = if P (i + 1) then (cnt P (i + 1) : Int) else 0 := by simp [vs, List.getD, h]
theorem cnt_succ (P : Nat → Bool) (t : Nat) : cnt P (t + 1) = cnt P t + (if P (t + 1) then 1 else 0) := rfl
theorem cnt_mono (P : Nat → Bool) {a b : Nat} (h : a ≤ b) : cnt P a ≤ cnt P b := by
  induction h with
  | refl => exact Nat.le_refl _
  | step _ ih => exact Nat.le_trans ih (Nat.le_add_right _ _)
theorem cnt_le (P : Nat → Bool) : ∀ t, cnt P t ≤ t
  | 0 => Nat.le_refl _
  | t + 1 => by have := cnt_le P t; unfold cnt; split <;> omega
theorem cnt_pos (P : Nat → Bool) {t : Nat} (h : P (t + 1) = true) : 0 < cnt P (t + 1) := by unfold cnt; rw [if_pos h]; omega

/-- The formula's literal of a graph's. -/
def codeP (v : List Int) (l : Int) : Int := if l < 2 ∨ l.tdiv 2 > v.length then 0 else if l.tmod 2 = 1 then - v.getD (l.tdiv 2 - 1).toNat 0 else v.getD (l.tdiv 2 - 1).toNat 0
/-- A clause's literals; none: it is left out. -/
def clP (v : List Int) : List Int → Option (List Int)
  | [] => some []
  | l :: c => if l = 1 then none else if l = 0 then clP v c else (clP v c).map (codeP v l :: ·)
def flipL (l : Int) : Int := if l % 2 = 0 then l + 1 else l - 1
/-- The clauses of a gate. -/
def gcl (g : List Gt) (P : Nat → Bool) (i : Nat) : List (List Int) :=
  if P (i + 1) = true ∧ 0 ≤ (g.getD i (0, 0)).1 then [[2 * i + 3, (g.getD i (0, 0)).1], [2 * i + 3, (g.getD i (0, 0)).2], [2 * i + 2, flipL (g.getD i (0, 0)).1, flipL (g.getD i (0, 0)).2]] else []
def gcls (g : List Gt) (P : Nat → Bool) (t : Nat) : List (List Int) := (List.range t).flatMap (gcl g P)
theorem gcls_succ (g : List Gt) (P : Nat → Bool) (t : Nat) : gcls g P (t + 1) = gcls g P t ++ gcl g P t := by simp [gcls, List.range_succ]
/-- The formula's clauses. -/
def allC (g : List Gt) (cs : List (List Int)) (P : Nat → Bool) : List (List Int) := gcls g P g.length ++ cs
def outC (v : List Int) (l : List (List Int)) : List (List Int) := l.filterMap (clP v)
theorem outC_app (v : List Int) (l k : List (List Int)) : outC v (l ++ k) = outC v l ++ outC v k := by simp [outC]
theorem outC_one (v : List Int) (c : List Int) : outC v [c] = (clP v c).toList := by cases h : clP v c <;> simp [outC, h]

theorem clP_mem {v : List Int} : ∀ {c o : List Int}, clP v c = some o → ∀ x ∈ o, ∃ l ∈ c, l ≠ 0 ∧ l ≠ 1 ∧ x = codeP v l
  | [], o, h, x, hx => by simp [clP] at h; subst h; simp at hx
  | l :: c, o, h, x, hx => by
    simp only [clP] at h
    split at h
    · cases h
    · split at h
      · obtain ⟨k, hk, e⟩ := clP_mem h x hx
        exact ⟨k, List.mem_cons_of_mem _ hk, e⟩
      · rename_i h1 h0
        simp only [Option.map_eq_some_iff] at h
        obtain ⟨o', h', rfl⟩ := h
        rcases List.mem_cons.1 hx with rfl | hx
        · exact ⟨l, List.mem_cons_self, h0, h1, rfl⟩
        · obtain ⟨k, hk, e⟩ := clP_mem h' x hx
          exact ⟨k, List.mem_cons_of_mem _ hk, e⟩
theorem clP_len {v : List Int} : ∀ {c o : List Int}, clP v c = some o → o.length ≤ c.length
  | [], o, h => by simp [clP] at h; subst h; simp
  | l :: c, o, h => by
    simp only [clP] at h
    split at h
    · cases h
    · split at h
      · have := clP_len h; simp; omega
      · simp only [Option.map_eq_some_iff] at h
        obtain ⟨o', h', rfl⟩ := h
        have := clP_len h'
        simp; omega

/-- A literal of a node that is so has a variable. -/
theorem code_ok {P : Nat → Bool} {n : Nat} {l : Int} (h2 : 2 ≤ l) (hn : l ≤ 2 * n + 1) (hP : P (l.tdiv 2).toNat = true) : codeP (vs P n) l ≠ 0 ∧ -(cnt P n : Int) ≤ codeP (vs P n) l ∧ codeP (vs P n) l ≤ cnt P n := by
  unfold codeP
  rw [vs_len, Int.tdiv_eq_ediv_of_nonneg (by omega)] at *
  have hi : (l / 2 - 1).toNat < n := by omega
  rw [if_neg (by omega), vs_get P hi]
  have e : (l / 2 - 1).toNat + 1 = (l / 2).toNat := by omega
  rw [e, hP]
  have h1 : 0 < cnt P (l / 2).toNat := by rw [← e]; exact cnt_pos P (by rw [e]; exact hP)
  have h3 : cnt P (l / 2).toNat ≤ cnt P n := cnt_mono P (by omega)
  split <;> simp only [if_true] <;> omega
end Go.TsP
namespace Go.TsP
theorem clP_take {v : List Int} : ∀ {c : List Int} {t : Nat} {o : List Int}, t < c.length → clP v (c.take t) = some o → clP v (c.take (t + 1)) = if c.getD t 0 = 1 then none else if c.getD t 0 = 0 then some o else some (o ++ [codeP v (c.getD t 0)])
  | [], t, o, h, _ => by simp at h
  | x :: c, 0, o, h, ho => by
    simp [clP] at ho
    subst ho
    simp only [List.take_succ_cons, List.take_zero, clP, List.getD_cons_zero]
    split
    · rfl
    · split
      · rfl
      · rfl
  | x :: c, t + 1, o, h, ho => by
    simp only [List.take_succ_cons, clP, List.getD_cons_succ] at ho ⊢
    split at ho
    · cases ho
    · rename_i h1
      rw [if_neg h1]
      split at ho
      · rename_i h0
        rw [if_pos h0]
        exact clP_take (by simpa using h) ho
      · rename_i h0
        rw [if_neg h0]
        simp only [Option.map_eq_some_iff] at ho
        obtain ⟨o', ho', rfl⟩ := ho
        rw [clP_take (by simpa using h) ho']
        split
        · rfl
        · split
          · rfl
          · rfl
theorem clP_one {v : List Int} : ∀ {c : List Int} {t : Nat}, t < c.length → c.getD t 0 = 1 → clP v c = none
  | [], t, h, _ => by simp at h
  | x :: c, 0, h, e => by
    simp only [List.getD_cons_zero] at e
    simp [clP, e]
  | x :: c, t + 1, h, e => by
    simp only [List.getD_cons_succ] at e
    have := clP_one (v := v) (by simpa using h) e
    simp only [clP, this]
    split
    · rfl
    · split <;> rfl
end Go.TsP
namespace Go.TsP
theorem clP_pre {v : List Int} : ∀ {c o : List Int}, clP v c = some o → ∀ {t : Nat}, ∃ o', clP v (c.take t) = some o'
  | [], o, h, t => ⟨[], by simp [clP]⟩
  | x :: c, o, h, 0 => ⟨[], rfl⟩
  | x :: c, o, h, t + 1 => by
    simp only [clP] at h
    split at h
    · cases h
    · rename_i h1
      split at h
      · rename_i h0
        obtain ⟨o', h'⟩ := clP_pre h (t := t)
        exact ⟨o', by simp only [List.take_succ_cons, clP]; rw [if_neg h1, if_pos h0, h']⟩
      · rename_i h0
        simp only [Option.map_eq_some_iff] at h
        obtain ⟨o2, h2, _⟩ := h
        obtain ⟨o', h'⟩ := clP_pre h2 (t := t)
        exact ⟨codeP v x :: o', by simp only [List.take_succ_cons, clP]; rw [if_neg h1, if_neg h0, h']; rfl⟩
end Go.TsP
