/- Tournaments whose degrees differ are orders. -/
namespace Go.RankP

def cB (f : Nat → Bool) : Nat → Nat
  | 0 => 0
  | n + 1 => cB f n + (f n).toNat

theorem cB_le (f : Nat → Bool) : ∀ n, cB f n ≤ n
  | 0 => Nat.le_refl _
  | n + 1 => by have := cB_le f n; have := Bool.toNat_le (f n); simp only [cB]; omega

theorem cB_lt {f : Nat → Bool} {i : Nat} (hf : f i = false) : ∀ n, i < n → cB f n < n
  | n + 1, h => by
    simp only [cB]
    by_cases e : i = n
    · subst e; have := cB_le f i; rw [hf]; simp; omega
    · have := cB_lt hf n (by omega); have := Bool.toNat_le (f n); omega

theorem cB_mono {f g : Nat → Bool} : ∀ n, (∀ k, k < n → f k = true → g k = true) → cB f n ≤ cB g n
  | 0, _ => Nat.le_refl _
  | n + 1, h => by
    simp only [cB]
    have ih := cB_mono n fun k hk => h k (by omega)
    have : (f n).toNat ≤ (g n).toNat := by
      cases hf : f n
      · simp
      · rw [h n (by omega) hf]; simp
    omega

theorem cB_strict {f g : Nat → Bool} {a : Nat} : ∀ n, a < n → f a = false → g a = true → (∀ k, k < n → f k = true → g k = true) → cB f n < cB g n
  | n + 1, ha, h1, h2, h => by
    simp only [cB]
    by_cases e : a = n
    · subst e
      have := cB_mono (f := f) (g := g) a fun k hk => h k (by omega)
      rw [h1, h2]; simp; omega
    · have ih := cB_strict n (by omega) h1 h2 fun k hk => h k (by omega)
      have : (f n).toNat ≤ (g n).toNat := by
        cases hf : f n
        · simp
        · rw [h n (by omega) hf]; simp
      omega

/-- Different elements are counted. -/
theorem cB_inj {f : Nat → Bool} : ∀ (n m : Nat) (g : Nat → Nat), (∀ j, j < m → g j < n ∧ f (g j) = true) → (∀ j k, j < m → k < m → g j = g k → j = k) → m ≤ cB f n := by
  intro n
  induction n with
  | zero =>
    intro m g h _
    rcases Nat.eq_zero_or_pos m with h0 | h0
    · omega
    · have := (h 0 h0).1; omega
  | succ n ih =>
    intro m g h hi
    simp only [cB]
    by_cases he : ∃ j, j < m ∧ g j = n
    · obtain ⟨j, j1, j2⟩ := he
      have hf : f n = true := by rw [← j2]; exact (h j j1).2
      have := ih (m - 1) (fun k => if k = j then g (m - 1) else g k) (fun k hk => by
        by_cases e : k = j
        · simp only [e, if_true]
          have h1 := h (m - 1) (by omega)
          have : g (m - 1) ≠ n := fun e2 => by
            have := hi (m - 1) j (by omega) j1 (by rw [e2, j2])
            omega
          exact ⟨by omega, h1.2⟩
        · simp only [e, if_false]
          have h1 := h k (by omega)
          have : g k ≠ n := fun e2 => e (hi k j (by omega) j1 (by rw [e2, j2]))
          exact ⟨by omega, h1.2⟩) (fun k l hk hl => by
        intro e3
        by_cases e : k = j
        · by_cases e2 : l = j
          · omega
          · simp only [e, e2, if_true, if_false] at e3
            have := hi _ _ (by omega) (by omega) e3; omega
        · by_cases e2 : l = j
          · simp only [e, e2, if_true, if_false] at e3
            have := hi _ _ (by omega) (by omega) e3; omega
          · simp only [e, e2, if_false] at e3
            exact hi _ _ (by omega) (by omega) e3)
      rw [hf]; simp; omega
    · have := ih m g (fun k hk => by
        have h1 := h k hk
        have : g k ≠ n := fun e => he ⟨k, hk, e⟩
        exact ⟨by omega, h1.2⟩) hi
      omega

variable {M : Nat → Nat → Bool} {n : Nat}

def deg (M : Nat → Nat → Bool) (n i : Nat) : Nat := cB (fun k => M k i) n

/-- In an order, who is ahead has the smaller degree. -/
theorem deg_lt (irr : ∀ i, i < n → M i i = false) (tr : ∀ i j k, i < n → j < n → k < n → M i j = true → M j k = true → M i k = true) {a b : Nat} (ha : a < n) (hb : b < n) (h : M a b = true) : deg M n a < deg M n b :=
  cB_strict n ha (irr a ha) h fun k hk hka => tr k a b hk ha hb hka h

/-- A list by degrees. -/
theorem by_deg {v : Nat → Nat} (anti : ∀ i j, i < n → j < n → i ≠ j → M i j ≠ M j i) (hv : ∀ r, r < n → v r < n ∧ deg M n (v r) = r) : ∀ r s, r < s → s < n → M (v r) (v s) = true := by
  have inj : ∀ r s, r < n → s < n → v r = v s → r = s := fun r s hr hs e => by
    have := (hv r hr).2; have := (hv s hs).2; rw [e] at *; omega
  intro r
  induction r using Nat.strongRecOn with
  | _ r ih =>
    intro s hrs hs
    rcases hc : M (v r) (v s) with _ | _
    · exfalso
      have hne : v r ≠ v s := fun e => by have := inj r s (by omega) hs e; omega
      have hsr : M (v s) (v r) = true := by
        have := anti _ _ (hv r (by omega)).1 (hv s hs).1 hne
        rw [hc] at this
        cases h : M (v s) (v r)
        · rw [h] at this; exact absurd rfl this
        · rfl
      have := cB_inj (f := fun k => M k (v r)) n (r + 1) (fun j => if j = r then v s else v j) (fun j hj => by
        by_cases e : j = r
        · simp only [e, if_true]; exact ⟨(hv s hs).1, hsr⟩
        · simp only [e, if_false]; exact ⟨(hv j (by omega)).1, ih j (by omega) r (by omega) (by omega)⟩) (fun j k hj hk e3 => by
        by_cases e : j = r
        · by_cases e2 : k = r
          · omega
          · simp only [e, e2, if_true, if_false] at e3
            have := inj _ _ hs (by omega) e3; omega
        · by_cases e2 : k = r
          · simp only [e, e2, if_true, if_false] at e3
            have := inj _ _ (by omega) hs e3; omega
          · simp only [e, e2, if_false] at e3
            exact inj _ _ (by omega) (by omega) e3)
      have hd := (hv r (by omega)).2
      unfold deg at hd
      omega
    · rfl

/-- So it is an order. -/
theorem ord_of_deg {v : Nat → Nat} (irr : ∀ i, i < n → M i i = false) (anti : ∀ i j, i < n → j < n → i ≠ j → M i j ≠ M j i) (hv : ∀ r, r < n → v r < n ∧ deg M n (v r) = r) (on : ∀ i, i < n → ∃ r, r < n ∧ v r = i) :
    ∀ i j k, i < n → j < n → k < n → M i j = true → M j k = true → M i k = true := by
  have bd := by_deg anti hv
  have lt : ∀ r s, r < n → s < n → M (v r) (v s) = true → r < s := by
    intro r s hr hs h
    rcases Nat.lt_trichotomy r s with h1 | h1 | h1
    · exact h1
    · subst h1; rw [irr _ (hv r hr).1] at h; cases h
    · have h2 := bd s r h1 hr
      exfalso
      by_cases e : v r = v s
      · rw [e, irr _ (hv s hs).1] at h; cases h
      · exact anti _ _ (hv r hr).1 (hv s hs).1 e (by rw [h, h2])
  intro i j k hi hj hk h1 h2
  obtain ⟨r, hr, rfl⟩ := on i hi
  obtain ⟨s, hs, rfl⟩ := on j hj
  obtain ⟨t, ht, rfl⟩ := on k hk
  have := lt r s hr hs h1
  have := lt s t hs ht h2
  exact bd r t (by omega) ht
end Go.RankP
/- What can be reached: by edges, by few edges, by a closure. -/
namespace Go.RankP

/-- So many edges at most, one at least. -/
def rch (M : Nat → Nat → Bool) (n : Nat) : Nat → Nat → Nat → Prop
  | 0, i, j => M i j = true
  | d + 1, i, j => M i j = true ∨ ∃ k, k < n ∧ M i k = true ∧ rch M n d k j

theorem rch_up {M : Nat → Nat → Bool} {n : Nat} : ∀ d i j, rch M n d i j → rch M n (d + 1) i j
  | 0, _, _, h => .inl h
  | d + 1, _, j, h => h.imp id fun ⟨k, hk, h1, h2⟩ => ⟨k, hk, h1, rch_up d k j h2⟩
theorem rch_le {M : Nat → Nat → Bool} {n : Nat} {d e : Nat} (h : d ≤ e) {i j : Nat} (hr : rch M n d i j) : rch M n e i j := by
  induction h with
  | refl => exact hr
  | step _ ih => exact rch_up _ _ _ ih
theorem rch_add {M : Nat → Nat → Bool} {n : Nat} : ∀ d e i k j, k < n → rch M n d i k → rch M n e k j → rch M n (d + e + 1) i j
  | 0, e, i, k, j, hk, h1, h2 => by
    rw [Nat.zero_add]
    exact .inr ⟨k, hk, h1, h2⟩
  | d + 1, e, i, k, j, hk, h1, h2 => by
    rw [show d + 1 + e + 1 = (d + e + 1) + 1 by omega]
    rcases h1 with h1 | ⟨l, hl, h3, h4⟩
    · exact .inr ⟨k, hk, h1, rch_le (by omega) h2⟩
    · exact .inr ⟨l, hl, h3, rch_add d e l k j hk h4 h2⟩

open Classical in
/-- How many reach a place. -/
noncomputable def cnt (M : Nat → Nat → Bool) (n d j : Nat) : Nat := cB (fun i => decide (rch M n d i j)) n

/-- Either all is reached by so few edges, or more and more reach it. -/
theorem grow_or {M : Nat → Nat → Bool} {n j : Nat} : ∀ d, (∃ e, e ≤ d ∧ ∀ i, i < n → rch M n (e + 1) i j → rch M n e i j) ∨ d + 1 ≤ cnt M n d j ∨ (∀ i, i < n → ¬ rch M n 0 i j)
  | 0 => by
    by_cases h : ∃ i, i < n ∧ rch M n 0 i j
    · obtain ⟨i, hi, h⟩ := h
      right; left
      exact cB_inj n 1 (fun _ => i) (fun k _ => ⟨hi, by simpa using h⟩) fun a b ha hb _ => by omega
    · right; right
      exact fun i hi hr => h ⟨i, hi, hr⟩
  | d + 1 => by
    rcases grow_or (M := M) (n := n) (j := j) d with ⟨e, he, h⟩ | h | h
    · exact .inl ⟨e, by omega, h⟩
    · by_cases hs : ∀ i, i < n → rch M n (d + 1) i j → rch M n d i j
      · exact .inl ⟨d, by omega, hs⟩
      · right; left
        obtain ⟨a, ha⟩ := Classical.not_forall.1 hs
        obtain ⟨ha1, ha2⟩ := Classical.not_imp.1 ha
        obtain ⟨ha2, ha3⟩ := Classical.not_imp.1 ha2
        have := cB_strict (f := fun i => @decide (rch M n d i j) (Classical.propDecidable _)) (g := fun i => @decide (rch M n (d + 1) i j) (Classical.propDecidable _)) (a := a) n ha1 (by simpa using ha3) (by simpa using ha2) fun k _ hk => by
          have : rch M n d k j := by simpa using hk
          simpa using rch_up d k j this
        unfold cnt at h ⊢
        omega
    · exact .inr (.inr h)

theorem stable {M : Nat → Nat → Bool} {n j e : Nat} (h : ∀ i, i < n → rch M n (e + 1) i j → rch M n e i j) : ∀ d i, i < n → rch M n (e + d) i j → rch M n e i j
  | 0, i, _, hr => hr
  | d + 1, i, hi, hr => by
    rw [show e + (d + 1) = (e + d) + 1 by omega] at hr
    rcases hr with hr | ⟨k, hk, h1, h2⟩
    · exact rch_le (Nat.zero_le _) (show rch M n 0 i j from hr)
    · exact h i hi (.inr ⟨k, hk, h1, stable h d k hk h2⟩)

/-- n edges are enough. -/
theorem rch_short {M : Nat → Nat → Bool} {n : Nat} {d i j : Nat} (hi : i < n) (hr : rch M n d i j) : rch M n (n - 1) i j := by
  rcases grow_or (M := M) (n := n) (j := j) (n - 1) with ⟨e, he, h⟩ | h | h
  · have := stable h d i hi (rch_le (by omega) hr)
    exact rch_le he this
  · have full : ∀ i, i < n → rch M n (n - 1) i j := by
      intro i hi
      by_cases hc : rch M n (n - 1) i j
      · exact hc
      · exfalso
        have := cB_lt (f := fun i => @decide (rch M n (n - 1) i j) (Classical.propDecidable _)) (i := i) (by simpa using hc) n hi
        unfold cnt at h
        omega
    exact full i hi
  · exfalso
    have none : ∀ d i, i < n → ¬ rch M n d i j := by
      intro d
      induction d with
      | zero => exact h
      | succ d ih =>
        rintro i hi (h1 | ⟨k, hk, _, h2⟩)
        · exact h i hi h1
        · exact ih k hk h2
    exact none d i hi hr
/-- A closed square that has the edges has what can be reached. -/
theorem rch_in {M S : Nat → Nat → Bool} {n : Nat} (hE : ∀ i j, i < n → j < n → M i j = true → S i j = true) (hC : ∀ i j k, i < n → j < n → k < n → i ≠ j → j ≠ k → S i j = true → S j k = true → S i k = true) :
    ∀ d i j, i < n → j < n → rch M n d i j → S i j = true
  | 0, i, j, hi, hj, h => hE i j hi hj h
  | d + 1, i, j, hi, hj, h => by
    rcases h with h | ⟨k, hk, h1, h2⟩
    · exact hE i j hi hj h
    · have s1 := hE i k hi hk h1
      have s2 := rch_in hE hC d k j hk hj h2
      by_cases e1 : i = k
      · rw [e1]; exact s2
      · by_cases e2 : k = j
        · rw [← e2]; exact s1
        · exact hC i k j hi hk hj e1 e2 s1 s2

/-- One turn of the closing. -/
theorem turn {S S' : Nat → Nat → Bool} {n k : Nat} (hk : k < n) (h : ∀ i j, i < n → j < n → (S' i j = true ↔ S i j = true ∨ S i k = true ∧ S k j = true)) (T : ∀ i m j, i < n → m < k → j < n → S i m = true → S m j = true → S i j = true) :
    ∀ i m j, i < n → m < k + 1 → j < n → S' i m = true → S' m j = true → S' i j = true := by
  intro i m j hi hm hj h1 h2
  rw [h i m hi (by omega)] at h1
  rw [h m j (by omega) hj] at h2
  rw [h i j hi hj]
  by_cases e : m = k
  · subst e
    have g1 : S i m = true := h1.elim id fun h => h.1
    have g2 : S m j = true := h2.elim id fun h => h.2
    exact .inr ⟨g1, g2⟩
  · have hmk : m < k := by omega
    rcases h1 with h1 | ⟨h1, h1'⟩ <;> rcases h2 with h2 | ⟨h2, h2'⟩
    · exact .inl (T i m j hi hmk hj h1 h2)
    · exact .inr ⟨T i m k hi hmk hk h1 h2, h2'⟩
    · exact .inr ⟨h1, T k m j hk hmk hj h1' h2⟩
    · exact .inr ⟨h1, h2'⟩
end Go.RankP
/- Layer 18: graphs as formulas, plain. -/
namespace Go.TsP

abbrev Gt := Int × Int
def okG (i : Nat) (x : Gt) : Bool := decide (x = (-1, -1)) || decide (0 ≤ x.1 ∧ 0 ≤ x.2 ∧ x.1 ≤ 2 * i + 1 ∧ x.2 ≤ 2 * i + 1)
def mayG (g : List Gt) : Bool := decide (g.length ≤ 1048576) && (List.range g.length).all fun i => okG i (g.getD i (0, 0))
def isL (n : Nat) (l : Int) : Bool := decide (0 ≤ l ∧ l ≤ 2 * n + 1)
def mayC (n : Nat) (c : List Int) : Bool := c.all (isL n) && decide (c.length ≤ 4096)
def mayT (g : List Gt) (cs : List (List Int)) : Bool := mayG g && cs.all (mayC g.length)

theorem mayG_at {g : List Gt} (h : mayG g = true) {i : Nat} (hi : i < g.length) : okG i (g.getD i (0, 0)) = true := by
  simp only [mayG, Bool.and_eq_true, List.all_eq_true, List.mem_range] at h
  exact h.2 i hi
theorem okG_and {i : Nat} {x : Gt} (h : okG i x = true) (h0 : 0 ≤ x.1) : 0 ≤ x.2 ∧ x.1 ≤ 2 * i + 1 ∧ x.2 ≤ 2 * i + 1 := by
  simp only [okG, Bool.or_eq_true, decide_eq_true_eq] at h
  rcases h with h | h
  · rw [h] at h0; simp at h0
  · exact ⟨h.2.1, h.2.2.1, h.2.2.2⟩

/-- Do clauses name a node? -/
def hit (cs : List (List Int)) (n : Nat) : Prop := ∃ c ∈ cs, ∃ l ∈ c, l.tdiv 2 = (n : Int)
/-- Is a node one of a gate's? -/
def kid (g : List Gt) (i n : Nat) : Prop := 0 ≤ (g.getD i (0, 0)).1 ∧ ((g.getD i (0, 0)).1.tdiv 2 = n ∨ (g.getD i (0, 0)).2.tdiv 2 = n)
/-- Do clauses hang on a node? -/
inductive H (g : List Gt) (cs : List (List Int)) : Nat → Prop
  | hit {n : Nat} : hit cs n → H g cs n
  | kid {n i : Nat} : n ≤ i → i < g.length → kid g i n → H g cs (i + 1) → H g cs n
theorem H.cases' {g : List Gt} {cs : List (List Int)} {n : Nat} : H g cs n ↔ TsP.hit cs n ∨ ∃ i, n ≤ i ∧ i < g.length ∧ TsP.kid g i n ∧ H g cs (i + 1) := by
  constructor
  · intro h
    cases h with
    | hit h => exact .inl h
    | kid h1 h2 h3 h4 => exact .inr ⟨_, h1, h2, h3, h4⟩
  · rintro (h | ⟨i, h1, h2, h3, h4⟩)
    · exact .hit h
    · exact .kid h1 h2 h3 h4

theorem kid_le {g : List Gt} (h : mayG g = true) {i n : Nat} (hi : i < g.length) (hk : kid g i n) : n ≤ i := by
  obtain ⟨h0, h1⟩ := hk
  have := okG_and (mayG_at h hi) h0
  rw [Int.tdiv_eq_ediv_of_nonneg h0, Int.tdiv_eq_ediv_of_nonneg this.1] at h1
  omega

/-- How many nodes of the first ones are so. -/
def cnt (P : Nat → Bool) : Nat → Nat
  | 0 => 0
  | t + 1 => cnt P t + (if P (t + 1) then 1 else 0)
/-- Variables of the first nodes. -/
def vs (P : Nat → Bool) (t : Nat) : List Int := (List.range t).map fun i => if P (i + 1) then (cnt P (i + 1) : Int) else 0
theorem vs_len (P : Nat → Bool) (t : Nat) : (vs P t).length = t := by simp [vs]
theorem vs_succ (P : Nat → Bool) (t : Nat) : vs P (t + 1) = vs P t ++ [if P (t + 1) then (cnt P (t + 1) : Int) else 0] := by simp [vs, List.range_succ]
theorem vs_get (P : Nat → Bool) {t i : Nat} (h : i < t) : (vs P t).getD i 0 = if P (i + 1) then (cnt P (i + 1) : Int) else 0 := by simp [vs, List.getD, h]
theorem cnt_succ (P : Nat → Bool) (t : Nat) : cnt P (t + 1) = cnt P t + (if P (t + 1) then 1 else 0) := rfl
theorem cnt_mono (P : Nat → Bool) {a b : Nat} (h : a ≤ b) : cnt P a ≤ cnt P b := by
  induction h with
  | refl => exact Nat.le_refl _
  | step _ ih => exact Nat.le_trans ih (Nat.le_add_right _ _)
theorem cnt_le (P : Nat → Bool) : ∀ t, cnt P t ≤ t
  | 0 => Nat.le_refl _
  | t + 1 => by have := cnt_le P t; unfold cnt; split <;> omega
theorem cnt_pos (P : Nat → Bool) {t : Nat} (h : P (t + 1) = true) : 0 < cnt P (t + 1) := by unfold cnt; rw [if_pos h]; omega

/-- The formula's literal of a graph's. -/
def codeP (v : List Int) (l : Int) : Int := if l < 2 ∨ l.tdiv 2 > v.length then 0 else if l.tmod 2 = 1 then - v.getD (l.tdiv 2 - 1).toNat 0 else v.getD (l.tdiv 2 - 1).toNat 0
/-- A clause's literals; none: it is left out. -/
def clP (v : List Int) : List Int → Option (List Int)
  | [] => some []
  | l :: c => if l = 1 then none else if l = 0 then clP v c else (clP v c).map (codeP v l :: ·)
def flipL (l : Int) : Int := if l % 2 = 0 then l + 1 else l - 1
/-- The clauses of a gate. -/
def gcl (g : List Gt) (P : Nat → Bool) (i : Nat) : List (List Int) :=
  if P (i + 1) = true ∧ 0 ≤ (g.getD i (0, 0)).1 then [[2 * i + 3, (g.getD i (0, 0)).1], [2 * i + 3, (g.getD i (0, 0)).2], [2 * i + 2, flipL (g.getD i (0, 0)).1, flipL (g.getD i (0, 0)).2]] else []
def gcls (g : List Gt) (P : Nat → Bool) (t : Nat) : List (List Int) := (List.range t).flatMap (gcl g P)
theorem gcls_succ (g : List Gt) (P : Nat → Bool) (t : Nat) : gcls g P (t + 1) = gcls g P t ++ gcl g P t := by simp [gcls, List.range_succ]
/-- The formula's clauses. -/
def allC (g : List Gt) (cs : List (List Int)) (P : Nat → Bool) : List (List Int) := gcls g P g.length ++ cs
def outC (v : List Int) (l : List (List Int)) : List (List Int) := l.filterMap (clP v)
theorem outC_app (v : List Int) (l k : List (List Int)) : outC v (l ++ k) = outC v l ++ outC v k := by simp [outC]
theorem outC_one (v : List Int) (c : List Int) : outC v [c] = (clP v c).toList := by cases h : clP v c <;> simp [outC, h]

theorem clP_mem {v : List Int} : ∀ {c o : List Int}, clP v c = some o → ∀ x ∈ o, ∃ l ∈ c, l ≠ 0 ∧ l ≠ 1 ∧ x = codeP v l
  | [], o, h, x, hx => by simp [clP] at h; subst h; simp at hx
  | l :: c, o, h, x, hx => by
    simp only [clP] at h
    split at h
    · cases h
    · split at h
      · obtain ⟨k, hk, e⟩ := clP_mem h x hx
        exact ⟨k, List.mem_cons_of_mem _ hk, e⟩
      · rename_i h1 h0
        simp only [Option.map_eq_some_iff] at h
        obtain ⟨o', h', rfl⟩ := h
        rcases List.mem_cons.1 hx with rfl | hx
        · exact ⟨l, List.mem_cons_self, h0, h1, rfl⟩
        · obtain ⟨k, hk, e⟩ := clP_mem h' x hx
          exact ⟨k, List.mem_cons_of_mem _ hk, e⟩
theorem clP_len {v : List Int} : ∀ {c o : List Int}, clP v c = some o → o.length ≤ c.length
  | [], o, h => by simp [clP] at h; subst h; simp
  | l :: c, o, h => by
    simp only [clP] at h
    split at h
    · cases h
    · split at h
      · have := clP_len h; simp; omega
      · simp only [Option.map_eq_some_iff] at h
        obtain ⟨o', h', rfl⟩ := h
        have := clP_len h'
        simp; omega

/-- A literal of a node that is so has a variable. -/
theorem code_ok {P : Nat → Bool} {n : Nat} {l : Int} (h2 : 2 ≤ l) (hn : l ≤ 2 * n + 1) (hP : P (l.tdiv 2).toNat = true) : codeP (vs P n) l ≠ 0 ∧ -(cnt P n : Int) ≤ codeP (vs P n) l ∧ codeP (vs P n) l ≤ cnt P n := by
  unfold codeP
  rw [vs_len, Int.tdiv_eq_ediv_of_nonneg (by omega)] at *
  have hi : (l / 2 - 1).toNat < n := by omega
  rw [if_neg (by omega), vs_get P hi]
  have e : (l / 2 - 1).toNat + 1 = (l / 2).toNat := by omega
  rw [e, hP]
  have h1 : 0 < cnt P (l / 2).toNat := by rw [← e]; exact cnt_pos P (by rw [e]; exact hP)
  have h3 : cnt P (l / 2).toNat ≤ cnt P n := cnt_mono P (by omega)
  split <;> simp only [if_true] <;> omega
end Go.TsP
namespace Go.TsP
theorem clP_take {v : List Int} : ∀ {c : List Int} {t : Nat} {o : List Int}, t < c.length → clP v (c.take t) = some o → clP v (c.take (t + 1)) = if c.getD t 0 = 1 then none else if c.getD t 0 = 0 then some o else some (o ++ [codeP v (c.getD t 0)])
  | [], t, o, h, _ => by simp at h
  | x :: c, 0, o, h, ho => by
    simp [clP] at ho
    subst ho
    simp only [List.take_succ_cons, List.take_zero, clP, List.getD_cons_zero]
    split
    · rfl
    · split
      · rfl
      · rfl
  | x :: c, t + 1, o, h, ho => by
    simp only [List.take_succ_cons, clP, List.getD_cons_succ] at ho ⊢
    split at ho
    · cases ho
    · rename_i h1
      rw [if_neg h1]
      split at ho
      · rename_i h0
        rw [if_pos h0]
        exact clP_take (by simpa using h) ho
      · rename_i h0
        rw [if_neg h0]
        simp only [Option.map_eq_some_iff] at ho
        obtain ⟨o', ho', rfl⟩ := ho
        rw [clP_take (by simpa using h) ho']
        split
        · rfl
        · split
          · rfl
          · rfl
theorem clP_one {v : List Int} : ∀ {c : List Int} {t : Nat}, t < c.length → c.getD t 0 = 1 → clP v c = none
  | [], t, h, _ => by simp at h
  | x :: c, 0, h, e => by
    simp only [List.getD_cons_zero] at e
    simp [clP, e]
  | x :: c, t + 1, h, e => by
    simp only [List.getD_cons_succ] at e
    have := clP_one (v := v) (by simpa using h) e
    simp only [clP, this]
    split
    · rfl
    · split <;> rfl
end Go.TsP
namespace Go.TsP
theorem clP_pre {v : List Int} : ∀ {c o : List Int}, clP v c = some o → ∀ {t : Nat}, ∃ o', clP v (c.take t) = some o'
  | [], o, h, t => ⟨[], by simp [clP]⟩
  | x :: c, o, h, 0 => ⟨[], rfl⟩
  | x :: c, o, h, t + 1 => by
    simp only [clP] at h
    split at h
    · cases h
    · rename_i h1
      split at h
      · rename_i h0
        obtain ⟨o', h'⟩ := clP_pre h (t := t)
        exact ⟨o', by simp only [List.take_succ_cons, clP]; rw [if_neg h1, if_pos h0, h']⟩
      · rename_i h0
        simp only [Option.map_eq_some_iff] at h
        obtain ⟨o2, h2, _⟩ := h
        obtain ⟨o', h'⟩ := clP_pre h2 (t := t)
        exact ⟨codeP v x :: o', by simp only [List.take_succ_cons, clP]; rw [if_neg h1, if_neg h0, h']; rfl⟩
end Go.TsP
/- Layers 15 and 18: what nodes are by inputs, plain. -/
namespace Go.TsP

/-- How many of the first nodes are inputs. -/
def cntIn (g : List Gt) : Nat → Nat
  | 0 => 0
  | t + 1 => cntIn g t + (if (g.getD t (0, 0)).1 < 0 then 1 else 0)
theorem cntIn_succ (g : List Gt) (t : Nat) : cntIn g (t + 1) = cntIn g t + (if (g.getD t (0, 0)).1 < 0 then 1 else 0) := rfl
theorem cntIn_le (g : List Gt) : ∀ t, cntIn g t ≤ t
  | 0 => Nat.le_refl _
  | t + 1 => by have := cntIn_le g t; rw [cntIn_succ]; split <;> omega
theorem cntIn_mono (g : List Gt) {a b : Nat} (h : a ≤ b) : cntIn g a ≤ cntIn g b := by
  induction h with
  | refl => exact Nat.le_refl _
  | step _ ih => exact Nat.le_trans ih (by rw [cntIn_succ]; omega)
/-- A literal's value, of nodes' values. -/
def evalL (v : List Bool) (l : Int) : Bool := if l < 2 then l == 1 else !(v.getD (l / 2 - 1).toNat false == (l % 2 == 1))
def nodeV (g : List Gt) (ins : List Bool) (v : List Bool) (i : Nat) : Bool :=
  if 0 ≤ (g.getD i (0, 0)).1 then evalL v (g.getD i (0, 0)).1 && evalL v (g.getD i (0, 0)).2 else ins.getD (cntIn g i) false
/-- The values of the first nodes. -/
def vals (g : List Gt) (ins : List Bool) : Nat → List Bool
  | 0 => []
  | t + 1 => vals g ins t ++ [nodeV g ins (vals g ins t) t]
theorem vals_succ (g : List Gt) (ins : List Bool) (t : Nat) : vals g ins (t + 1) = vals g ins t ++ [nodeV g ins (vals g ins t) t] := rfl
theorem vals_len (g : List Gt) (ins : List Bool) : ∀ t, (vals g ins t).length = t
  | 0 => rfl
  | t + 1 => by rw [vals_succ, List.length_append, vals_len g ins t]; rfl
theorem vals_get (g : List Gt) (ins : List Bool) {i : Nat} : ∀ {t : Nat}, i < t → (vals g ins t).getD i false = nodeV g ins (vals g ins i) i
  | 0, h => by omega
  | t + 1, h => by
    rw [vals_succ]
    simp only [List.getD_eq_getElem?_getD]
    by_cases e : i = t
    · subst e
      rw [List.getElem?_append_right (by rw [vals_len]; exact Nat.le_refl _), vals_len, Nat.sub_self]; rfl
    · rw [List.getElem?_append_left (by rw [vals_len]; omega)]
      have := vals_get g ins (i := i) (t := t) (by omega)
      rw [List.getD_eq_getElem?_getD] at this
      exact this
theorem evalL_vals (g : List Gt) (ins : List Bool) {t n : Nat} {l : Int} (h : t ≤ n) (hl : l ≤ 2 * t + 1) : evalL (vals g ins t) l = evalL (vals g ins n) l := by
  unfold evalL
  split
  · rfl
  · rw [vals_get g ins (show (l / 2 - 1).toNat < t by omega), vals_get g ins (show (l / 2 - 1).toNat < n by omega)]
/-- Is a literal, by inputs? -/
def truth (g : List Gt) (ins : List Bool) (l : Int) : Bool := evalL (vals g ins g.length) l
theorem truth_lt {g : List Gt} {ins : List Bool} {l : Int} (h : l < 2) : truth g ins l = (l == 1) := by unfold truth evalL; rw [if_pos h]
theorem truth_node {g : List Gt} {ins : List Bool} (hm : mayG g = true) {i : Nat} (hi : i < g.length) {l : Int} (hl : l / 2 = i + 1) (h2 : 2 ≤ l) :
    truth g ins l = !((if 0 ≤ (g.getD i (0, 0)).1 then truth g ins (g.getD i (0, 0)).1 && truth g ins (g.getD i (0, 0)).2 else ins.getD (cntIn g i) false) == (l % 2 == 1)) := by
  conv => lhs; unfold truth evalL
  rw [if_neg (by omega), show (l / 2 - 1).toNat = i by omega, vals_get g ins hi]
  congr 2
  unfold nodeV
  split
  · rename_i h0
    have hb := okG_and (mayG_at hm hi) h0
    rw [evalL_vals g ins (Nat.le_of_lt hi) (by omega), evalL_vals g ins (Nat.le_of_lt hi) (by omega)]
    rfl
  · rfl
def askedP (g : List Gt) (cs : List (List Int)) (ins : List Bool) : Bool := cs.all fun c => c.any (truth g ins)
end Go.TsP
/- The row of layer 10 in plain numbers. -/
namespace Go.Luby

def bl (n : Nat) : Nat := if n = 0 then 0 else n.log2 + 1

theorem bl_lt (n : Nat) : n < 2 ^ bl n := by
  unfold bl
  split
  · subst_vars; decide
  · exact Nat.lt_log2_self

theorem bl_le {n : Nat} (h : 0 < n) : 1 ≤ bl n ∧ 2 ^ (bl n - 1) ≤ n := by
  unfold bl
  rw [if_neg (by omega)]
  exact ⟨by omega, by simpa using Nat.log2_self_le (by omega)⟩

theorem bl_uniq {n k : Nat} (h1 : n < 2 ^ k) (h2 : k = 0 ∨ 2 ^ (k - 1) ≤ n) : bl n = k := by
  rcases Nat.eq_zero_or_pos n with h0 | h0
  · subst h0
    rcases h2 with h2 | h2
    · subst h2; rfl
    · have := Nat.two_pow_pos (k - 1); omega
  · obtain ⟨g1, g2⟩ := bl_le h0
    have g3 := bl_lt n
    rcases Nat.lt_trichotomy (bl n) k with h | h | h
    · have : 2 ^ bl n ≤ 2 ^ (k - 1) := Nat.pow_le_pow_right (by omega) (by omega)
      omega
    · exact h
    · have : 2 ^ k ≤ 2 ^ (bl n - 1) := Nat.pow_le_pow_right (by omega) (by omega)
      omega

theorem bl_bound {n k : Nat} (h : n < 2 ^ k) : bl n ≤ k := by
  rcases Nat.eq_zero_or_pos n with h0 | h0
  · subst h0; exact Nat.zero_le _
  · obtain ⟨g1, g2⟩ := bl_le h0
    rcases Nat.lt_or_ge k (bl n) with h' | h'
    · have : 2 ^ k ≤ 2 ^ (bl n - 1) := Nat.pow_le_pow_right (by omega) (by omega)
      omega
    · exact h'

theorem two_pow_succ (k : Nat) : 2 ^ (k + 1) = 2 * 2 ^ k := by rw [Nat.pow_succ, Nat.mul_comm]

theorem bl_pos2 {n : Nat} (h : 0 < n) (hf : n + 1 ≠ 2 ^ bl n) : 2 ≤ bl n ∧ 1 ≤ 2 ^ (bl n - 1) - 1 ∧ 2 ^ (bl n - 1) - 1 < n := by
  obtain ⟨g1, g2⟩ := bl_le h
  have h2 : 2 ≤ bl n := by
    rcases Nat.lt_or_ge (bl n) 2 with h' | h'
    · have e : bl n = 1 := by omega
      have := bl_lt n
      rw [e] at this hf
      omega
    · exact h'
  obtain ⟨j, hj⟩ : ∃ j, bl n = j + 2 := ⟨bl n - 2, by omega⟩
  rw [hj] at g2 ⊢
  have e : j + 2 - 1 = j + 1 := by omega
  rw [e] at g2 ⊢
  have := two_pow_succ j
  have := Nat.two_pow_pos j
  omega

/-- A number of the row. -/
def lub (i : Nat) : Nat := if h : i + 1 = 2 ^ bl i then 2 ^ (bl i - 1) else lub (i - (2 ^ (bl i - 1) - 1))
termination_by i
decreasing_by
  have h0 : 0 < i := by
    rcases Nat.eq_zero_or_pos i with h0 | h0
    · subst h0; exact absurd rfl h
    · exact h0
  have := bl_pos2 h0 h
  omega

theorem lub_full {i : Nat} (h : i + 1 = 2 ^ bl i) : lub i = 2 ^ (bl i - 1) := by rw [lub, dif_pos h]
theorem lub_rest {i : Nat} (h : i + 1 ≠ 2 ^ bl i) : lub i = lub (i - (2 ^ (bl i - 1) - 1)) := by rw [lub, dif_neg h]

theorem bl_of_full (k : Nat) : bl (2 ^ (k + 1) - 1) = k + 1 := by
  have := Nat.two_pow_pos k
  have := two_pow_succ k
  refine bl_uniq (by omega) (.inr ?_)
  simp
  omega

theorem lub_at_full (k : Nat) : lub (2 ^ (k + 1) - 1) = 2 ^ k := by
  have := Nat.two_pow_pos (k + 1)
  rw [lub_full (by rw [bl_of_full]; omega), bl_of_full]
  simp

/-- Behind a full part stands what stands at the beginning. -/
theorem lub_behind {k i : Nat} (h1 : 1 ≤ i) (h2 : i ≤ 2 ^ k - 1) : lub (2 ^ k - 1 + i) = lub i := by
  have := Nat.two_pow_pos k
  have hb : bl (2 ^ k - 1 + i) = k + 1 := by
    have := two_pow_succ k
    exact bl_uniq (by omega) (.inr (by simp; omega))
  have hs := two_pow_succ k
  rw [lub_rest (by rw [hb]; omega), hb]
  simp only [Nat.add_sub_cancel]
  congr 1
  omega

theorem lub_pow : ∀ i : Nat, ∃ j, lub i = 2 ^ j := by
  intro i
  induction i using Nat.strongRecOn with
  | _ i ih =>
    by_cases h : i + 1 = 2 ^ bl i
    · exact ⟨_, lub_full h⟩
    · rw [lub_rest h]
      have h0 : 0 < i := by
        rcases Nat.eq_zero_or_pos i with h0 | h0
        · subst h0; exact absurd rfl h
        · exact h0
      have := bl_pos2 h0 h
      exact ih _ (by omega)

theorem lub_le : ∀ i : Nat, 1 ≤ i → lub i ≤ i := by
  intro i
  induction i using Nat.strongRecOn with
  | _ i ih =>
    intro h0
    by_cases h : i + 1 = 2 ^ bl i
    · rw [lub_full h]
      exact (bl_le h0).2
    · rw [lub_rest h]
      have := bl_pos2 h0 h
      have := ih (i - (2 ^ (bl i - 1) - 1)) (by omega) (by omega)
      omega

theorem lub_ge (i : Nat) : 1 ≤ lub i := by
  obtain ⟨j, hj⟩ := lub_pow i
  rw [hj]
  exact Nat.two_pow_pos j

/-- The first numbers, together. -/
def sum : Nat → Nat
  | 0 => 0
  | n + 1 => sum n + lub (n + 1)

theorem sum_behind (k : Nat) : ∀ i : Nat, i ≤ 2 ^ k - 1 → sum (2 ^ k - 1 + i) = sum (2 ^ k - 1) + sum i
  | 0, _ => by simp [sum]
  | i + 1, h => by
    have ih := sum_behind k i (by omega)
    show sum (2 ^ k - 1 + i + 1) = _
    simp only [sum]
    rw [ih, Nat.add_assoc (2 ^ k - 1) i 1, lub_behind (by omega) h]
    omega

theorem sum_full : ∀ k : Nat, sum (2 ^ k - 1) = k * 2 ^ k / 2
  | 0 => by simp [sum]
  | k + 1 => by
    have ih := sum_full k
    have hp := Nat.two_pow_pos k
    have hs := two_pow_succ k
    have h1 := sum_behind k (2 ^ k - 1) (Nat.le_refl _)
    have e : 2 ^ (k + 1) - 1 = (2 ^ k - 1 + (2 ^ k - 1)) + 1 := by omega
    rw [e]
    simp only [sum]
    rw [h1, ← e, lub_at_full, ih, hs]
    have : (k + 1) * (2 * 2 ^ k) = 2 * ((k + 1) * 2 ^ k) := by rw [Nat.mul_left_comm]
    rw [this, Nat.mul_div_cancel_left _ (by omega)]
    rcases k with _ | k
    · simp
    · have e2 : (k + 1) * 2 ^ (k + 1) / 2 = (k + 1) * 2 ^ k := by
        rw [two_pow_succ, Nat.mul_left_comm, Nat.mul_div_cancel_left _ (by omega)]
      rw [e2, two_pow_succ]
      have : (k + 1 + 1) * (2 * 2 ^ k) = 2 * ((k + 1) * 2 ^ k) + 2 * 2 ^ k := by
        rw [Nat.add_mul, Nat.one_mul, Nat.mul_left_comm]
      omega

/-- One full part at once. -/
theorem sum_step {n k : Nat} (hk : bl (n + 1) = k + 1) : 2 ^ k - 1 ≤ n ∧ sum n = k * 2 ^ k / 2 + sum (n - (2 ^ k - 1)) := by
  have h1 := bl_lt (n + 1)
  have h2 := (bl_le (n := n + 1) (by omega)).2
  rw [hk] at h1 h2
  simp at h2
  have hs := two_pow_succ k
  have hp := Nat.two_pow_pos k
  refine ⟨by omega, ?_⟩
  have := sum_behind k (n - (2 ^ k - 1)) (by omega)
  rw [← sum_full, ← this]
  congr 1
  omega

theorem sum_ge : ∀ n, n ≤ sum n
  | 0 => Nat.zero_le _
  | n + 1 => by have := sum_ge n; have := lub_ge (n + 1); simp only [sum]; omega

theorem sum_le : ∀ n, n < 2 ^ 31 → sum n ≤ 31 * n := by
  intro n
  induction n using Nat.strongRecOn with
  | _ n ih =>
    intro hn
    rcases Nat.eq_zero_or_pos n with h0 | h0
    · subst h0; simp [sum]
    · have hb : 1 ≤ bl (n + 1) := (bl_le (by omega)).1
      obtain ⟨k, hk⟩ : ∃ k, bl (n + 1) = k + 1 := ⟨bl (n + 1) - 1, by omega⟩
      have hk31 : k ≤ 31 := by
        have := bl_bound (n := n + 1) (k := 32) (by omega)
        omega
      obtain ⟨g1, g2⟩ := sum_step hk
      have hk1 : 1 ≤ k := by
        rcases Nat.eq_zero_or_pos k with h | h
        · subst h
          have := bl_lt (n + 1)
          rw [hk] at this
          omega
        · exact h
      obtain ⟨j, rfl⟩ : ∃ j, k = j + 1 := ⟨k - 1, by omega⟩
      have hs := two_pow_succ j
      have hp := Nat.two_pow_pos j
      have e : (j + 1) * 2 ^ (j + 1) / 2 = (j + 1) * 2 ^ j := by
        rw [hs, Nat.mul_left_comm, Nat.mul_div_cancel_left _ (by omega)]
      rw [e] at g2
      have := ih (n - (2 ^ (j + 1) - 1)) (by omega) (by omega)
      have : (j + 1) * 2 ^ j ≤ 31 * 2 ^ j := Nat.mul_le_mul_right _ hk31
      omega

end Go.Luby
/- Layer 15: what "and" makes of literals, plain. -/
namespace Go.AgP
open Go.TsP

theorem getD_app1 {g k : List Gt} {i : Nat} (h : i < g.length) (d : Gt) : (g ++ k).getD i d = g.getD i d := by
  simp [List.getD, List.getElem?_append_left h]
theorem getD_last {g : List Gt} (n d : Gt) : (g ++ [n]).getD g.length d = n := by simp [List.getD]
theorem cntIn_ext {g k : List Gt} : ∀ {t : Nat}, t ≤ g.length → cntIn (g ++ k) t = cntIn g t
  | 0, _ => rfl
  | t + 1, h => by rw [cntIn_succ, cntIn_succ, cntIn_ext (by omega), getD_app1 (by omega)]
theorem vals_ext {g k : List Gt} (ins : List Bool) : ∀ {t : Nat}, t ≤ g.length → vals (g ++ k) ins t = vals g ins t
  | 0, _ => rfl
  | t + 1, h => by
    rw [vals_succ, vals_succ, vals_ext ins (by omega)]
    unfold nodeV
    rw [getD_app1 (by omega), cntIn_ext (by omega)]
theorem truth_ext {g k : List Gt} {ins : List Bool} {l : Int} (hl : l ≤ 2 * g.length + 1) : truth (g ++ k) ins l = truth g ins l := by
  unfold truth
  rw [← vals_ext (k := k) ins (Nat.le_refl g.length)]
  exact (evalL_vals (g ++ k) ins (by simp) hl).symm
theorem mayG_iff {g : List Gt} : mayG g = true ↔ g.length ≤ 1048576 ∧ ∀ i, i < g.length → okG i (g.getD i (0, 0)) = true := by
  unfold mayG
  rw [Bool.and_eq_true, decide_eq_true_eq, List.all_eq_true]
  simp only [List.mem_range]
theorem mayG_add {g : List Gt} (hm : mayG g = true) (hl : g.length < 1048576) {n : Gt} (hn : okG g.length n = true) : mayG (g ++ [n]) = true := by
  rw [mayG_iff] at hm ⊢
  refine ⟨by simp; omega, fun i hi => ?_⟩
  by_cases e : i < g.length
  · rw [getD_app1 e]; exact hm.2 i e
  · have : i = g.length := by simp at hi; omega
    subst this
    rw [getD_last]; exact hn
theorem mayG_nil : mayG [] = true := rfl
theorem isL_bd {n : Nat} {l : Int} (h : isL n l = true) : 0 ≤ l ∧ l ≤ 2 * n + 1 := by simpa [isL] using h
theorem isL_of {n : Nat} {l : Int} (h : 0 ≤ l) (h2 : l ≤ 2 * n + 1) : isL n l = true := by simp [isL, h, h2]
theorem isL_mono {n m : Nat} {l : Int} (h : isL n l = true) (hm : n ≤ m) : isL m l = true := by
  have := isL_bd h
  exact isL_of this.1 (by omega)
theorem flip_bd {n : Nat} {l : Int} (h : isL n l = true) : isL n (flipL l) = true := by
  have := isL_bd h
  unfold flipL
  refine isL_of ?_ ?_ <;> split <;> omega
theorem flip_flip (l : Int) : flipL (flipL l) = l := by unfold flipL; split <;> split <;> omega
theorem truth_flip {g : List Gt} {ins : List Bool} {l : Int} (h : 0 ≤ l) : truth g ins (flipL l) = !truth g ins l := by
  unfold truth evalL
  by_cases e : l < 2
  · have : l = 0 ∨ l = 1 := by omega
    rcases this with rfl | rfl <;> rfl
  · have hf : ¬ flipL l < 2 := by unfold flipL; split <;> omega
    have hd : flipL l / 2 = l / 2 := by unfold flipL; split <;> omega
    rw [if_neg e, if_neg hf, hd]
    generalize (vals g ins g.length).getD (l / 2 - 1).toNat false = v
    by_cases e2 : l % 2 = 0
    · have : flipL l % 2 = 1 := by unfold flipL; rw [if_pos e2]; omega
      rw [this, e2]; cases v <;> rfl
    · have e3 : l % 2 = 1 := by omega
      have : flipL l % 2 = 0 := by unfold flipL; rw [if_neg e2]; omega
      rw [this, e3]; cases v <;> rfl
theorem okG_lits {n : Nat} {a b : Int} (ha : isL n a = true) (hb : isL n b = true) : okG n (a, b) = true := by
  have h1 := isL_bd ha
  have h2 := isL_bd hb
  unfold okG
  rw [decide_eq_true (p := _ ∧ _) ⟨h1.1, h2.1, h1.2, h2.2⟩, Bool.or_true]

/-- An "and" node's literal, by its two. -/
theorem truth_kid {g : List Gt} {ins : List Bool} (hm : mayG g = true) {i : Nat} (hi : i < g.length) {c d : Int} (hg : g.getD i (0, 0) = (c, d)) (hc : 0 ≤ c) {l : Int} (hl : l / 2 = i + 1) :
    truth g ins l = if l % 2 = 0 then truth g ins c && truth g ins d else !(truth g ins c && truth g ins d) := by
  rw [truth_node hm hi hl (by omega), hg, if_pos hc]
  by_cases e : l % 2 = 0
  · rw [if_pos e, e]; cases (truth g ins c && truth g ins d) <;> rfl
  · rw [if_neg e, show l % 2 = 1 by omega]; cases (truth g ins c && truth g ins d) <;> rfl
theorem kid_bd {g : List Gt} (hm : mayG g = true) {i : Nat} (hi : i < g.length) {c d : Int} (hg : g.getD i (0, 0) = (c, d)) (hc : 0 ≤ c) : isL i c = true ∧ isL i d = true := by
  have := okG_and (mayG_at hm hi) (by rw [hg]; exact hc)
  rw [hg] at this
  exact ⟨isL_of hc this.2.1, isL_of this.1 this.2.2⟩
theorem truth_new {g : List Gt} {ins : List Bool} (hm : mayG g = true) (hl : g.length < 1048576) {a b : Int} (ha : isL g.length a = true) (hb : isL g.length b = true) :
    truth (g ++ [(a, b)]) ins (2 * ((g.length + 1 : Nat) : Int)) = (truth g ins a && truth g ins b) := by
  have h1 := isL_bd ha
  have h2 := isL_bd hb
  rw [truth_kid (mayG_add hm hl (okG_lits ha hb)) (i := g.length) (by simp) (getD_last _ _) h1.1 (by omega), if_pos (by omega), truth_ext (by omega), truth_ext (by omega)]
theorem truth_in {g : List Gt} {ins : List Bool} (hm : mayG g = true) (hl : g.length < 1048576) : truth (g ++ [(-1, -1)]) ins (2 * ((g.length + 1 : Nat) : Int)) = ins.getD (cntIn g g.length) false := by
  rw [truth_node (mayG_add hm hl (n := (-1, -1)) rfl) (i := g.length) (by simp) (by omega) (by omega), getD_last, if_neg (by decide), cntIn_ext (Nat.le_refl _), show (2 * ((g.length + 1 : Nat) : Int)) % 2 = 0 by omega]
  cases ins.getD (cntIn g g.length) false <;> rfl

/-- What was made of a graph: a literal that is so. -/
structure Mk (x y : List Gt) (m : Nat) (l : Int) (f : List Bool → Bool) : Prop where
  ext : ∃ k, y = x ++ k ∧ k.length ≤ m
  may : mayG y = true
  lit : isL y.length l = true
  tr : ∀ ins, truth y ins l = f ins
theorem Mk.len {x y : List Gt} {m : Nat} {l : Int} {f : List Bool → Bool} (h : Mk x y m l f) : x.length ≤ y.length ∧ y.length ≤ x.length + m := by
  obtain ⟨k, rfl, hk⟩ := h.ext
  rw [List.length_append]; omega
theorem Mk.same {x : List Gt} (hm : mayG x = true) {l : Int} (hl : isL x.length l = true) {f : List Bool → Bool} (h : ∀ ins, truth x ins l = f ins) (m : Nat) : Mk x x m l f :=
  ⟨⟨[], by simp, by simp⟩, hm, hl, h⟩
theorem Mk.mono {x y : List Gt} {m n : Nat} {l : Int} {f : List Bool → Bool} (h : Mk x y m l f) (hm : m ≤ n) : Mk x y n l f := by
  obtain ⟨k, rfl, hk⟩ := h.ext
  exact ⟨⟨k, rfl, by omega⟩, h.may, h.lit, h.tr⟩
theorem Mk.congr {x y : List Gt} {m : Nat} {l : Int} {f g : List Bool → Bool} (h : Mk x y m l f) (e : ∀ ins, f ins = g ins) : Mk x y m l g := ⟨h.ext, h.may, h.lit, fun ins => (h.tr ins).trans (e ins)⟩
/-- A graph grew. -/
def Ext (x y : List Gt) (m : Nat) : Prop := ∃ k, y = x ++ k ∧ k.length ≤ m
theorem Ext.refl (x : List Gt) (m : Nat) : Ext x x m := ⟨[], by simp, by simp⟩
theorem Ext.trans {x y z : List Gt} {m n : Nat} (h : Ext x y m) (k : Ext y z n) : Ext x z (m + n) := by
  obtain ⟨a, rfl, ha⟩ := h
  obtain ⟨b, rfl, hb⟩ := k
  exact ⟨a ++ b, by rw [List.append_assoc], by rw [List.length_append]; omega⟩
theorem Ext.len {x y : List Gt} {m : Nat} (h : Ext x y m) : x.length ≤ y.length ∧ y.length ≤ x.length + m := by
  obtain ⟨k, rfl, hk⟩ := h
  rw [List.length_append]; omega
theorem Ext.mono {x y : List Gt} {m n : Nat} (h : Ext x y m) (hm : m ≤ n) : Ext x y n := by
  obtain ⟨k, rfl, hk⟩ := h
  exact ⟨k, rfl, by omega⟩
theorem Ext.truth {x y : List Gt} {m : Nat} (h : Ext x y m) {ins : List Bool} {l : Int} (hl : isL x.length l = true) : TsP.truth y ins l = TsP.truth x ins l := by
  obtain ⟨k, rfl, _⟩ := h
  exact truth_ext (isL_bd hl).2
theorem Ext.isL {x y : List Gt} {m : Nat} (h : Ext x y m) {l : Int} (hl : TsP.isL x.length l = true) : TsP.isL y.length l = true := isL_mono hl h.len.1
theorem Mk.after {x y z : List Gt} {m n : Nat} {l : Int} {f : List Bool → Bool} (h : Ext x y m) (k : Mk y z n l f) : Mk x z (m + n) l f := ⟨h.trans k.ext, k.may, k.lit, k.tr⟩
abbrev And2 (x : List Gt) (a b : Int) : List Bool → Bool := fun ins => truth x ins a && truth x ins b

theorem mk_no {x : List Gt} {a b : Int} (hm : mayG x = true) (ha : isL x.length a = true) (h : a = 0 ∨ flipL a = b) : Mk x x 1 0 (And2 x a b) := by
  refine Mk.same hm (isL_of (by omega) (by omega)) (fun ins => ?_) 1
  show truth x ins 0 = (truth x ins a && truth x ins b)
  rw [truth_lt (by omega)]
  rcases h with rfl | rfl
  · rw [truth_lt (l := 0) (by omega)]; rfl
  · rw [truth_flip (isL_bd ha).1]; cases truth x ins a <;> rfl
theorem mk_b {x : List Gt} {a b : Int} (hm : mayG x = true) (hb : isL x.length b = true) (h : a = 1 ∨ a = b) : Mk x x 1 b (And2 x a b) := by
  refine Mk.same hm hb (fun ins => ?_) 1
  show truth x ins b = (truth x ins a && truth x ins b)
  rcases h with rfl | rfl
  · rw [truth_lt (l := 1) (by omega)]; rfl
  · rw [Bool.and_self]
theorem mk_plain {x : List Gt} {a b : Int} (hm : mayG x = true) (hb : isL x.length b = true) {i : Nat} (hi : i < x.length) {c d : Int} (hg : x.getD i (0, 0) = (c, d)) (hc : 0 ≤ c) (hbi : b / 2 = i + 1) (he : b % 2 = 0) (h : a = c ∨ a = d) : Mk x x 1 b (And2 x a b) := by
  refine Mk.same hm hb (fun ins => ?_) 1
  show truth x ins b = (truth x ins a && truth x ins b)
  rw [truth_kid hm hi hg hc hbi, if_pos he]
  rcases h with rfl | rfl
  · cases truth x ins a <;> rfl
  · cases truth x ins a <;> cases truth x ins c <;> rfl
theorem mk_plain0 {x : List Gt} {a b : Int} (hm : mayG x = true) (ha : isL x.length a = true) {i : Nat} (hi : i < x.length) {c d : Int} (hg : x.getD i (0, 0) = (c, d)) (hc : 0 ≤ c) (hbi : b / 2 = i + 1) (he : b % 2 = 0) (h : flipL a = c ∨ flipL a = d) : Mk x x 1 0 (And2 x a b) := by
  refine Mk.same hm (isL_of (by omega) (by omega)) (fun ins => ?_) 1
  show truth x ins 0 = (truth x ins a && truth x ins b)
  rw [truth_kid (l := b) hm hi hg hc hbi, if_pos he, truth_lt (by omega)]
  have ef : truth x ins (flipL a) = !truth x ins a := truth_flip (isL_bd ha).1
  rcases h with e | e
  · rw [e] at ef
    rw [ef]; cases truth x ins a <;> rfl
  · rw [e] at ef
    rw [ef]; cases truth x ins a <;> cases truth x ins c <;> rfl
theorem mk_turned {x : List Gt} {a b : Int} (hm : mayG x = true) (ha : isL x.length a = true) {i : Nat} (hi : i < x.length) {c d : Int} (hg : x.getD i (0, 0) = (c, d)) (hc : 0 ≤ c) (hbi : b / 2 = i + 1) (he : b % 2 ≠ 0) (h : flipL a = c ∨ flipL a = d) : Mk x x 1 a (And2 x a b) := by
  refine Mk.same hm ha (fun ins => ?_) 1
  show truth x ins a = (truth x ins a && truth x ins b)
  rw [truth_kid (l := b) hm hi hg hc hbi, if_neg he]
  have ef : truth x ins (flipL a) = !truth x ins a := truth_flip (isL_bd ha).1
  rcases h with e | e
  · rw [e] at ef
    rw [ef]; cases truth x ins a <;> rfl
  · rw [e] at ef
    rw [ef]; cases truth x ins a <;> cases truth x ins c <;> rfl
theorem mk_other {x : List Gt} {a b : Int} (hm : mayG x = true) {i : Nat} (hi : i < x.length) {c d : Int} (hg : x.getD i (0, 0) = (c, d)) (hc : 0 ≤ c) (hbi : b / 2 = i + 1) {y : List Gt} {l : Int} (he : b % 2 ≠ 0) (h : a = c ∧ Mk x y 1 l (And2 x a (flipL d)) ∨ a = d ∧ Mk x y 1 l (And2 x a (flipL c))) : Mk x y 1 l (And2 x a b) := by
  have hk := kid_bd hm hi hg hc
  rcases h with ⟨e, h⟩ | ⟨e, h⟩
  · refine h.congr fun ins => ?_
    show (truth x ins a && truth x ins (flipL d)) = (truth x ins a && truth x ins b)
    rw [truth_kid (l := b) hm hi hg hc hbi, if_neg he, truth_flip (isL_bd hk.2).1, ← e]
    cases truth x ins a <;> rfl
  · refine h.congr fun ins => ?_
    show (truth x ins a && truth x ins (flipL c)) = (truth x ins a && truth x ins b)
    rw [truth_kid (l := b) hm hi hg hc hbi, if_neg he, truth_flip (isL_bd hk.1).1, ← e]
    cases truth x ins a <;> cases truth x ins c <;> rfl
theorem Mk.comm {x y : List Gt} {a b l : Int} {m : Nat} (h : Mk x y m l (And2 x a b)) : Mk x y m l (And2 x b a) := h.congr fun _ => Bool.and_comm _ _
/-- A node that is there. -/
theorem mk_at {x : List Gt} {a b : Int} (hm : mayG x = true) {i : Nat} (hi : i < x.length) (hg : x.getD i (0, 0) = (a, b)) (ha : 0 ≤ a) : Mk x x 1 (2 * ((i + 1 : Nat) : Int)) (And2 x a b) := by
  refine Mk.same hm (isL_of (by omega) (by omega)) (fun ins => ?_) 1
  rw [truth_kid hm hi hg ha (by omega), if_pos (by omega)]
/-- A node more. -/
theorem mk_new {x : List Gt} {a b : Int} (hm : mayG x = true) (hl : x.length < 1048576) (ha : isL x.length a = true) (hb : isL x.length b = true) : Mk x (x ++ [(a, b)]) 1 (2 * ((x.length + 1 : Nat) : Int)) (And2 x a b) :=
  ⟨⟨_, rfl, Nat.le_refl _⟩, mayG_add hm hl (okG_lits ha hb), isL_of (by omega) (by simp; omega), fun _ => truth_new hm hl ha hb⟩
end Go.AgP
/- Layers 16 and 17: words' numbers, and how many literals are true, plain. -/
namespace Go.AgP
open Go.TsP Go.Luby

def numL (g : List Gt) (ins : List Bool) : List Int → Nat
  | [] => 0
  | l :: t => (truth g ins l).toNat + 2 * numL g ins t
def allL (n : Nat) (a : List Int) : Prop := ∀ l ∈ a, isL n l = true
theorem allL.mono {n m : Nat} {a : List Int} (h : allL n a) (hm : n ≤ m) : allL m a := fun l hl => isL_mono (h l hl) hm
theorem allL.app {n : Nat} {a b : List Int} (h : allL n a) (k : allL n b) : allL n (a ++ b) := fun l hl => by
  rcases List.mem_append.1 hl with e | e
  · exact h l e
  · exact k l e
theorem allL.one {n : Nat} {l : Int} (h : isL n l = true) : allL n [l] := fun x hx => by rw [List.mem_singleton.1 hx]; exact h
theorem allL.nil {n : Nat} : allL n [] := fun x hx => by simp at hx
theorem allL.take {n k : Nat} {a : List Int} (h : allL n a) : allL n (a.take k) := fun l hl => h l (List.mem_of_mem_take hl)
theorem allL.drop {n k : Nat} {a : List Int} (h : allL n a) : allL n (a.drop k) := fun l hl => h l (List.mem_of_mem_drop hl)
theorem numL_snoc (g : List Gt) (ins : List Bool) : ∀ (a : List Int) (l : Int), numL g ins (a ++ [l]) = numL g ins a + 2 ^ a.length * (truth g ins l).toNat
  | [], l => by simp [numL]
  | x :: a, l => by
    simp only [List.cons_append, numL, numL_snoc g ins a l, List.length_cons, Nat.pow_succ]
    rw [Nat.mul_add, Nat.mul_comm (2 ^ a.length) 2, Nat.mul_assoc]; omega
theorem numL_ext {x y : List Gt} {m : Nat} (h : Ext x y m) {ins : List Bool} : ∀ {a : List Int}, allL x.length a → numL y ins a = numL x ins a
  | [], _ => rfl
  | l :: a, ha => by
    simp only [numL]
    rw [h.truth (ha l (by simp)), numL_ext h fun z hz => ha z (List.mem_cons_of_mem _ hz)]
theorem numL_lt (g : List Gt) (ins : List Bool) : ∀ a : List Int, numL g ins a < 2 ^ a.length
  | [] => by simp [numL]
  | l :: a => by
    have := numL_lt g ins a
    simp only [numL, List.length_cons, Nat.pow_succ]
    cases truth g ins l <;> simp <;> omega
theorem numL_zero (g : List Gt) (ins : List Bool) (a : List Int) : numL g ins (a ++ [0]) = numL g ins a := by
  rw [numL_snoc, truth_lt (by omega)]; simp
theorem adder (a b c : Bool) : ((a ^^ b) ^^ c).toNat + 2 * ((a && b) || ((a ^^ b) && c)).toNat = a.toNat + b.toNat + c.toNat := by
  cases a <;> cases b <;> cases c <;> rfl
theorem take_snoc {a : List Int} {i : Nat} (h : i < a.length) : a.take (i + 1) = a.take i ++ [a.getD i 0] := by
  have : a[i]? = some (a.getD i 0) := by simp [List.getD, h]
  rw [List.take_add_one, this]; rfl
/-- One bit more of a sum. -/
theorem sum_step {g : List Gt} {ins : List Bool} {out : List Int} {i : Nat} {sa sb : Nat} {s c c' : Int} {k : Nat} (ho : out.length = i)
    (h : numL g ins out + 2 ^ i * (truth g ins c).toNat = sa + sb + k) {ta tb : Bool}
    (hs : truth g ins s = ((ta ^^ tb) ^^ truth g ins c)) (hc : truth g ins c' = ((ta && tb) || ((ta ^^ tb) && truth g ins c))) :
    numL g ins (out ++ [s]) + 2 ^ (i + 1) * (truth g ins c').toNat = (sa + 2 ^ i * ta.toNat) + (sb + 2 ^ i * tb.toNat) + k := by
  have e := adder ta tb (truth g ins c)
  rw [numL_snoc, ho, hs, hc]
  have e2 : 2 ^ i * (((ta ^^ tb) ^^ truth g ins c).toNat + 2 * ((ta && tb) || ((ta ^^ tb) && truth g ins c)).toNat) = 2 ^ i * (ta.toNat + tb.toNat + (truth g ins c).toNat) := by rw [e]
  rw [Nat.mul_add, Nat.mul_add, Nat.mul_add, ← Nat.mul_assoc] at e2
  rw [Nat.pow_succ]
  omega
theorem bl_mono {a b : Nat} (h : a ≤ b) : bl a ≤ bl b := by
  rcases Nat.eq_zero_or_pos a with e | e
  · subst e; exact Nat.zero_le _
  · have h1 := (bl_le e).2
    have h2 := bl_lt b
    rcases Nat.lt_or_ge (bl b) (bl a) with h' | h'
    · have : 2 ^ bl b ≤ 2 ^ (bl a - 1) := Nat.pow_le_pow_right (by omega) (by omega)
      omega
    · exact h'
/-- How many bits are enough. -/
def enuf (n : Nat) : Nat := if bl n ≤ 1 then 1 else bl n
theorem enuf_pos (n : Nat) : 1 ≤ enuf n := by unfold enuf; split <;> omega
theorem enuf_mono {a b : Nat} (h : a ≤ b) : enuf a ≤ enuf b := by
  have := bl_mono h
  unfold enuf
  split <;> split <;> omega
theorem enuf_lt (n : Nat) : n < 2 ^ enuf n := by
  have h1 := bl_lt n
  refine Nat.lt_of_lt_of_le h1 (Nat.pow_le_pow_right (by omega) ?_)
  unfold enuf
  split <;> omega
theorem enuf_le {n : Nat} (h : n ≤ 64) : enuf n ≤ 7 := by
  have : enuf 64 = 7 := by decide
  have := enuf_mono h
  omega
def cntT (g : List Gt) (ins : List Bool) (l : List Int) : Nat := l.countP (truth g ins)
theorem cntT_ext {x y : List Gt} {m : Nat} (h : Ext x y m) {ins : List Bool} {a : List Int} (ha : allL x.length a) : cntT y ins a = cntT x ins a := by
  unfold cntT
  exact List.countP_congr fun l hl => by rw [h.truth (ha l hl)]
theorem cntT_half (g : List Gt) (ins : List Bool) (l : List Int) (h : Nat) : cntT g ins (l.take h) + cntT g ins (l.drop h) = cntT g ins l := by
  unfold cntT
  rw [← List.countP_append, List.take_append_drop]
theorem cntT_le (g : List Gt) (ins : List Bool) (l : List Int) : cntT g ins l ≤ l.length := List.countP_le_length
end Go.AgP
/- Where a thing stands in an order: how many are ahead of it. -/
namespace Go.OrP

theorem place_eq {n : Nat} {S : Nat → Nat → Bool} (irr : ∀ i, i < n → S i i = false) (asym : ∀ i j, i < n → j < n → S i j = true → S j i = false) {L : List Nat} (hl : L.length = n) (hb : ∀ r, r < n → L.getD r 0 < n)
    (ho : ∀ r s, r < s → s < n → S (L.getD r 0) (L.getD s 0) = true) {i : Nat} (hi : i < n) : L.getD ((List.range n).countP fun k => k != i && S k i) 0 = i := by
  have gd : ∀ r (h : r < L.length), L.getD r 0 = L[r] := fun r h => by simp [List.getD, h]
  have nd : L.Nodup := by
    refine List.pairwise_iff_getElem.2 fun r s hr hs hrs e => ?_
    have h1 := ho r s hrs (by omega)
    rw [gd r hr, gd s hs, e, irr _ (by have := hb s (by omega); rw [gd s hs] at this; exact this)] at h1
    cases h1
  have bd : ∀ x ∈ L, x < n := fun x hx => by
    obtain ⟨r, hr, rfl⟩ := List.mem_iff_getElem.1 hx
    have := hb r (by omega)
    rwa [gd r hr] at this
  have all : ∀ j, j < n → j ∈ L := fun j hj => Classical.byContradiction fun hn => by
    have h1 : (j :: L).Nodup := List.nodup_cons.2 ⟨hn, nd⟩
    have := List.Nodup.length_le_of_subset h1 (l₂ := List.range n) fun y hy => by
      rcases List.mem_cons.1 hy with e | e
      · rw [e]; exact List.mem_range.2 hj
      · exact List.mem_range.2 (bd y e)
    simp at this
    omega
  have pm : (List.range n).Perm L := (List.perm_ext_iff_of_nodup List.nodup_range nd).2 fun x => ⟨fun h => all x (List.mem_range.1 h), fun h => List.mem_range.2 (bd x h)⟩
  rw [pm.countP_eq]
  obtain ⟨r, hr, e⟩ := List.mem_iff_getElem.1 (all i hi)
  have split : L = L.take r ++ i :: L.drop (r + 1) := by
    rw [← e, List.getElem_cons_drop, List.take_append_drop]
  have c1 : (L.take r).countP (fun k => k != i && S k i) = r := by
    have : (L.take r).length = r := by rw [List.length_take]; omega
    rw [List.countP_eq_length.2 (fun x hx => ?_), this]
    obtain ⟨s, hs, rfl⟩ := List.mem_iff_getElem.1 hx
    have hs' : s < r := by rw [this] at hs; exact hs
    rw [List.getElem_take]
    have h1 := ho s r hs' (by omega)
    rw [gd s (by omega), gd r hr, e] at h1
    rw [h1, Bool.and_true]
    have hne : L[s] ≠ i := fun e2 => by
      rw [e2, irr i hi] at h1; cases h1
    simpa using hne
  have c2 : (L.drop (r + 1)).countP (fun k => k != i && S k i) = 0 := by
    refine List.countP_eq_zero.2 fun x hx => ?_
    obtain ⟨s, hs, rfl⟩ := List.mem_iff_getElem.1 hx
    rw [List.getElem_drop]
    have hs' : r + 1 + s < L.length := by rw [List.length_drop] at hs; omega
    have h1 := ho r (r + 1 + s) (by omega) (by omega)
    rw [gd r hr, gd _ hs', e] at h1
    have hx' : L[r + 1 + s] < n := bd _ (List.getElem_mem hs')
    rw [asym i _ hi hx' h1]; simp
  have : L.countP (fun k => k != i && S k i) = r := by
    conv => lhs; rw [split]
    rw [List.countP_append, List.countP_cons, c1, c2]
    simp
  rw [this, gd r hr, e]
end Go.OrP
