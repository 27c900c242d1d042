/- Heaps of variables, in plain numbers. -/
namespace Go.HeapP

def g (l : List Int) (i : Int) : Int := if i < 0 then 0 else l.getD i.toNat 0

theorem g_nn {l : List Int} {i : Int} (h : 0 ≤ i) : l.getD i.toNat 0 = g l i := by unfold g; rw [if_neg (by omega)]

theorem g_set {l : List Int} {i v : Int} (h0 : 0 ≤ i) (h1 : i < l.length) : g (l.set i.toNat v) = fun j => if j = i then v else g l j := by
  funext j
  unfold g
  simp only [List.getD_eq_getElem?_getD, List.getElem?_set]
  by_cases hj : j < 0
  · simp [hj]; omega
  · by_cases h : j = i
    · subst h
      simp [show j.toNat < l.length by omega, hj]
    · rw [if_neg hj, if_neg (by omega), if_neg h, if_neg hj]

/-- Is a better than c? -/
def Bt (S : Int → Int) (a c : Int) : Prop := S c < S a ∨ S a = S c ∧ a < c

theorem Bt.asymm {S a c} (h : Bt S a c) : ¬ Bt S c a := by unfold Bt at *; omega
theorem Bt.trans {S a b c} (h : Bt S a b) (k : Bt S b c) : Bt S a c := by unfold Bt at *; omega
theorem Bt.ntrans {S a b c} (h : ¬ Bt S a b) (k : ¬ Bt S b c) : ¬ Bt S a c := by unfold Bt at *; omega
theorem Bt.not_of {S a b c} (h : ¬ Bt S a b) (k : Bt S c b) : ¬ Bt S a c := by unfold Bt at *; omega

/-- Places and variables go with each other. -/
structure Pos (L A : Int → Int) (n N : Int) : Prop where
  fit : ∀ j, 0 ≤ j → j < n → 1 ≤ L j ∧ L j ≤ N ∧ A (L j) = j + 1
  back : ∀ v, 1 ≤ v → v ≤ N → 0 ≤ A v ∧ A v ≤ n ∧ (0 < A v → L (A v - 1) = v)

theorem Pos.inj {L A n N} (h : Pos L A n N) {j k : Int} (h1 : 0 ≤ j) (h2 : j < n) (h3 : 0 ≤ k) (h4 : k < n) (e : L j = L k) : j = k := by
  have a := h.fit j h1 h2; have b := h.fit k h3 h4
  rw [e] at a; omega

def swapL (L : Int → Int) (i p : Int) : Int → Int := fun j => if j = p then L i else if j = i then L p else L j
def swapA (L A : Int → Int) (i p : Int) : Int → Int := fun u => if u = L i then p + 1 else if u = L p then i + 1 else A u

theorem Pos.swap {L A n N} (h : Pos L A n N) {i p : Int} (h1 : 0 ≤ i) (h2 : i < n) (h3 : 0 ≤ p) (h4 : p < n) (hne : i ≠ p) : Pos (swapL L i p) (swapA L A i p) n N := by
  have fi := h.fit i h1 h2; have fp := h.fit p h3 h4
  have hn : L i ≠ L p := fun e => hne (h.inj h1 h2 h3 h4 e)
  constructor
  · intro j j1 j2
    have fj := h.fit j j1 j2
    unfold swapL swapA
    by_cases e1 : j = p
    · subst e1; simp; omega
    · by_cases e2 : j = i
      · subst e2; simp [hne, Ne.symm hn]; omega
      · have n1 : L j ≠ L i := fun e => e2 (h.inj j1 j2 h1 h2 e)
        have n2 : L j ≠ L p := fun e => e1 (h.inj j1 j2 h3 h4 e)
        simp [e1, e2, n1, n2]; omega
  · intro v v1 v2
    have bv := h.back v v1 v2
    unfold swapL swapA
    by_cases e1 : v = L i
    · subst e1; simp; omega
    · by_cases e2 : v = L p
      · subst e2; simp [Ne.symm hn, hne]; omega
      · simp only [e1, e2, if_false]
        refine ⟨bv.1, bv.2.1, fun hp => ?_⟩
        have := bv.2.2 hp
        have n1 : A v - 1 ≠ p := fun e => e2 (by rw [← e, this])
        have n2 : A v - 1 ≠ i := fun e => e1 (by rw [← e, this])
        simp [n1, n2, this]

theorem swapA_pos {L A n N} (h : Pos L A n N) {i p : Int} (h1 : 0 ≤ i) (h2 : i < n) (h3 : 0 ≤ p) (h4 : p < n) (u : Int) : 0 < swapA L A i p u ↔ 0 < A u := by
  have fi := h.fit i h1 h2; have fp := h.fit p h3 h4
  unfold swapA
  by_cases e1 : u = L i
  · subst e1; simp; omega
  · by_cases e2 : u = L p
    · subst e2; simp [e1]; omega
    · simp [e1, e2]

/-- Order from a place on, but for a place. -/
def Ord (S L : Int → Int) (n k x : Int) : Prop := ∀ j, 1 ≤ j → j < n → k ≤ (j - 1) / 2 → (j - 1) / 2 ≠ x → ¬ Bt S (L j) (L ((j - 1) / 2))
/-- Order, but for a place to its parent. -/
def OrdU (S L : Int → Int) (n x : Int) : Prop := (∀ j, 1 ≤ j → j < n → j ≠ x → ¬ Bt S (L j) (L ((j - 1) / 2))) ∧ (∀ j, 1 ≤ j → j < n → (j - 1) / 2 = x → 1 ≤ x → ¬ Bt S (L j) (L ((x - 1) / 2)))

theorem OrdU.step {S L n i} (h : OrdU S L n i) (h1 : 1 ≤ i) (h2 : i < n) (hb : Bt S (L i) (L ((i - 1) / 2))) : OrdU S (swapL L i ((i - 1) / 2)) n ((i - 1) / 2) := by
  obtain ⟨ha, hc⟩ := h
  have hp : (i - 1) / 2 < i := by omega
  constructor
  · intro j j1 j2 j3
    unfold swapL
    by_cases e : j = i
    · subst e
      rw [if_neg (by omega), if_pos rfl, if_pos rfl]
      exact hb.asymm
    · rw [if_neg j3, if_neg e]
      by_cases e2 : (j - 1) / 2 = (i - 1) / 2
      · rw [if_pos e2]
        have := ha j j1 j2 e
        rw [e2] at this
        exact Bt.not_of this hb
      · rw [if_neg e2]
        by_cases e3 : (j - 1) / 2 = i
        · rw [if_pos e3]; exact hc j j1 j2 e3 h1
        · rw [if_neg e3]; exact ha j j1 j2 e
  · intro j j1 j2 j3 j4
    have hpp := ha ((i - 1) / 2) j4 (by omega) (by omega)
    unfold swapL
    rw [if_neg (show ¬ ((i - 1) / 2 - 1) / 2 = (i - 1) / 2 by omega), if_neg (show ¬ ((i - 1) / 2 - 1) / 2 = i by omega)]
    by_cases e : j = i
    · subst e
      rw [if_neg (by omega), if_pos rfl]
      exact hpp
    · rw [if_neg (by omega), if_neg e]
      have := ha j j1 j2 e
      rw [j3] at this
      exact Bt.ntrans this hpp

theorem OrdU.done {S L n i} (h : OrdU S L n i) (hb : i ≤ 0 ∨ ¬ Bt S (L i) (L ((i - 1) / 2))) : Ord S L n 0 (-1) := by
  intro j j1 j2 _ _
  by_cases e : j = i
  · subst e; exact hb.resolve_left (by omega)
  · exact h.1 j j1 j2 e

/-- Order from a place on, one place being filled from above. -/
def OrdF (S L : Int → Int) (n k x : Int) : Prop := Ord S L n k x ∧ (∀ j, 1 ≤ j → j < n → (j - 1) / 2 = x → 1 ≤ x → k ≤ (x - 1) / 2 → ¬ Bt S (L j) (L ((x - 1) / 2)))

theorem OrdF.step {S L n k i c} (h : OrdF S L n k i) (hki : k ≤ i) (h0 : 0 ≤ i) (h1 : c < n) (hc : (c - 1) / 2 = i) (hc1 : 1 ≤ c) (hb : Bt S (L c) (L i)) (hbest : ∀ j, 1 ≤ j → j < n → (j - 1) / 2 = i → ¬ Bt S (L j) (L c)) : OrdF S (swapL L i c) n k c := by
  obtain ⟨ha, hd⟩ := h
  constructor
  · intro j j1 j2 j3 j4
    unfold swapL
    by_cases e : j = c
    · subst e
      rw [if_pos rfl, hc, if_neg (by omega), if_pos rfl]
      exact hb.asymm
    · rw [if_neg e, if_neg j4]
      by_cases e1 : j = i
      · subst e1
        rw [if_pos rfl, if_neg (by omega)]
        exact hd c hc1 h1 hc j1 j3
      · rw [if_neg e1]
        by_cases e2 : (j - 1) / 2 = i
        · rw [if_pos e2]; exact hbest j j1 j2 e2
        · rw [if_neg e2]; exact ha j j1 j2 j3 e2
  · intro j j1 j2 j3 j4 j5
    unfold swapL
    rw [if_neg (by omega), if_neg (by omega), hc, if_neg (by omega), if_pos rfl]
    have := ha j j1 j2 (by omega) (by omega)
    rw [j3] at this
    exact this

theorem OrdF.done {S L n k i} (h : OrdF S L n k i) (hb : ∀ j, 1 ≤ j → j < n → (j - 1) / 2 = i → ¬ Bt S (L j) (L i)) : Ord S L n k (-1) := by
  intro j j1 j2 j3 _
  by_cases e : (j - 1) / 2 = i
  · rw [e]; exact hb j j1 j2 e
  · exact h.1 j j1 j2 j3 e

/-- The first one is the best. -/
theorem Ord.best {S L n} (h : Ord S L n 0 (-1)) : ∀ m : Nat, (m : Int) < n → ¬ Bt S (L m) (L 0) := by
  intro m
  induction m using Nat.strongRecOn with
  | _ m ih =>
    intro hm
    rcases Nat.eq_zero_or_pos m with h0 | h0
    · subst h0; exact fun hb => hb.asymm hb
    · have h1 := h m (by omega) hm (by omega) (by omega)
      have h2 := ih ((m - 1) / 2) (by omega) (by omega)
      have e : (((m - 1) / 2 : Nat) : Int) = ((m : Int) - 1) / 2 := by omega
      rw [e] at h2
      exact Bt.ntrans h1 h2
theorem pigeon : ∀ (N n : Nat) (L : Nat → Int), (∀ j, j < n → 1 ≤ L j ∧ L j ≤ N) → (∀ j k, j < n → k < n → L j = L k → j = k) → n ≤ N := by
  intro N
  induction N with
  | zero =>
    intro n L h _
    rcases Nat.eq_zero_or_pos n with h0 | h0
    · omega
    · have := h 0 h0; omega
  | succ N ih =>
    intro n L h hi
    by_cases he : ∃ j, j < n ∧ L j = ((N + 1 : Nat) : Int)
    · obtain ⟨j, j1, j2⟩ := he
      have := ih (n - 1) (fun k => if k = j then L (n - 1) else L k) (fun k hk => by
        by_cases e : k = j
        · have h1 := h (n - 1) (by omega)
          have : L (n - 1) ≠ ((N + 1 : Nat) : Int) := fun e2 => by
            have := hi (n - 1) j (by omega) j1 (by rw [e2, j2])
            omega
          simp only [e, if_true]; omega
        · have h1 := h k (by omega)
          have : L k ≠ ((N + 1 : Nat) : Int) := fun e2 => e (hi k j (by omega) j1 (by rw [e2, j2]))
          simp only [e, if_false]; omega) (fun k m hk hm => by
        intro e3
        by_cases e : k = j
        · by_cases e2 : m = j
          · omega
          · simp only [e, e2, if_true, if_false] at e3
            have := hi _ _ (by omega) (by omega) e3; omega
        · by_cases e2 : m = j
          · simp only [e, e2, if_true, if_false] at e3
            have := hi _ _ (by omega) (by omega) e3; omega
          · simp only [e, e2, if_false] at e3
            exact hi _ _ (by omega) (by omega) e3)
      omega
    · have := ih n L (fun k hk => by
        have h1 := h k hk
        have : L k ≠ ((N + 1 : Nat) : Int) := fun e => he ⟨k, hk, e⟩
        omega) hi
      omega

theorem Pos.le {L A : Int → Int} {n N : Nat} (h : Pos L A n N) : n ≤ N :=
  pigeon N n (fun j => L j) (fun j hj => by have := h.fit j (by omega) (by omega); exact ⟨this.1, this.2.1⟩) fun j k hj hk e => by
    have := h.inj (j := j) (k := k) (by omega) (by omega) (by omega) (by omega) e; omega

theorem Pos.push {L A : Int → Int} {n N v : Int} (h : Pos L A n N) (n0 : 0 ≤ n) (v1 : 1 ≤ v) (v2 : v ≤ N) (hv : A v = 0) : Pos (fun j => if j = n then v else L j) (fun u => if u = v then n + 1 else A u) (n + 1) N := by
  constructor
  · intro j j0 j1
    by_cases e : j = n
    · subst e; simp; omega
    · have f := h.fit j j0 (by omega)
      have : L j ≠ v := fun e2 => by rw [e2] at f; omega
      simp only [e, if_false, this]; exact f
  · intro u u1 u2
    by_cases e : u = v
    · subst e; simp; omega
    · have f := h.back u u1 u2
      simp only [e, if_false]
      refine ⟨f.1, by omega, fun hp => ?_⟩
      rw [if_neg (by omega)]; exact f.2.2 hp

theorem Pos.pop {L A : Int → Int} {n N v : Int} (h : Pos L A (n + 1) N) (n0 : 0 ≤ n) (hv : L 0 = v) : Pos (fun j => if j = 0 then L n else L j) (fun u => if u = L n then (if n = 0 then 0 else 1) else if u = v then 0 else A u) n N := by
  have f0 := h.fit 0 (Int.le_refl _) (by omega)
  have fn := h.fit n n0 (by omega)
  constructor
  · intro j j0 j1
    by_cases e : j = 0
    · subst e; simp [show n ≠ 0 by omega]; omega
    · have f := h.fit j j0 (by omega)
      have n1 : L j ≠ v := fun e2 => e (h.inj j0 (by omega) (Int.le_refl _) (by omega) (by rw [e2, hv]))
      have n2 : L j ≠ L n := fun e2 => by have := h.inj j0 (by omega) n0 (by omega) e2; omega
      simp only [e, if_false, n1, n2]; exact f
  · intro u u1 u2
    have f := h.back u u1 u2
    by_cases e : u = L n
    · subst e
      simp only [if_true]
      split
      · omega
      · simp; omega
    · by_cases e2 : u = v
      · subst e2; simp [e, n0]
      · simp only [e, e2, if_false]
        have n1 : A u - 1 ≠ n ∨ A u = 0 := by
          by_cases hp : 0 < A u
          · left; intro e3; have := f.2.2 hp; rw [e3] at this; exact e this.symm
          · right; omega
        refine ⟨f.1, by omega, fun hp => ?_⟩
        have n2 : A u - 1 ≠ 0 := fun e3 => e2 (by have := f.2.2 hp; rw [e3] at this; rw [← this, hv])
        rw [if_neg n2]; exact f.2.2 hp
end Go.HeapP
