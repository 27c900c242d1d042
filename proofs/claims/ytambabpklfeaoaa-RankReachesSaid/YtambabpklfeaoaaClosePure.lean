/- What can be reached: by edges, by few edges, by a closure. -/
import Derived.Test.YtambabpklfeaoaaRankPure
namespace Go.RankP

/-- So many edges at most, one at least. -/
def rch (M : Nat → Nat → Bool) (n : Nat) : Nat → Nat → Nat → Prop
  | 0, i, j => M i j = true
  | d + 1, i, j => M i j = true ∨ ∃ k, k < n ∧ M i k = true ∧ rch M n d k j

theorem rch_up {M : Nat → Nat → Bool} {n : Nat} : ∀ d i j, rch M n d i j → rch M n (d + 1) i j
  | 0, _, _, h => .inl h
  | d + 1, _, j, h => h.imp id fun ⟨k, hk, h1, h2⟩ => ⟨k, hk, h1, rch_up d k j h2⟩
theorem rch_le {M : Nat → Nat → Bool} {n : Nat} {d e : Nat} (h : d ≤ e) {i j : Nat} (hr : rch M n d i j) : rch M n e i j := by
  induction h with
  | refl => exact hr
  | step _ ih => exact rch_up _ _ _ ih
theorem rch_add {M : Nat → Nat → Bool} {n : Nat} : ∀ d e i k j, k < n → rch M n d i k → rch M n e k j → rch M n (d + e + 1) i j
  | 0, e, i, k, j, hk, h1, h2 => by
    rw [Nat.zero_add]
    exact .inr ⟨k, hk, h1, h2⟩
  | d + 1, e, i, k, j, hk, h1, h2 => by
    rw [show d + 1 + e + 1 = (d + e + 1) + 1 by omega]
    rcases h1 with h1 | ⟨l, hl, h3, h4⟩
    · exact .inr ⟨k, hk, h1, rch_le (by omega) h2⟩
    · exact .inr ⟨l, hl, h3, rch_add d e l k j hk h4 h2⟩

open Classical in
/-- How many reach a place. -/
noncomputable def cnt (M : Nat → Nat → Bool) (n d j : Nat) : Nat := cB (fun i => decide (rch M n d i j)) n

/-- Either all is reached by so few edges, or more and more reach it. -/
theorem grow_or {M : Nat → Nat → Bool} {n j : Nat} : ∀ d, (∃ e, e ≤ d ∧ ∀ i, i < n → rch M n (e + 1) i j → rch M n e i j) ∨ d + 1 ≤ cnt M n d j ∨ (∀ i, i < n → ¬ rch M n 0 i j)
  | 0 => by
    by_cases h : ∃ i, i < n ∧ rch M n 0 i j
    · obtain ⟨i, hi, h⟩ := h
      right; left
      exact cB_inj n 1 (fun _ => i) (fun k _ => ⟨hi, by simpa using h⟩) fun a b ha hb _ => by omega
    · right; right
      exact fun i hi hr => h ⟨i, hi, hr⟩
  | d + 1 => by
    rcases grow_or (M := M) (n := n) (j := j) d with ⟨e, he, h⟩ | h | h
    · exact .inl ⟨e, by omega, h⟩
    · by_cases hs : ∀ i, i < n → rch M n (d + 1) i j → rch M n d i j
      · exact .inl ⟨d, by omega, hs⟩
      · right; left
        obtain ⟨a, ha⟩ := Classical.not_forall.1 hs
        obtain ⟨ha1, ha2⟩ := Classical.not_imp.1 ha
        obtain ⟨ha2, ha3⟩ := Classical.not_imp.1 ha2
        have := cB_strict (f := fun i => @decide (rch M n d i j) (Classical.propDecidable _)) (g := fun i => @decide (rch M n (d + 1) i j) (Classical.propDecidable _)) (a := a) n ha1 (by simpa using ha3) (by simpa using ha2) fun k _ hk => by
          have : rch M n d k j := by simpa using hk
          simpa using rch_up d k j this
        unfold cnt at h ⊢
        omega
    · exact .inr (.inr h)

theorem stable {M : Nat → Nat → Bool} {n j e : Nat} (h : ∀ i, i < n → rch M n (e + 1) i j → rch M n e i j) : ∀ d i, i < n → rch M n (e + d) i j → rch M n e i j
  | 0, i, _, hr => hr
  | d + 1, i, hi, hr => by
    rw [show e + (d + 1) = (e + d) + 1 by omega] at hr
    rcases hr with hr | ⟨k, hk, h1, h2⟩
    · exact rch_le (Nat.zero_le _) (show rch M n 0 i j from hr)
    · exact h i hi (.inr ⟨k, hk, h1, stable h d k hk h2⟩)

/-- n edges are enough. -/
theorem rch_short {M : Nat → Nat → Bool} {n : Nat} {d i j : Nat} (hi : i < n) (hr : rch M n d i j) : rch M n (n - 1) i j := by
  rcases grow_or (M := M) (n := n) (j := j) (n - 1) with ⟨e, he, h⟩ | h | h
  · have := stable h d i hi (rch_le (by omega) hr)
    exact rch_le he this
  · have full : ∀ i, i < n → rch M n (n - 1) i j := by
      intro i hi
      by_cases hc : rch M n (n - 1) i j
      · exact hc
      · exfalso
        have := cB_lt (f := fun i => @decide (rch M n (n - 1) i j) (Classical.propDecidable _)) (i := i) (by simpa using hc) n hi
        unfold cnt at h
        omega
    exact full i hi
  · exfalso
    have none : ∀ d i, i < n → ¬ rch M n d i j := by
      intro d
      induction d with
      | zero => exact h
      | succ d ih =>
        rintro i hi (h1 | ⟨k, hk, _, h2⟩)
        · exact h i hi h1
        · exact ih k hk h2
    exact none d i hi hr
/-- A closed square that has the edges has what can be reached. -/
theorem rch_in {M S : Nat → Nat → Bool} {n : Nat} (hE : ∀ i j, i < n → j < n → M i j = true → S i j = true) (hC : ∀ i j k, i < n → j < n → k < n → i ≠ j → j ≠ k → S i j = true → S j k = true → S i k = true) :
    ∀ d i j, i < n → j < n → rch M n d i j → S i j = true
  | 0, i, j, hi, hj, h => hE i j hi hj h
  | d + 1, i, j, hi, hj, h => by
    rcases h with h | ⟨k, hk, h1, h2⟩
    · exact hE i j hi hj h
    · have s1 := hE i k hi hk h1
      have s2 := rch_in hE hC d k j hk hj h2
      by_cases e1 : i = k
      · rw [e1]; exact s2
      · by_cases e2 : k = j
        · rw [← e2]; exact s1
        · exact hC i k j hi hk hj e1 e2 s1 s2

/-- One turn of the closing. -/
theorem turn {S S' : Nat → Nat → Bool} {n k : Nat} (hk : k < n) (h : ∀ i j, i < n → j < n → (S' i j = true ↔ S i j = true ∨ S i k = true ∧ S k j = true)) (T : ∀ i m j, i < n → m < k → j < n → S i m = true → S m j = true → S i j = true) :
    ∀ i m j, i < n → m < k + 1 → j < n → S' i m = true → S' m j = true → S' i j = true := by
  intro i m j hi hm hj h1 h2
  rw [h i m hi (by omega)] at h1
  rw [h m j (by omega) hj] at h2
  rw [h i j hi hj]
  by_cases e : m = k
  · subst e
    have g1 : S i m = true := h1.elim id fun h => h.1
    have g2 : S m j = true := h2.elim id fun h => h.2
    exact .inr ⟨g1, g2⟩
  · have hmk : m < k := by omega
    rcases h1 with h1 | ⟨h1, h1'⟩ <;> rcases h2 with h2 | ⟨h2, h2'⟩
    · exact .inl (T i m j hi hmk hj h1 h2)
    · exact .inr ⟨T i m k hi hmk hk h1 h2, h2'⟩
    · exact .inr ⟨h1, T k m j hk hmk hj h1' h2⟩
    · exact .inr ⟨h1, h2'⟩
end Go.RankP
