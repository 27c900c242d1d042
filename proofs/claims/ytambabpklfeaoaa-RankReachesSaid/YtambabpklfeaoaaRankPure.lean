/- Tournaments whose degrees differ are orders. -/
namespace Go.RankP

def cB (f : Nat → Bool) : Nat → Nat
  | 0 => 0
  | n + 1 => cB f n + (f n).toNat

theorem cB_le (f : Nat → Bool) : ∀ n, cB f n ≤ n
  | 0 => Nat.le_refl _
  | n + 1 => by have := cB_le f n; have := Bool.toNat_le (f n); simp only [cB]; omega

theorem cB_lt {f : Nat → Bool} {i : Nat} (hf : f i = false) : ∀ n, i < n → cB f n < n
  | n + 1, h => by
    simp only [cB]
    by_cases e : i = n
    · subst e; have := cB_le f i; rw [hf]; simp; omega
    · have := cB_lt hf n (by omega); have := Bool.toNat_le (f n); omega

theorem cB_mono {f g : Nat → Bool} : ∀ n, (∀ k, k < n → f k = true → g k = true) → cB f n ≤ cB g n
  | 0, _ => Nat.le_refl _
  | n + 1, h => by
    simp only [cB]
    have ih := cB_mono n fun k hk => h k (by omega)
    have : (f n).toNat ≤ (g n).toNat := by
      cases hf : f n
      · simp
      · rw [h n (by omega) hf]; simp
    omega

theorem cB_strict {f g : Nat → Bool} {a : Nat} : ∀ n, a < n → f a = false → g a = true → (∀ k, k < n → f k = true → g k = true) → cB f n < cB g n
  | n + 1, ha, h1, h2, h => by
    simp only [cB]
    by_cases e : a = n
    · subst e
      have := cB_mono (f := f) (g := g) a fun k hk => h k (by omega)
      rw [h1, h2]; simp; omega
    · have ih := cB_strict n (by omega) h1 h2 fun k hk => h k (by omega)
      have : (f n).toNat ≤ (g n).toNat := by
        cases hf : f n
        · simp
        · rw [h n (by omega) hf]; simp
      omega

/-- Different elements are counted. -/
theorem cB_inj {f : Nat → Bool} : ∀ (n m : Nat) (g : Nat → Nat), (∀ j, j < m → g j < n ∧ f (g j) = true) → (∀ j k, j < m → k < m → g j = g k → j = k) → m ≤ cB f n := by
  intro n
  induction n with
  | zero =>
    intro m g h _
    rcases Nat.eq_zero_or_pos m with h0 | h0
    · omega
    · have := (h 0 h0).1; omega
  | succ n ih =>
    intro m g h hi
    simp only [cB]
    by_cases he : ∃ j, j < m ∧ g j = n
    · obtain ⟨j, j1, j2⟩ := he
      have hf : f n = true := by rw [← j2]; exact (h j j1).2
      have := ih (m - 1) (fun k => if k = j then g (m - 1) else g k) (fun k hk => by
        by_cases e : k = j
        · simp only [e, if_true]
          have h1 := h (m - 1) (by omega)
          have : g (m - 1) ≠ n := fun e2 => by
            have := hi (m - 1) j (by omega) j1 (by rw [e2, j2])
            omega
          exact ⟨by omega, h1.2⟩
        · simp only [e, if_false]
          have h1 := h k (by omega)
          have : g k ≠ n := fun e2 => e (hi k j (by omega) j1 (by rw [e2, j2]))
          exact ⟨by omega, h1.2⟩) (fun k l hk hl => by
        intro e3
        by_cases e : k = j
        · by_cases e2 : l = j
          · omega
          · simp only [e, e2, if_true, if_false] at e3
            have := hi _ _ (by omega) (by omega) e3; omega
        · by_cases e2 : l = j
          · simp only [e, e2, if_true, if_false] at e3
            have := hi _ _ (by omega) (by omega) e3; omega
          · simp only [e, e2, if_false] at e3
            exact hi _ _ (by omega) (by omega) e3)
      rw [hf]; simp; omega
    · have := ih m g (fun k hk => by
        have h1 := h k hk
        have : g k ≠ n := fun e => he ⟨k, hk, e⟩
        exact ⟨by omega, h1.2⟩) hi
      omega

variable {M : Nat → Nat → Bool} {n : Nat}

def deg (M : Nat → Nat → Bool) (n i : Nat) : Nat := cB (fun k => M k i) n

/-- In an order, who is ahead has the smaller degree. -/
theorem deg_lt (irr : ∀ i, i < n → M i i = false) (tr : ∀ i j k, i < n → j < n → k < n → M i j = true → M j k = true → M i k = true) {a b : Nat} (ha : a < n) (hb : b < n) (h : M a b = true) : deg M n a < deg M n b :=
  cB_strict n ha (irr a ha) h fun k hk hka => tr k a b hk ha hb hka h

/-- A list by degrees. -/
theorem by_deg {v : Nat → Nat} (anti : ∀ i j, i < n → j < n → i ≠ j → M i j ≠ M j i) (hv : ∀ r, r < n → v r < n ∧ deg M n (v r) = r) : ∀ r s, r < s → s < n → M (v r) (v s) = true := by
  have inj : ∀ r s, r < n → s < n → v r = v s → r = s := fun r s hr hs e => by
    have := (hv r hr).2; have := (hv s hs).2; rw [e] at *; omega
  intro r
  induction r using Nat.strongRecOn with
  | _ r ih =>
    intro s hrs hs
    rcases hc : M (v r) (v s) with _ | _
    · exfalso
      have hne : v r ≠ v s := fun e => by have := inj r s (by omega) hs e; omega
      have hsr : M (v s) (v r) = true := by
        have := anti _ _ (hv r (by omega)).1 (hv s hs).1 hne
        rw [hc] at this
        cases h : M (v s) (v r)
        · rw [h] at this; exact absurd rfl this
        · rfl
      have := cB_inj (f := fun k => M k (v r)) n (r + 1) (fun j => if j = r then v s else v j) (fun j hj => by
        by_cases e : j = r
        · simp only [e, if_true]; exact ⟨(hv s hs).1, hsr⟩
        · simp only [e, if_false]; exact ⟨(hv j (by omega)).1, ih j (by omega) r (by omega) (by omega)⟩) (fun j k hj hk e3 => by
        by_cases e : j = r
        · by_cases e2 : k = r
          · omega
          · simp only [e, e2, if_true, if_false] at e3
            have := inj _ _ hs (by omega) e3; omega
        · by_cases e2 : k = r
          · simp only [e, e2, if_true, if_false] at e3
            have := inj _ _ (by omega) hs e3; omega
          · simp only [e, e2, if_false] at e3
            exact inj _ _ (by omega) (by omega) e3)
      have hd := (hv r (by omega)).2
      unfold deg at hd
      omega
    · rfl

/-- So it is an order. -/
theorem ord_of_deg {v : Nat → Nat} (irr : ∀ i, i < n → M i i = false) (anti : ∀ i j, i < n → j < n → i ≠ j → M i j ≠ M j i) (hv : ∀ r, r < n → v r < n ∧ deg M n (v r) = r) (on : ∀ i, i < n → ∃ r, r < n ∧ v r = i) :
    ∀ i j k, i < n → j < n → k < n → M i j = true → M j k = true → M i k = true := by
  have bd := by_deg anti hv
  have lt : ∀ r s, r < n → s < n → M (v r) (v s) = true → r < s := by
    intro r s hr hs h
    rcases Nat.lt_trichotomy r s with h1 | h1 | h1
    · exact h1
    · subst h1; rw [irr _ (hv r hr).1] at h; cases h
    · have h2 := bd s r h1 hr
      exfalso
      by_cases e : v r = v s
      · rw [e, irr _ (hv s hs).1] at h; cases h
      · exact anti _ _ (hv r hr).1 (hv s hs).1 e (by rw [h, h2])
  intro i j k hi hj hk h1 h2
  obtain ⟨r, hr, rfl⟩ := on i hi
  obtain ⟨s, hs, rfl⟩ := on j hj
  obtain ⟨t, ht, rfl⟩ := on k hk
  have := lt r s hr hs h1
  have := lt s t hs ht h2
  exact bd r t (by omega) ht
end Go.RankP
