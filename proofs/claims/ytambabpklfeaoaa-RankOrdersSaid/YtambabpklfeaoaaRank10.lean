/- Layer 19: closed squares, for the document; squares that are filled. -/
import Derived.Test.YtambabpklfeaoaaRank9
namespace Go.Proofs.Ytambabpklfeaoaa.W
open Go Go.Fw Go.RowKit Go.RankP

def Clo (rows : List (List Bool)) (n : Nat) : Prop := ∀ i j k, i < n → j < n → k < n → i ≠ j → j ≠ k → mB rows i j = true → mB rows j k = true → mB rows i k = true

theorem refClosed_ok {w : World} {p : Option Addr} {n c : Nat} {hs : List Sl} {rows : List (List Bool)} (h : SqV w p n hs rows) :
    Calls Try.prog fathomref19_Closed.id #[.slice p n c] w fun e w' => (∃ b, e = .returned (.bool b) ∧ (b = true ↔ Clo rows n)) ∧ Grow w w' := by
  refine fathomref19_Closed.calls ?_
  have hn := h.n
  have hs40 := h.small
  have ew : ∀ t : Nat, t < n → IntKind.i64.wrap ((t : Int) + 1) = ((t + 1 : Nat) : Int) := fun t ht => by rw [wrap64_of (by omega) (by omega)]; omega
  have bad : ∀ w', ¬ Clo rows n → Grow w w' → ((∃ b, Ending.returned (.bool false) = .returned (.bool b) ∧ (b = true ↔ Clo rows n)) ∧ Grow w w') := fun w' hb G => ⟨⟨false, rfl, ⟨fun h => (by cases h), fun h => absurd h hb⟩⟩, G⟩
  let T := fun i j k => i ≠ j → j ≠ k → mB rows i j = true → mB rows j k = true → mB rows i k = true
  refine ⟨fun v w' k => ∃ i : Nat, v = i ∧ i ≤ n ∧ k + i = n ∧ (∀ i' j k, i' < i → j < n → k < n → T i' j k) ∧ Grow w w', ⟨n, 0, rfl, by omega, rfl, fun i' j k hi => by omega, Mod.refl w⟩, ?_⟩
  rintro v w5 k _ ⟨i, rfl, hi, hk, ha, G⟩
  refine cnd_i (fun q => ?_) (fun q => ?_) <;> simp only [decide_eq_true_eq, decide_eq_false_iff_not] at q
  · have hi' : i < n := by omega
    rw [ew i hi']
    refine ⟨fun v w' m => ∃ j : Nat, v = j ∧ j ≤ n ∧ m + j = n ∧ (∀ j' k, j' < j → k < n → T i j' k) ∧ Grow w w', ⟨n, 0, rfl, by omega, rfl, fun j' k hj => by omega, G⟩, ?_⟩
    rintro v w10 m _ ⟨j, rfl, hj, hm, hb, G⟩
    refine cnd_i (fun q2 => ?_) (fun q2 => ?_) <;> simp only [decide_eq_true_eq, decide_eq_false_iff_not] at q2
    · have hj' : j < n := by omega
      rw [ew j hj']
      refine ⟨fun v w' o => ∃ l : Nat, v = l ∧ l ≤ n ∧ o + l = n ∧ (∀ k, k < l → T i j k) ∧ Grow w w', ⟨n, 0, rfl, by omega, rfl, fun k hk => by omega, G⟩, ?_⟩
      rintro v w37 o _ ⟨l, rfl, hl, ho, hc, G⟩
      refine cnd_i (fun q3 => ?_) (fun q3 => ?_) <;> simp only [decide_eq_true_eq, decide_eq_false_iff_not] at q3
      · have hl' : l < n := by omega
        rw [ew l hl']
        have nxt : T i j l → ∃ k35 : Nat, k35 < o ∧ ∃ l' : Nat, ((l + 1 : Nat) : Int) = l' ∧ l' ≤ n ∧ k35 + l' = n ∧ (∀ k, k < l' → T i j k) ∧ Grow w w37 := fun ht => ⟨o - 1, by omega, l + 1, rfl, by omega, by omega, fun k hk => by
          by_cases e : k = l
          · subst e; exact ht
          · exact hc k (by omega), G⟩
        refine cnd_i (fun d1 => cnd_i (fun d2 => ?_) (fun d2 => nxt fun _ h2 => absurd ?_ h2)) (fun d1 => nxt fun h1 => absurd ?_ h1)
        · have d1 : (i : Int) ≠ j := by simpa using d1
          have d2 : (j : Int) ≠ l := by simpa using d2
          refine h.read G hi' hj' (cnd_i (fun s1 => h.read G hj' hl' (cnd_i (fun s2 => h.read G hi' hl' (cnd_i (fun s3 => bad _ ?_ G) (fun s3 => nxt fun _ _ _ _ => by simpa using s3))) (fun s2 => nxt fun _ _ _ h => by rw [s2] at h; cases h))) (fun s1 => nxt fun _ _ h => by rw [s1] at h; cases h))
          intro ho'
          have := ho' i j l hi' hj' hl' (by omega) (by omega) s1 s2
          rw [this] at s3; cases s3
        · have : (j : Int) = l := by simpa using d2
          omega
        · have : (i : Int) = j := by simpa using d1
          omega
      · have : l = n := by omega
        subst this
        exact ⟨m - 1, by omega, j + 1, rfl, by omega, by omega, fun j' k hj' hk => by
          by_cases e : j' = j
          · subst e; exact hc k hk
          · exact hb j' k (by omega) hk, G⟩
    · have : j = n := by omega
      subst this
      exact ⟨k - 1, by omega, i + 1, rfl, by omega, by omega, fun i' j' k' hi' hj' hk' => by
        by_cases e : i' = i
        · subst e; exact hb j' k' hj' hk'
        · exact ha i' j' k' (by omega) hj' hk', G⟩
  · have : i = n := by omega
    subst this
    exact ⟨⟨true, rfl, ⟨fun _ => fun i' j k hi hj hk h1 h2 => ha i' j k hi hj hk h1 h2, fun _ => rfl⟩⟩, G⟩
end Go.Proofs.Ytambabpklfeaoaa.W
