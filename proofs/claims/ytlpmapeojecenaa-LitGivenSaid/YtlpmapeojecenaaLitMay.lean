/- Layer 1: which lists the document calls clauses. -/
import Derived.Test.YtlpmapeojecenaaLitR
namespace Go.Proofs.Ytlpmapeojecenaa.W
open Go Go.Fw Go.RowKit

theorem refMay_ok {p : Option Addr} {n c : Nat} {l : List Int} {w : World} (h : Vw (Value.int .i64) w p l) (hn : n = l.length) (hm : n ≤ maxLen) :
    Calls Try.prog fathomref01_May.id #[.slice p n c] w fun e w' => e = .returned (.bool (clB l)) ∧ Grow w w' := by
  refine fathomref01_May.calls ?_
  unfold maxLen at hm
  refine ⟨fun v w' k => ∃ t : Nat, v = t ∧ t ≤ l.length ∧ k + t = l.length ∧ (l.take t).all litB = true ∧ Grow w w', ⟨l.length, 0, rfl, by omega, rfl, rfl, Mod.refl w⟩, ?_⟩
  rintro v w5 k _ ⟨t, rfl, ht, hk, ha, G⟩
  refine cnd_i (fun q => ?_) (fun q => ?_) <;> simp only [decide_eq_true_eq, decide_eq_false_iff_not] at q
  · have q' : t < l.length := by omega
    refine (h.grow G).ix 0 (by omega) hn q fun a e => ⟨_, e, ?_⟩
    rw [Int.toNat_natCast]
    refine (refLit_ok _ w5).mono ?_
    rintro e w8 ⟨rfl, g8⟩
    refine ⟨_, rfl, cnd_i (fun s => ⟨?_, G.trans g8⟩) (fun s => ?_)⟩
    · have s : litB (l.getD t 0) = false := by simpa using s
      have : l.all litB = false := by
        rw [← Bool.not_eq_true, List.all_eq_true]
        intro h
        rw [h _ (getD_mem q' 0)] at s; cases s
      unfold clB
      rw [this]; rfl
    · have s : litB (l.getD t 0) = true := by simpa using s
      refine ⟨k - 1, by omega, t + 1, ?_, by omega, by omega, ?_, G.trans g8⟩
      · rw [wrap64_of (by omega) (by omega)]; omega
      · rw [List.take_add_one, List.all_append, ha]
        have : l[t]? = some (l.getD t 0) := by simp [List.getD, q']
        simp only [this, Option.toList_some, List.all_cons, List.all_nil, s, Bool.and_true]
  · refine ⟨?_, G⟩
    have : t = l.length := by omega
    subst this
    rw [List.take_length] at ha
    unfold clB
    rw [ha, Bool.true_and]
    congr 2
    exact decide_eq_decide.2 (by omega)

end Go.Proofs.Ytlpmapeojecenaa.W
