/- Layer 1: literals and lists of them, what all layers need. -/
import Derived.Test.YtlpmapeojecenaaLitF
namespace Go.Proofs.Ytlpmapeojecenaa.W
open Go Go.Fw Go.RowKit

/-- Is a number a literal? -/
def litB (l : Int) : Bool := decide (l ≠ 0 ∧ -1048576 ≤ l ∧ l ≤ 1048576)
/-- May a list be a clause? -/
def clB (l : List Int) : Bool := l.all litB && decide (l.length ≤ 4096)

theorem is_ok1 (l : Int) (w : World) : Calls Try.prog lit_is.id #[.int .i64 l] w fun e w' => e = .returned (.bool (litB l)) ∧ Grow w w' := by
  refine lit_is.calls ?_
  refine cnd_i (fun h1 => cnd_i (fun h2 => ⟨?_, Mod.refl w⟩) (fun h2 => ⟨?_, Mod.refl w⟩)) (fun h1 => ⟨?_, Mod.refl w⟩)
  · simp only [bne_iff_ne, ne_eq, decide_eq_true_eq, ge_iff_le] at h1 h2
    congr 2
    unfold litB
    exact decide_eq_decide.2 (by omega)
  · simp only [bne_iff_ne, ne_eq, decide_eq_false_iff_not, ge_iff_le] at h1 h2
    congr 2
    unfold litB
    exact (decide_eq_false (by omega)).symm
  · simp only [bne_eq_false_iff_eq] at h1
    congr 2
    unfold litB
    exact (decide_eq_false (by omega)).symm

theorem check1_ok (l : Int) (w : World) : Calls Try.prog lit_Check_1.id #[.int .i64 l] w fun e w' => e = .returned (.bool (!litB l)) ∧ Grow w w' := by
  refine lit_Check_1.calls ?_
  refine (is_ok1 l w).mono ?_
  rintro e w' ⟨rfl, g⟩
  exact ⟨_, rfl, rfl, g⟩
theorem check1_ent : entB Try.prog lit_Check_1.id = true := by kernel_rfl

theorem any_not {l : List Int} : l.any (fun x => !litB x) = !l.all litB := by
  induction l with
  | nil => rfl
  | cons x l ih => simp [ih]

theorem litCheck_ok {p : Option Addr} {n c : Nat} {l : List Int} {w : World} (h : Vw (Value.int .i64) w p l) (hn : n = l.length) (hm : n ≤ maxLen) :
    Calls Try.prog lit_Check.id #[.slice p n c] w fun e w' => e = .returned (.int .i64 (if clB l then 0 else 1)) ∧ Grow w w' := by
  refine lit_Check.calls ?_
  refine cnd_i (fun q => ⟨?_, Mod.refl w⟩) (fun q => ?_) <;> simp only [decide_eq_true_eq, decide_eq_false_iff_not] at q
  · have : clB l = false := by unfold clB; rw [decide_eq_false (by omega)]; simp
    rw [this]; rfl
  · have hf : ∀ x ∈ l, ∀ w', Grow w w' → Calls Try.prog lit_Check_1.id (#[] ++ #[.int .i64 x] ++ #[]) w' fun e w2 => e = .returned (.bool (!litB x)) ∧ Grow w' w2 := fun x _ w' _ => by
      rw [args1]
      exact check1_ok x w'
    refine (containsFunc_ok h hn hm check1_ent (fun x => !litB x) hf).mono ?_
    rintro e w' ⟨rfl, g⟩
    have : clB l = l.all litB := by unfold clB; rw [decide_eq_true (by omega)]; simp
    refine ⟨_, rfl, ?_⟩
    rw [any_not, this]
    cases l.all litB
    · exact ⟨rfl, g⟩
    · exact ⟨rfl, g⟩

theorem refInts_ok {p q : Option Addr} {n m c d : Nat} {l k : List Int} {w : World} (h : Vw (Value.int .i64) w p l) (h2 : Vw (Value.int .i64) w q k) (hn : n = l.length) (hm : m = k.length) (hx : n ≤ maxLen) :
    Calls Try.prog fathomref01_Ints.id #[.slice p n c, .slice q m d] w fun e w' => e = .returned (.bool (decide (l = k))) ∧ Grow w w' := by
  refine fathomref01_Ints.calls ?_
  unfold maxLen at hx
  refine cnd_i (fun s => ⟨?_, Mod.refl w⟩) (fun s => ?_)
  · have s : (n : Int) ≠ m := by simpa using s
    rw [decide_eq_false]
    intro e
    subst e
    omega
  · have s : (n : Int) = m := by simpa using s
    have hl : k.length = l.length := by omega
    refine ⟨fun v w' j => ∃ t : Nat, v = t ∧ t ≤ l.length ∧ j + t = l.length ∧ l.take t = k.take t ∧ Grow w w', ⟨l.length, 0, rfl, by omega, rfl, rfl, Mod.refl w⟩, ?_⟩
    rintro v w5 j _ ⟨t, rfl, ht, hj, ha, G⟩
    refine cnd_i (fun q => ?_) (fun q => ⟨?_, G⟩) <;> simp only [decide_eq_true_eq, decide_eq_false_iff_not] at q
    · have q1 : t < l.length := by omega
      have q2 : t < k.length := by omega
      refine ((h.grow G).drew).ix 0 (by omega) hn q fun a e => ⟨_, e, ((h2.grow G).drew).ix 0 (by omega) hm (by omega) fun a e => ⟨_, e, ?_⟩⟩
      rw [Int.toNat_natCast]
      have e1 : l[t]? = some (l.getD t 0) := by simp [List.getD, q1]
      have e2 : k[t]? = some (k.getD t 0) := by simp [List.getD, q2]
      refine cnd_i (fun s => ⟨?_, G.drew⟩) (fun s => ⟨j - 1, by omega, t + 1, ?_, by omega, by omega, ?_, G.drew⟩)
      · have s : l.getD t 0 ≠ k.getD t 0 := by simpa using s
        rw [decide_eq_false]
        intro e
        subst e
        exact s rfl
      · rw [wrap64_of (by omega) (by omega)]; omega
      · have s : l.getD t 0 = k.getD t 0 := by simpa using s
        rw [List.take_add_one, List.take_add_one, ha, e1, e2, s]
    · have : t = l.length := by omega
      subst this
      rw [List.take_length, ← hl, List.take_length] at ha
      rw [decide_eq_true ha]
end Go.Proofs.Ytlpmapeojecenaa.W
