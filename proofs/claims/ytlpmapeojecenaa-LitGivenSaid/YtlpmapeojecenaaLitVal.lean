/- Layer 1: the value of literals, clauses and formulas by a model, by the document and by the program. -/
import Derived.Test.YtlpmapeojecenaaLitCnf
import Derived.Test.YtlpmapeojecenaaLitR
namespace Go.Proofs.Ytlpmapeojecenaa.W
open Go Go.Fw Go.RowKit

/-- A literal's value by a model. -/
def valP (m : List Int) (l : Int) : Int :=
  if litB l = false ∨ amt l > m.length then 0 else if m.getD (amt l - 1).toNat 0 = 0 then 0 else if decide (m.getD (amt l - 1).toNat 0 > 0) = decide (l > 0) then 1 else -1
/-- A clause's value by a model. -/
def clvP (m : List Int) (c : List Int) : Int := if c.any fun l => decide (valP m l = 1) then 1 else if c.any fun l => decide (valP m l = 0) then 0 else -1
/-- Does a formula hold by a model? -/
def holdsP (m : List Int) (cs : List (List Int)) : Bool := cs.all fun c => c.any fun l => decide (valP m l = 1)
/-- The model that a number's bits tell. -/
def modelP : Nat → Nat → List Int
  | 0, _ => []
  | k + 1, n => (if n % 2 = 1 then 1 else -1) :: modelP k (n / 2)
theorem modelP_len : ∀ k n, (modelP k n).length = k
  | 0, _ => rfl
  | k + 1, n => by simp [modelP, modelP_len k]
theorem modelP_bd : ∀ k n, ∀ x ∈ modelP k n, x = 1 ∨ x = -1
  | 0, _, x, h => by simp [modelP] at h
  | k + 1, n, x, h => by
    simp only [modelP, List.mem_cons] at h
    rcases h with h | h
    · subst h; split <;> simp
    · exact modelP_bd k _ x h

theorem valP_cases (m : List Int) (l : Int) : valP m l = 0 ∨ valP m l = 1 ∨ valP m l = -1 := by
  unfold valP
  split
  · simp
  · split
    · simp
    · split <;> simp

theorem refVar_ok {l : Int} (h : -9223372036854775808 < l) (w : World) (h2 : l < 9223372036854775808) : Calls Try.prog fathomref01_Var.id #[.int .i64 l] w fun e w' => e = .returned (.int .i64 (amt l)) ∧ Grow w w' := by
  refine fathomref01_Var.calls ?_
  unfold amt
  refine cnd_i (fun q => ⟨?_, Mod.refl w⟩) (fun q => ⟨?_, Mod.refl w⟩) <;> simp only [decide_eq_true_eq, decide_eq_false_iff_not] at q
  · rw [if_pos q, wrap64_of (by omega) (by omega)]
    congr 2; omega
  · rw [if_neg q]

theorem refValue_ok {w : World} {p : Option Addr} {n c : Nat} {m : List Int} (h : Vw (Value.int .i64) w p m) (hn : n = m.length) (hm : n ≤ maxLen) (l : Int) :
    Calls Try.prog fathomref01_Value.id #[.slice p n c, .int .i64 l] w fun e w' => e = .returned (.int .i64 (valP m l)) ∧ Grow w w' := by
  subst hn
  unfold maxLen at hm
  refine fathomref01_Value.calls ?_
  refine (refLit_ok l w).mono ?_
  rintro e w1 ⟨rfl, g1⟩
  unfold valP
  refine ⟨_, rfl, cnd_i (fun q => ⟨?_, g1⟩) (fun q => ?_)⟩ <;> simp only [Bool.not_eq_true', Bool.not_eq_false'] at q
  · rw [if_pos (.inl q)]
  have bd := litB_bd q
  have ba : 1 ≤ amt l ∧ amt l ≤ 1048576 := by unfold amt; split <;> omega
  have wa : IntKind.i64.wrap (amt l - 1) = amt l - 1 := wrap64_of (by omega) (by omega)
  refine (refVar_ok (by omega) w1 (by omega)).mono ?_
  rintro e w3 ⟨rfl, g3⟩
  refine ⟨_, rfl, cnd_i (fun q2 => ⟨?_, g1.trans g3⟩) (fun q2 => ?_)⟩ <;> simp only [decide_eq_true_eq, decide_eq_false_iff_not] at q2
  · rw [if_pos (.inr (by omega))]
  rw [if_neg (by rintro (h1 | h1); (rw [q] at h1; cases h1); omega)]
  refine (refVar_ok (by omega) w3 (by omega)).mono ?_
  rintro e w5 ⟨rfl, g5⟩
  have G5 := (g1.trans g3).trans g5
  refine ⟨_, rfl, ?_⟩
  rw [wa]
  refine (h.grow G5).ix 0 (by omega) rfl (by omega) fun a e => ⟨_, e, cnd_i (fun q3 => ⟨?_, G5⟩) (fun q3 => ?_)⟩ <;> simp only [beq_iff_eq, beq_eq_false_iff_ne] at q3
  · rw [if_pos q3]
  rw [if_neg q3]
  refine (refVar_ok (by omega) w5 (by omega)).mono ?_
  rintro e w9 ⟨rfl, g9⟩
  refine ⟨_, rfl, ?_⟩
  rw [wa]
  refine (h.grow (G5.trans g9)).ix 0 (by omega) rfl (by omega) fun a e => ⟨_, e, cnd_i (fun q4 => ⟨?_, G5.trans g9⟩) (fun q4 => ⟨?_, G5.trans g9⟩)⟩ <;> simp only [beq_iff_eq, beq_eq_false_iff_ne] at q4
  · rw [if_pos q4]
  · rw [if_neg q4]

theorem litValue_ok {w : World} {p : Option Addr} {n c : Nat} {m : List Int} (h : Vw (Value.int .i64) w p m) (hn : n = m.length) (hm : n ≤ maxLen) (l : Int) :
    Calls Try.prog lit_Value.id #[.slice p n c, .int .i64 l] w fun e w' => e = .returned (.int .i64 (valP m l)) ∧ Grow w w' := by
  subst hn
  unfold maxLen at hm
  refine lit_Value.calls ?_
  refine (is_ok1 l w).mono ?_
  rintro e w1 ⟨rfl, g1⟩
  unfold valP
  refine ⟨_, rfl, cnd_i (fun q => ⟨?_, g1⟩) (fun q => ?_)⟩ <;> simp only [Bool.not_eq_true', Bool.not_eq_false'] at q
  · rw [if_pos (.inl q)]
  have bd := litB_bd q
  have ba : 1 ≤ amt l ∧ amt l ≤ 1048576 := by unfold amt; split <;> omega
  have wa : IntKind.i64.wrap (amt l - 1) = amt l - 1 := wrap64_of (by omega) (by omega)
  refine (amount_ok (by omega) (by omega) w1).mono ?_
  rintro e w3 ⟨rfl, g3⟩
  refine ⟨_, rfl, cnd_i (fun q2 => ⟨?_, g1.trans g3⟩) (fun q2 => ?_)⟩ <;> simp only [decide_eq_true_eq, decide_eq_false_iff_not] at q2
  · rw [if_pos (.inr (by omega))]
  rw [if_neg (by rintro (h1 | h1); (rw [q] at h1; cases h1); omega)]
  refine (amount_ok (by omega) (by omega) w3).mono ?_
  rintro e w5 ⟨rfl, g5⟩
  have G5 := (g1.trans g3).trans g5
  refine ⟨_, rfl, ?_⟩
  rw [wa]
  refine (h.grow G5).ix 0 (by omega) rfl (by omega) fun a e => ⟨_, e, cnd_i (fun q3 => ⟨?_, G5⟩) (fun q3 => cnd_i (fun q4 => ⟨?_, G5⟩) (fun q4 => ⟨?_, G5⟩))⟩ <;> simp only [beq_iff_eq, beq_eq_false_iff_ne] at q3
  · rw [if_pos q3]
  · simp only [beq_iff_eq] at q4
    rw [if_neg q3, if_pos q4]
  · simp only [beq_eq_false_iff_ne] at q4
    rw [if_neg q3, if_neg q4]

theorem any_take_succ {α : Type} {l : List α} {q : α → Bool} {t : Nat} {d : α} (ht : t < l.length) : (l.take (t + 1)).any q = ((l.take t).any q || q (l.getD t d)) := by
  rw [List.take_add_one, List.any_append]
  have : l[t]? = some (l.getD t d) := by simp [List.getD, ht]
  simp only [this, Option.toList_some, List.any_cons, List.any_nil, Bool.or_false]
theorem any_true {α : Type} {l : List α} {q : α → Bool} {t : Nat} {d : α} (ht : t < l.length) (h : q (l.getD t d) = true) : l.any q = true := List.any_eq_true.2 ⟨_, by simp [List.getD, ht], h⟩

theorem refClauseV_ok {w : World} {p q : Option Addr} {n c k d : Nat} {m l : List Int} (h : Vw (Value.int .i64) w p m) (hn : n = m.length) (hm : n ≤ maxLen) (hl : Vw (Value.int .i64) w q l) (hk : k = l.length) (hx : k ≤ maxLen) :
    Calls Try.prog fathomref01_Clause.id #[.slice p n c, .slice q k d] w fun e w' => e = .returned (.int .i64 (clvP m l)) ∧ Grow w w' := by
  subst hk
  unfold maxLen at hx
  refine fathomref01_Clause.calls ?_
  refine ⟨fun o v w' z => ∃ t : Nat, v = t ∧ t ≤ l.length ∧ ((l.take t).any fun x => decide (valP m x = 1)) = false ∧ (o = (l.take t).any fun x => decide (valP m x = 0)) ∧ Grow w w' ∧ z + t = l.length, ⟨_, 0, rfl, Nat.zero_le _, rfl, rfl, Mod.refl _, rfl⟩, ?_⟩
  rintro o v w6 z _ ⟨t, rfl, ht, h1, ho, G, hz⟩
  refine cnd_i (fun s => ?_) (fun s => ?_) <;> simp only [decide_eq_true_eq, decide_eq_false_iff_not] at s
  · have ht' : t < l.length := by omega
    refine (hl.grow G).ix 0 (by omega) rfl s fun a e => ⟨_, e, (refValue_ok (h.grow G) hn hm _).mono ?_⟩
    rw [Int.toNat_natCast]
    rintro e w9 ⟨rfl, g9⟩
    have G9 := G.trans g9
    have n1 : ((l.take (t + 1)).any fun x => decide (valP m x = 1)) = ((l.take t).any (fun x => decide (valP m x = 1)) || decide (valP m (l.getD t 0) = 1)) := any_take_succ ht'
    have n0 : ((l.take (t + 1)).any fun x => decide (valP m x = 0)) = ((l.take t).any (fun x => decide (valP m x = 0)) || decide (valP m (l.getD t 0) = 0)) := any_take_succ ht'
    refine ⟨_, rfl, cnd_i (fun s2 => ?_) (fun s2 => ?_)⟩ <;> simp only [beq_iff_eq, beq_eq_false_iff_ne] at s2
    · refine ⟨?_, G9⟩
      unfold clvP
      rw [if_pos (any_true (d := 0) ht' (decide_eq_true s2))]
    · rw [h1, decide_eq_false s2] at n1
      refine cnd_i (fun s3 => ?_) (fun s3 => ?_)
      · refine ⟨z - 1, by omega, t + 1, by rw [wrap64_of (by omega) (by omega)]; omega, ht', n1, ?_, G9, by omega⟩
        rw [n0, ← ho, s3]; rfl
      · refine (hl.grow G9).ix 0 (by omega) rfl s fun a e => ⟨_, e, (refValue_ok (h.grow G9) hn hm _).mono ?_⟩
        rw [Int.toNat_natCast]
        rintro e w13 ⟨rfl, g13⟩
        refine ⟨_, rfl, z - 1, by omega, t + 1, by rw [wrap64_of (by omega) (by omega)]; omega, ht', n1, ?_, G9.trans g13, by omega⟩
        rw [n0, ← ho, s3, Bool.false_or]
        rw [Bool.eq_iff_iff]; simp
  · have : t = l.length := by omega
    subst this
    rw [List.take_length] at h1 ho
    unfold clvP
    rw [h1, if_neg (by simp), ← ho]
    refine cnd_i (fun s => ⟨?_, G⟩) (fun s => ⟨?_, G⟩)
    · rw [s]; rfl
    · rw [s]; rfl

theorem clvP_one {m c : List Int} : clvP m c = 1 ↔ (c.any fun l => decide (valP m l = 1)) = true := by
  unfold clvP
  split
  · rename_i h; simp [h]
  · rename_i h
    constructor
    · intro h2; split at h2 <;> simp at h2
    · intro h2; exact absurd h2 h

theorem refHolds_ok {w : World} {j : Int} {p q : Option Addr} {n c k d : Nat} {m : List Int} {hs : List Sl} {cs : List (List Int)} (hc : V2 (Value.int .i64) w q hs cs) (hk : k = cs.length) (hx : k ≤ maxLen) (h : Vw (Value.int .i64) w p m) (hn : n = m.length) (hm : n ≤ maxLen) :
    Calls Try.prog fathomref01_Holds.id #[.agg #[.int .i64 j, .slice q k d], .slice p n c] w fun e w' => e = .returned (.bool (holdsP m cs)) ∧ Grow w w' := by
  subst hk
  unfold maxLen at hx
  refine fathomref01_Holds.calls ?_
  intro n1 w2 h2
  have H := h2.has
  refine ⟨fun v w' z => ∃ t : Nat, v = t ∧ t ≤ cs.length ∧ ((cs.take t).all fun c => c.any fun l => decide (valP m l = 1)) = true ∧ Grow w2 w' ∧ z + t = cs.length, ⟨_, 0, rfl, Nat.zero_le _, rfl, Mod.refl _, rfl⟩, ?_⟩
  rintro v w7 z _ ⟨t, rfl, ht, ha, G, hz⟩
  have G2 := h2.mod.trans G
  refine ⟨_, _, _, cell_add (H.grow G) rfl, cnd_i (fun s => ?_) (fun s => ?_)⟩ <;> simp only [decide_eq_true_eq, decide_eq_false_iff_not] at s
  · have ht' : t < cs.length := by omega
    refine ⟨_, _, _, cell_add (H.grow G) rfl, rowIx (hc.grow G2) rfl ht' fun a sl e _ hsn hsm hv => ⟨_, _, _, e, (refClauseV_ok (h.grow G2) hn hm hv hsn hsm).mono ?_⟩⟩
    rintro e w12 ⟨rfl, g12⟩
    refine ⟨_, rfl, cnd_i (fun s2 => ⟨?_, G2.trans g12⟩) (fun s2 => ⟨z - 1, by omega, t + 1, by rw [wrap64_of (by omega) (by omega)]; omega, ht', allTakeS (d := []) ht' ha ?_, G.trans g12, by omega⟩)⟩
    · have s2 : clvP m (cs.getD t []) ≠ 1 := by simpa using s2
      have : holdsP m cs = false := allFalse (d := []) ht' (by
        rw [Ne, clvP_one] at s2
        simpa using s2)
      rw [this]
    · have s2 : clvP m (cs.getD t []) = 1 := by simpa using s2
      exact clvP_one.1 s2
  · have : t = cs.length := by omega
    subst this
    rw [List.take_length] at ha
    refine ⟨?_, G2⟩
    unfold holdsP
    rw [ha]
end Go.Proofs.Ytlpmapeojecenaa.W
