/- Layer 1: the value of literals, clauses and formulas by a model, by the document and by the program. -/
import Derived.Test.YtambabpklfeaoaaLitCnf
import Derived.Test.YtambabpklfeaoaaLitR
namespace Go.Proofs.Ytambabpklfeaoaa.W
open Go Go.Fw Go.RowKit

/-- A literal's value by a model. -/
def valP (m : List Int) (l : Int) : Int :=
  if litB l = false ∨ amt l > m.length then 0 else if m.getD (amt l - 1).toNat 0 = 0 then 0 else if decide (m.getD (amt l - 1).toNat 0 > 0) = decide (l > 0) then 1 else -1
/-- A clause's value by a model. -/
def clvP (m : List Int) (c : List Int) : Int := if c.any fun l => decide (valP m l = 1) then 1 else if c.any fun l => decide (valP m l = 0) then 0 else -1
/-- Does a formula hold by a model? -/
def holdsP (m : List Int) (cs : List (List Int)) : Bool := cs.all fun c => c.any fun l => decide (valP m l = 1)
/-- The model that a number's bits tell. -/
def modelP : Nat → Nat → List Int
  | 0, _ => []
  | k + 1, n => (if n % 2 = 1 then 1 else -1) :: modelP k (n / 2)
theorem modelP_len : ∀ k n, (modelP k n).length = k
  | 0, _ => rfl
  | k + 1, n => by simp [modelP, modelP_len k]
theorem modelP_bd : ∀ k n, ∀ x ∈ modelP k n, x = 1 ∨ x = -1
  | 0, _, x, h => by simp [modelP] at h
  | k + 1, n, x, h => by
    simp only [modelP, List.mem_cons] at h
    rcases h with h | h
    · subst h; split <;> simp
    · exact modelP_bd k _ x h

theorem valP_cases (m : List Int) (l : Int) : valP m l = 0 ∨ valP m l = 1 ∨ valP m l = -1 := by
  unfold valP
  split
  · simp
  · split
    · simp
    · split <;> simp

theorem refVar_ok {l : Int} (h : -9223372036854775808 < l) (w : World) (h2 : l < 9223372036854775808) : Calls Try.prog fathomref01_Var.id #[.int .i64 l] w fun e w' => e = .returned (.int .i64 (amt l)) ∧ Grow w w' := by
  refine fathomref01_Var.calls ?_
  unfold amt
  refine cnd_i (fun q => ⟨?_, Mod.refl w⟩) (fun q => ⟨?_, Mod.refl w⟩) <;> simp only [decide_eq_true_eq, decide_eq_false_iff_not] at q
  · rw [if_pos q, wrap64_of (by omega) (by omega)]
    congr 2; omega
  · rw [if_neg q]

theorem refValue_ok {w : World} {p : Option Addr} {n c : Nat} {m : List Int} (h : Vw (Value.int .i64) w p m) (hn : n = m.length) (hm : n ≤ maxLen) (l : Int) :
    Calls Try.prog fathomref01_Value.id #[.slice p n c, .int .i64 l] w fun e w' => e = .returned (.int .i64 (valP m l)) ∧ Grow w w' := by
  subst hn
  unfold maxLen at hm
  refine fathomref01_Value.calls ?_
  refine (refLit_ok l w).mono ?_
  rintro e w1 ⟨rfl, g1⟩
  unfold valP
  refine ⟨_, rfl, cnd_i (fun q => ⟨?_, g1⟩) (fun q => ?_)⟩ <;> simp only [Bool.not_eq_true', Bool.not_eq_false'] at q
  · rw [if_pos (.inl q)]
  have bd := litB_bd q
  have ba : 1 ≤ amt l ∧ amt l ≤ 1048576 := by unfold amt; split <;> omega
  have wa : IntKind.i64.wrap (amt l - 1) = amt l - 1 := wrap64_of (by omega) (by omega)
  refine (refVar_ok (by omega) w1 (by omega)).mono ?_
  rintro e w3 ⟨rfl, g3⟩
  refine ⟨_, rfl, cnd_i (fun q2 => ⟨?_, g1.trans g3⟩) (fun q2 => ?_)⟩ <;> simp only [decide_eq_true_eq, decide_eq_false_iff_not] at q2
  · rw [if_pos (.inr (by omega))]
  rw [if_neg (by rintro (h1 | h1); (rw [q] at h1; cases h1); omega)]
  refine (refVar_ok (by omega) w3 (by omega)).mono ?_
  rintro e w5 ⟨rfl, g5⟩
  have G5 := (g1.trans g3).trans g5
  refine ⟨_, rfl, ?_⟩
  rw [wa]
  refine (h.grow G5).ix 0 (by omega) rfl (by omega) fun a e => ⟨_, e, cnd_i (fun q3 => ⟨?_, G5⟩) (fun q3 => ?_)⟩ <;> simp only [beq_iff_eq, beq_eq_false_iff_ne] at q3
  · rw [if_pos q3]
  rw [if_neg q3]
  refine (refVar_ok (by omega) w5 (by omega)).mono ?_
  rintro e w9 ⟨rfl, g9⟩
  refine ⟨_, rfl, ?_⟩
  rw [wa]
  refine (h.grow (G5.trans g9)).ix 0 (by omega) rfl (by omega) fun a e => ⟨_, e, cnd_i (fun q4 => ⟨?_, G5.trans g9⟩) (fun q4 => ⟨?_, G5.trans g9⟩)⟩ <;> simp only [beq_iff_eq, beq_eq_false_iff_ne] at q4
  · rw [if_pos q4]
  · rw [if_neg q4]

theorem litValue_ok {w : World} {p : Option Addr} {n c : Nat} {m : List Int} (h : Vw (Value.int .i64) w p m) (hn : n = m.length) (hm : n ≤ maxLen) (l : Int) :
    Calls Try.prog lit_Value.id #[.slice p n c, .int .i64 l] w fun e w' => e = .returned (.int .i64 (valP m l)) ∧ Grow w w' := by
  subst hn
  unfold maxLen at hm
  refine lit_Value.calls ?_
  refine (is_ok1 l w).mono ?_
  rintro e w1 ⟨rfl, g1⟩
  unfold valP
  refine ⟨_, rfl, cnd_i (fun q => ⟨?_, g1⟩) (fun q => ?_)⟩ <;> simp only [Bool.not_eq_true', Bool.not_eq_false'] at q
  · rw [if_pos (.inl q)]
  have bd := litB_bd q
  have ba : 1 ≤ amt l ∧ amt l ≤ 1048576 := by unfold amt; split <;> omega
  have wa : IntKind.i64.wrap (amt l - 1) = amt l - 1 := wrap64_of (by omega) (by omega)
  refine (amount_ok (by omega) (by omega) w1).mono ?_
  rintro e w3 ⟨rfl, g3⟩
  refine ⟨_, rfl, cnd_i (fun q2 => ⟨?_, g1.trans g3⟩) (fun q2 => ?_)⟩ <;> simp only [decide_eq_true_eq, decide_eq_false_iff_not] at q2
  · rw [if_pos (.inr (by omega))]
  rw [if_neg (by rintro (h1 | h1); (rw [q] at h1; cases h1); omega)]
  refine (amount_ok (by omega) (by omega) w3).mono ?_
  rintro e w5 ⟨rfl, g5⟩
  have G5 := (g1.trans g3).trans g5
  refine ⟨_, rfl, ?_⟩
  rw [wa]
  refine (h.grow G5).ix 0 (by omega) rfl (by omega) fun a e => ⟨_, e, cnd_i (fun q3 => ⟨?_, G5⟩) (fun q3 => cnd_i (fun q4 => ⟨?_, G5⟩) (fun q4 => ⟨?_, G5⟩))⟩ <;> simp only [beq_iff_eq, beq_eq_false_iff_ne] at q3
  · rw [if_pos q3]
  · simp only [beq_iff_eq] at q4
    rw [if_neg q3, if_pos q4]
  · simp only [beq_eq_false_iff_ne] at q4
    rw [if_neg q3, if_neg q4]

theorem any_take_succ {α : Type} {l : List α} {q : α → Bool} {t : Nat} {d : α} (ht : t < l.length) : (l.take (t + 1)).any q = ((l.take t).any q || q (l.getD t d)) := by
  rw [List.take_add_one, List.any_append]
  have : l[t]? = some (l.getD t d) := by simp [List.getD, ht]
  simp only [this, Option.toList_some, List.any_cons, List.any_nil, Bool.or_false]
theorem any_true {α : Type} {l : List α} {q : α → Bool} {t : Nat} {d : α} (ht : t < l.length) (h : q (l.getD t d) = true) : l.any q = true := List.any_eq_true.2 ⟨_, by simp [List.getD, ht], h⟩

theorem refClauseV_ok {w : World} {p q : Option Addr} {n c k d : Nat} {m l : List Int} (h : Vw (Value.int .i64) w p m) (hn : n = m.length) (hm : n ≤ maxLen) (hl : Vw (Value.int .i64) w q l) (hk : k = l.length) (hx : k ≤ maxLen) :
    Calls Try.prog fathomref01_Clause.id #[.slice p n c, .slice q k d] w fun e w' => e = .returned (.int .i64 (clvP m l)) ∧ Grow w w' := by
  subst hk
  unfold maxLen at hx
  refine fathomref01_Clause.calls ?_
  refine ⟨fun o v w' z => ∃ t : Nat, v = t ∧ t ≤ l.length ∧ ((l.take t).any fun x => decide (valP m x = 1)) = false ∧ (o = (l.take t).any fun x => decide (valP m x = 0)) ∧ Grow w w' ∧ z + t = l.length, ⟨_, 0, rfl, Nat.zero_le _, rfl, rfl, Mod.refl _, rfl⟩, ?_⟩
  rintro o v w6 z _ ⟨t, rfl, ht, h1, ho, G, hz⟩
  refine cnd_i (fun s => ?_) (fun s => ?_) <;> simp only [decide_eq_true_eq, decide_eq_false_iff_not] at s
  · have ht' : t < l.length := by omega
    refine (hl.grow G).ix 0 (by omega) rfl s fun a e => ⟨_, e, (refValue_ok (h.grow G) hn hm _).mono ?_⟩
    rw [Int.toNat_natCast]
    rintro e w9 ⟨rfl, g9⟩
    have G9 := G.trans g9
    have n1 : ((l.take (t + 1)).any fun x => decide (valP m x = 1)) = ((l.take t).any (fun x => decide (valP m x = 1)) || decide (valP m (l.getD t 0) = 1)) := any_take_succ ht'
    have n0 : ((l.take (t + 1)).any fun x => decide (valP m x = 0)) = ((l.take t).any (fun x => decide (valP m x = 0)) || decide (valP m (l.getD t 0) = 0)) := any_take_succ ht'
    refine ⟨_, rfl, cnd_i (fun s2 => ?_) (fun s2 => ?_)⟩ <;> simp only [beq_iff_eq, beq_eq_false_iff_ne] at s2
    · refine ⟨?_, G9⟩
      unfold clvP
      rw [if_pos (any_true (d := 0) ht' (decide_eq_true s2))]
    · rw [h1, decide_eq_false s2] at n1
      refine cnd_i (fun s3 => ?_) (fun s3 => ?_)
      · refine ⟨z - 1, by omega, t + 1, by rw [wrap64_of (by omega) (by omega)]; omega, ht', n1, ?_, G9, by omega⟩
        rw [n0, ← ho, s3]; rfl
      · refine (hl.grow G9).ix 0 (by omega) rfl s fun a e => ⟨_, e, (refValue_ok (h.grow G9) hn hm _).mono ?_⟩
        rw [Int.toNat_natCast]
        rintro e w13 ⟨rfl, g13⟩
        refine ⟨_, rfl, z - 1, by omega, t + 1, by rw [wrap64_of (by omega) (by omega)]; omega, ht', n1, ?_, G9.trans g13, by omega⟩
        rw [n0, ← ho, s3, Bool.false_or]
        rw [Bool.eq_iff_iff]; simp
  · have : t = l.length := by omega
    subst this
    rw [List.take_length] at h1 ho
    unfold clvP
    rw [h1, if_neg (by simp), ← ho]
    refine cnd_i (fun s => ⟨?_, G⟩) (fun s => ⟨?_, G⟩)
    · rw [s]; rfl
    · rw [s]; rfl

theorem clvP_one {m c : List Int} : clvP m c = 1 ↔ (c.any fun l => decide (valP m l = 1)) = true := by
  unfold clvP
  split
  · rename_i h; simp [h]
  · rename_i h
    constructor
    · intro h2; split at h2 <;> simp at h2
    · intro h2; exact absurd h2 h

theorem refHolds_ok {w : World} {j : Int} {p q : Option Addr} {n c k d : Nat} {m : List Int} {hs : List Sl} {cs : List (List Int)} (hc : V2 (Value.int .i64) w q hs cs) (hk : k = cs.length) (hx : k ≤ maxLen) (h : Vw (Value.int .i64) w p m) (hn : n = m.length) (hm : n ≤ maxLen) :
    Calls Try.prog fathomref01_Holds.id #[.agg #[.int .i64 j, .slice q k d], .slice p n c] w fun e w' => e = .returned (.bool (holdsP m cs)) ∧ Grow w w' := by
  subst hk
  unfold maxLen at hx
  refine fathomref01_Holds.calls ?_
  intro n1 w2 h2
  have H := h2.has
  refine ⟨fun v w' z => ∃ t : Nat, v = t ∧ t ≤ cs.length ∧ ((cs.take t).all fun c => c.any fun l => decide (valP m l = 1)) = true ∧ Grow w2 w' ∧ z + t = cs.length, ⟨_, 0, rfl, Nat.zero_le _, rfl, Mod.refl _, rfl⟩, ?_⟩
  rintro v w7 z _ ⟨t, rfl, ht, ha, G, hz⟩
  have G2 := h2.mod.trans G
  refine ⟨_, _, _, cell_add (H.grow G) rfl, cnd_i (fun s => ?_) (fun s => ?_)⟩ <;> simp only [decide_eq_true_eq, decide_eq_false_iff_not] at s
  · have ht' : t < cs.length := by omega
    refine ⟨_, _, _, cell_add (H.grow G) rfl, rowIx (hc.grow G2) rfl ht' fun a sl e _ hsn hsm hv => ⟨_, _, _, e, (refClauseV_ok (h.grow G2) hn hm hv hsn hsm).mono ?_⟩⟩
    rintro e w12 ⟨rfl, g12⟩
    refine ⟨_, rfl, cnd_i (fun s2 => ⟨?_, G2.trans g12⟩) (fun s2 => ⟨z - 1, by omega, t + 1, by rw [wrap64_of (by omega) (by omega)]; omega, ht', allTakeS (d := []) ht' ha ?_, G.trans g12, by omega⟩)⟩
    · have s2 : clvP m (cs.getD t []) ≠ 1 := by simpa using s2
      have : holdsP m cs = false := allFalse (d := []) ht' (by
        rw [Ne, clvP_one] at s2
        simpa using s2)
      rw [this]
    · have s2 : clvP m (cs.getD t []) = 1 := by simpa using s2
      exact clvP_one.1 s2
  · have : t = cs.length := by omega
    subst this
    rw [List.take_length] at ha
    refine ⟨?_, G2⟩
    unfold holdsP
    rw [ha]

theorem sl_intL : slOk Try.prog ty_sl_int ty_int 8 = true := by kernel_rfl

theorem refModel_ok {k n : Nat} (hk : k ≤ 1000000) (hn : n ≤ 1000000000000) (w : World) :
    Calls Try.prog fathomref01_Model.id #[.int .i64 (k : Int), .int .i64 (n : Int)] w fun e w' => (∃ p c, e = .returned (.slice p k c) ∧ OwI ty_int w' p c (modelP k n) ∧ ∀ j, blk p = some j → w.heap.size ≤ j) ∧ Grow w w' := by
  refine fathomref01_Model.calls ?_
  intro n1 w2 h2
  have e1 := h2.num
  have O2 : OwI ty_int w2 (some ⟨n1, 0, none⟩) 0 [] := Ow.of_some h2.at (Nat.le_refl _) (Nat.zero_le _) rfl rfl
  refine ⟨fun b pm nm cm v w' z => ∃ (t r : Nat) (o : List Int), b = r ∧ r ≤ 1000000000000 ∧ v = t ∧ t ≤ k ∧ o ++ modelP (k - t) r = modelP k n ∧ o.length = t ∧ nm = t ∧ OwI ty_int w' pm cm o ∧ (∀ j, blk pm = some j → w.heap.size ≤ j) ∧ Grow w w' ∧ z + t = k,
    ⟨k, 0, n, [], rfl, hn, rfl, Nat.zero_le _, rfl, rfl, rfl, O2, fun j hj => by have := blk_some hj; omega, h2.mod, rfl⟩, ?_⟩
  clear O2
  rintro b pm nm cm v w9 z _ ⟨t, r, o, rfl, hr, rfl, ht, ho, hl, rfl, O, fr, G, hz⟩
  refine cnd_i (fun s => ?_) (fun s => ?_) <;> simp only [decide_eq_true_eq, decide_eq_false_iff_not] at s
  · have ht' : nm < k := by omega
    have ek : k - nm = (k - (nm + 1)) + 1 := by omega
    rw [ek, modelP] at ho
    have d1 : ((r : Int)).tdiv 2 = ((r / 2 : Nat) : Int) := by rw [Int.tdiv_eq_ediv_of_nonneg (by omega)]; omega
    have d2 : ((r : Int)).tmod 2 = ((r % 2 : Nat) : Int) := by rw [Int.tmod_eq_emod_of_nonneg (by omega)]; omega
    have d3 : IntKind.i64.wrap ((r / 2 : Nat) : Int) = ((r / 2 : Nat) : Int) := wrap64_of (by omega) (by omega)
    have next : ∀ (y : Int), y = (if r % 2 = 1 then 1 else -1) → ∀ (n10 : Nat) (w11 : World), New (.cells #[.int .i64 y] 3) w9 n10 w11 → 
        ∃ w12 : World, ∃ r13_p : Option Addr, ∃ r13_n : Nat, ∃ r13_c : Nat, (Builtin.append_ #[ty_sl_int, ty_sl_int] ty_sl_int #[.slice pm nm cm, .slice (some (Addr.mk n10 0 none)) 1 1]).run Try.prog w11 = .ok (.slice r13_p r13_n r13_c) w12 ∧ 
        (2 : Int) ≠ 0 ∧ ∃ k5 : Nat, k5 < z ∧ ∃ (t r' : Nat) (o : List Int), ((r / 2 : Nat) : Int) = r' ∧ r' ≤ 1000000000000 ∧ IntKind.i64.wrap ((nm : Int) + 1) = t ∧ t ≤ k ∧ o ++ modelP (k - t) r' = modelP k n ∧ o.length = t ∧ r13_n = t ∧ OwI ty_int w12 r13_p r13_c o ∧ (∀ j, blk r13_p = some j → w.heap.size ≤ j) ∧ Grow w w12 ∧ k5 + t = k := by
      rintro y rfl n10 w11 h10
      refine (O.grow h10.mod).app1 sl_intL _ h10.has rfl hl.symm oneInt (by omega) fun w12 p12 c12 O12 m12 hp z12 => ⟨by decide, z - 1, by omega, nm + 1, r / 2, _, rfl, by omega, by rw [wrap64_of (by omega) (by omega)]; omega, by omega, ?_, by simp [hl], by omega, O12, fun j hj => ?_, (G.trans h10.mod).then m12 fun j hj e => by have := fr j e; omega, by omega⟩
      · rw [List.append_assoc]; exact ho
      · rcases hp with h1 | h1 <;> rw [h1] at hj
        · exact fr j hj
        · have := blk_some hj; have := (G.trans h10.mod).size; omega
    rw [d1, d2, d3]
    refine ⟨by decide, cnd_i (fun s2 => next 1 ?_) (fun s2 => next (-1) ?_)⟩ <;> simp only [beq_iff_eq, beq_eq_false_iff_ne] at s2
    · rw [if_pos (by omega)]
    · rw [if_neg (by omega)]
  · have : nm = k := by omega
    subst this
    rw [Nat.sub_self, modelP, List.append_nil] at ho
    subst ho
    exact ⟨⟨pm, cm, rfl, O, fr⟩, G⟩
end Go.Proofs.Ytambabpklfeaoaa.W
