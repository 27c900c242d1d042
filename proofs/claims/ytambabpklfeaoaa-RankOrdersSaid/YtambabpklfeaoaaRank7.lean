/- Layer 19: which squares are orders, for the document. -/
import Derived.Test.YtambabpklfeaoaaRank6
namespace Go.Proofs.Ytambabpklfeaoaa.W
open Go Go.Fw Go.RowKit

/-- A square's field. -/
def mB (rows : List (List Bool)) (i j : Nat) : Bool := (rows.getD i []).getD j false

/-- A square of bools that can be looked at. -/
structure SqV (w : World) (p : Option Addr) (n : Nat) (hs : List Sl) (rows : List (List Bool)) : Prop where
  v : V2 Value.bool w p hs rows
  n : n = rows.length
  small : rows.length ≤ 40
  sq : ∀ i, i < rows.length → (rows.getD i []).length = rows.length

theorem SqV.grow {w w' : World} {p : Option Addr} {n : Nat} {hs : List Sl} {rows : List (List Bool)} (h : SqV w p n hs rows) (g : Grow w w') : SqV w' p n hs rows := ⟨h.v.grow g, h.n, h.small, h.sq⟩

theorem SqV.of {w : World} {p : Option Addr} {n : Nat} {hs : List Sl} {rows : List (List Bool)} (v : V2 Value.bool w p hs rows) (hn : n = rows.length) (h : sqB rows = true) : SqV w p n hs rows := by
  unfold sqB at h
  rw [Bool.and_eq_true, List.all_eq_true] at h
  exact ⟨v, hn, of_decide_eq_true h.1, fun i hi => of_decide_eq_true (h.2 _ (getDrow_mem hi))⟩

theorem SqV.read {w w' : World} {p : Option Addr} {n : Nat} {hs : List Sl} {rows : List (List Bool)} (h : SqV w p n hs rows) (G : Grow w w') {i j : Nat} {K : Bool → Prop} (hi : i < n) (hj : j < n) (hk : K (mB rows i j)) :
    ixK p n (i : Int) 1 fun a60 => ∃ x61_p : Option Addr, ∃ x61_n : Nat, ∃ x61_c : Nat, w'.cell? a60 = some (.slice x61_p x61_n x61_c) ∧ 
      ixK x61_p x61_n (j : Int) 1 fun a62 => ∃ x63 : Bool, w'.cell? a62 = some (.bool x63) ∧ K x63 := by
  have hn := h.n
  refine (h.v.grow G).ix (by omega) h.n (by omega) fun a s e _ hl _ hv => ⟨_, _, _, e, hv.ix false (by omega) hl (by rw [hl, Int.toNat_natCast, h.sq i (by omega)]; omega) fun a e => ⟨_, e, ?_⟩⟩
  rw [Int.toNat_natCast, Int.toNat_natCast]
  exact hk

def Pair (rows : List (List Bool)) (i j : Nat) : Prop := (i = j → mB rows i j = false) ∧ (i ≠ j → mB rows i j ≠ mB rows j i)
def Tri (rows : List (List Bool)) (i j k : Nat) : Prop := mB rows i j = true → mB rows j k = true → mB rows i k = true
def IsOrd (rows : List (List Bool)) (n : Nat) : Prop := ∀ i j, i < n → j < n → Pair rows i j ∧ ∀ k, k < n → Tri rows i j k

theorem refOrder_ok {w : World} {p : Option Addr} {n c : Nat} {hs : List Sl} {rows : List (List Bool)} (h : SqV w p n hs rows) :
    Calls Try.prog fathomref19_Order.id #[.slice p n c] w fun e w' => (∃ b, e = .returned (.bool b) ∧ (b = true ↔ IsOrd rows n)) ∧ Grow w w' := by
  refine fathomref19_Order.calls ?_
  have hn := h.n
  have hs40 := h.small
  have ew : ∀ t : Nat, t < n → IntKind.i64.wrap ((t : Int) + 1) = ((t + 1 : Nat) : Int) := fun t ht => by rw [wrap64_of (by omega) (by omega)]; omega
  have bad : ∀ w', ¬ IsOrd rows n → Grow w w' → ((∃ b, Ending.returned (.bool false) = .returned (.bool b) ∧ (b = true ↔ IsOrd rows n)) ∧ Grow w w') := fun w' hb G => ⟨⟨false, rfl, ⟨fun h => (by cases h), fun h => absurd h hb⟩⟩, G⟩
  refine ⟨fun v w' k => ∃ i : Nat, v = i ∧ i ≤ n ∧ k + i = n ∧ (∀ i' j, i' < i → j < n → Pair rows i' j ∧ ∀ k, k < n → Tri rows i' j k) ∧ Grow w w', ⟨n, 0, rfl, by omega, rfl, fun i' j hi => by omega, Mod.refl w⟩, ?_⟩
  rintro v w5 k _ ⟨i, rfl, hi, hk, ha, G⟩
  refine cnd_i (fun q => ?_) (fun q => ?_) <;> simp only [decide_eq_true_eq, decide_eq_false_iff_not] at q
  · have hi' : i < n := by omega
    rw [ew i hi']
    refine ⟨fun v w' m => ∃ j : Nat, v = j ∧ j ≤ n ∧ m + j = n ∧ (∀ j', j' < j → Pair rows i j' ∧ ∀ k, k < n → Tri rows i j' k) ∧ Grow w w', ⟨n, 0, rfl, by omega, rfl, fun j' hj => by omega, G⟩, ?_⟩
    rintro v w10 m _ ⟨j, rfl, hj, hm, hb, G⟩
    refine cnd_i (fun q2 => ?_) (fun q2 => ?_) <;> simp only [decide_eq_true_eq, decide_eq_false_iff_not] at q2
    · have hj' : j < n := by omega
      rw [ew j hj']
      refine ⟨fun w' => Pair rows i j ∧ Grow w w', ?_, ?_⟩
      · have Gd := G.drew
        have pr : i ≠ j → ixK p n (i : Int) 1 fun a12 => ∃ x13_p : Option Addr, ∃ x13_n : Nat, ∃ x13_c : Nat, w10.drew.cell? a12 = some (.slice x13_p x13_n x13_c) ∧ ixK x13_p x13_n (j : Int) 1 fun a14 => ∃ x15 : Bool, w10.drew.cell? a14 = some (.bool x15) ∧
            ixK p n (j : Int) 1 fun a20 => ∃ x21_p : Option Addr, ∃ x21_n : Nat, ∃ x21_c : Nat, w10.drew.cell? a20 = some (.slice x21_p x21_n x21_c) ∧ ixK x21_p x21_n (i : Int) 1 fun a22 => ∃ x23 : Bool, w10.drew.cell? a22 = some (.bool x23) ∧
              cnd (x15 == x23) ((∃ b, Ending.returned (.bool false) = .returned (.bool b) ∧ (b = true ↔ IsOrd rows n)) ∧ Grow w w10.drew) (Pair rows i j ∧ Grow w w10.drew) := by
          intro hne
          refine h.read Gd hi' hj' ?_
          refine h.read Gd hj' hi' ?_
          refine cnd_i (fun s => bad _ ?_ Gd) (fun s => ⟨⟨fun e => absurd e hne, fun _ => by simpa using s⟩, Gd⟩)
          intro ho
          exact (ho i j hi' hj').1.2 hne (by simpa using s)
        refine cnd_i (fun s => ?_) (fun s => ?_)
        · have e : i = j := by have := beq_iff_eq.1 s; omega
          refine h.read Gd hi' hj' (cnd_i (fun s2 => bad _ ?_ Gd) (fun s2 => cnd_f (by simp; omega) ⟨⟨fun _ => s2, fun hne => absurd e hne⟩, Gd⟩))
          intro ho
          have := (ho i j hi' hj').1.1 e
          rw [this] at s2; cases s2
        · have e : i ≠ j := by have := beq_eq_false_iff_ne.1 s; omega
          exact cnd_t (by simp; omega) (pr e)
      · rintro w32 _ ⟨hp, G⟩
        refine ⟨fun v w' o => ∃ l : Nat, v = l ∧ l ≤ n ∧ o + l = n ∧ (∀ k, k < l → Tri rows i j k) ∧ Grow w w', ⟨n, 0, rfl, by omega, rfl, fun k hk => by omega, G⟩, ?_⟩
        rintro v w37 o _ ⟨l, rfl, hl, ho, hc, G⟩
        refine cnd_i (fun q3 => ?_) (fun q3 => ?_) <;> simp only [decide_eq_true_eq, decide_eq_false_iff_not] at q3
        · have hl' : l < n := by omega
          rw [ew l hl']
          have nxt : Tri rows i j l → ∃ k35 : Nat, k35 < o ∧ ∃ l' : Nat, ((l + 1 : Nat) : Int) = l' ∧ l' ≤ n ∧ k35 + l' = n ∧ (∀ k, k < l' → Tri rows i j k) ∧ Grow w w37 := fun ht => ⟨o - 1, by omega, l + 1, rfl, by omega, by omega, fun k hk => by
            by_cases e : k = l
            · subst e; exact ht
            · exact hc k (by omega), G⟩
          refine h.read G hi' hj' (cnd_i (fun s1 => h.read G hj' hl' (cnd_i (fun s2 => h.read G hi' hl' (cnd_i (fun s3 => bad _ ?_ G) (fun s3 => nxt fun _ _ => by simpa using s3))) (fun s2 => nxt fun _ h => by rw [s2] at h; cases h))) (fun s1 => nxt fun h => by rw [s1] at h; cases h))
          intro ho'
          have := (ho' i j hi' hj').2 l hl' s1 s2
          rw [this] at s3; cases s3
        · have : l = n := by omega
          subst this
          exact ⟨m - 1, by omega, j + 1, rfl, by omega, by omega, fun j' hj' => by
            by_cases e : j' = j
            · subst e; exact ⟨hp, hc⟩
            · exact hb j' (by omega), G⟩
    · have : j = n := by omega
      subst this
      exact ⟨k - 1, by omega, i + 1, rfl, by omega, by omega, fun i' j hi' hj => by
        by_cases e : i' = i
        · subst e; exact hb j hj
        · exact ha i' j (by omega) hj, G⟩
  · have : i = n := by omega
    subst this
    exact ⟨⟨true, rfl, ⟨fun _ => fun i' j hi hj => ha i' j hi hj, fun _ => rfl⟩⟩, G⟩
end Go.Proofs.Ytambabpklfeaoaa.W
