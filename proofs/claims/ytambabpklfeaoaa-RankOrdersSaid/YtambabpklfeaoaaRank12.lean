/- Layer 19: the closure. -/
import Derived.Test.YtambabpklfeaoaaRank11
namespace Go.Proofs.Ytambabpklfeaoaa.W
open Go Go.Fw Go.RowKit Go.RankP

/-- A turn half done. -/
def Half (S0 : List (List Bool)) (n k i j : Nat) (S : List (List Bool)) : Prop :=
  ∀ a b, a < n → b < n → mB S a b = if a < i ∨ (a = i ∧ b < j) then (mB S0 a b || mB S0 a k && mB S0 k b) else mB S0 a b

theorem Half.zero {S0 : List (List Bool)} {n k : Nat} : Half S0 n k 0 0 S0 := fun a b _ _ => by
  rw [if_neg (by omega)]
theorem Half.row {S0 S : List (List Bool)} {n k i : Nat} (h : Half S0 n k i n S) : Half S0 n k (i + 1) 0 S := fun a b ha hb => by
  rw [h a b ha hb]
  by_cases e : a < i + 1
  · rw [if_pos (by omega), if_pos (by omega)]
  · rw [if_neg (by omega), if_neg (by omega)]
theorem Half.now {S0 S : List (List Bool)} {n k i j : Nat} (h : Half S0 n k i j S) (hi : i < n) (hj : j < n) : mB S i j = mB S0 i j := by
  rw [h i j hi hj, if_neg (by omega)]
theorem Half.col {S0 S : List (List Bool)} {n k i j : Nat} (h : Half S0 n k i j S) (hi : i < n) (hk : k < n) : mB S i k = mB S0 i k := by
  rw [h i k hi hk]; split
  · cases mB S0 i k <;> simp
  · rfl
theorem Half.rw {S0 S : List (List Bool)} {n k i j : Nat} (h : Half S0 n k i j S) (hk : k < n) (hj : j < n) : mB S k j = mB S0 k j := by
  rw [h k j hk hj]; split
  · cases mB S0 k j <;> simp
  · rfl
theorem Half.step {S0 S : List (List Bool)} {n k i j : Nat} (h : Half S0 n k i j S) (hn : S.length = n) (sq : ∀ i, i < n → (S.getD i []).length = n) (hi : i < n) (hj : j < n) {x : Bool} (hx : x = (mB S0 i j || mB S0 i k && mB S0 k j)) :
    Half S0 n k i (j + 1) (S.set i ((S.getD i []).set j x)) := fun a b ha hb => by
  rw [mB_set hn sq hi hj]
  by_cases e : a = i ∧ b = j
  · obtain ⟨rfl, rfl⟩ := e
    rw [if_pos ⟨rfl, rfl⟩, if_pos (by omega), hx]
  · rw [if_neg e, h a b ha hb]
    by_cases e2 : a < i ∨ (a = i ∧ b < j)
    · rw [if_pos e2, if_pos (by omega)]
    · rw [if_neg e2, if_neg (by omega)]

/-- What stands ahead of a turn. -/
structure Ph (M : Nat → Nat → Bool) (n k : Nat) (S : Nat → Nat → Bool) : Prop where
  e : ∀ i j, i < n → j < n → M i j = true → S i j = true
  s : ∀ i j, i < n → j < n → S i j = true → ∃ d, rch M n d i j
  t : ∀ i m j, i < n → m < k → j < n → S i m = true → S m j = true → S i j = true

theorem Ph.turn {M : Nat → Nat → Bool} {n k : Nat} {S0 S : List (List Bool)} (h : Ph M n k (mB S0)) (hk : k < n) (hh : Half S0 n k n 0 S) : Ph M n (k + 1) (mB S) := by
  have key : ∀ i j, i < n → j < n → (mB S i j = true ↔ mB S0 i j = true ∨ mB S0 i k = true ∧ mB S0 k j = true) := fun i j hi hj => by
    rw [hh i j hi hj, if_pos (by omega)]; simp
  refine ⟨fun i j hi hj hm => (key i j hi hj).2 (.inl (h.e i j hi hj hm)), fun i j hi hj hs => ?_, RankP.turn hk key h.t⟩
  rcases (key i j hi hj).1 hs with h1 | ⟨h1, h2⟩
  · exact h.s i j hi hj h1
  · obtain ⟨d, hd⟩ := h.s i k hi hk h1
    obtain ⟨e, he⟩ := h.s k j hk hj h2
    exact ⟨_, rch_add d e i k j hk hd he⟩

theorem take_next {α : Type} {l : List α} {t : Nat} {d : α} (h : t < l.length) : l.take (t + 1) = l.take t ++ [l.getD t d] := by
  rw [List.take_add_one]
  simp [List.getD, h]

theorem closure_ok {w : World} {p : Option Addr} {n c : Nat} {hs : List Sl} {rows : List (List Bool)} (h : V2 Value.bool w p hs rows) (hn : n = rows.length) (hm : n ≤ maxLen) :
    Calls Try.prog rank_Closure.id #[.slice p n c] w fun e w' => Grow w w' ∧
      (sqB rows = false → e = .returned (.slice none 0 0)) ∧
      (sqB rows = true → ∃ p' c' hs' rows', e = .returned (.slice p' n c') ∧ SqV w' p' n hs' rows' ∧ Ph (mB rows) n n (mB rows')) := by
  refine rank_Closure.calls ?_
  refine (squared_ok h hn hm).mono fun e w1 => ?_
  rintro ⟨rfl, G1⟩
  refine ⟨_, rfl, cnd_i (fun q => ⟨G1, fun _ => rfl, fun hq => ?_⟩) (fun q => ?_)⟩
  · rw [hq] at q; cases q
  have hq : sqB rows = true := by simpa using q
  have hq' := hq
  unfold sqB at hq'
  simp only [Bool.and_eq_true, decide_eq_true_eq, List.all_eq_true] at hq'
  obtain ⟨h40, hsq⟩ := hq'
  have n40 : n ≤ 40 := by omega
  have sq0 : ∀ i, i < n → (rows.getD i []).length = n := fun i hi => by rw [hn]; exact hsq _ (getDrow_mem (by omega))
  have ew : ∀ t : Nat, t < n → IntKind.i64.wrap ((t : Int) + 1) = ((t + 1 : Nat) : Int) := fun t ht => by rw [wrap64_of (by omega) (by omega)]; omega
  refine ⟨fun p1 n1 c1 v w' k => ∃ t : Nat, ∃ hs1, v = t ∧ t ≤ n ∧ k + t = n ∧ n1 = t ∧ Own2 Value.bool ty_sl_bool ty_bool w' p1 c1 hs1 (rows.take t) ∧ (∀ k, foot2 p1 hs1 k → w.heap.size ≤ k) ∧ Grow w w', ⟨n, 0, [], rfl, by omega, rfl, rfl, ?_, ?_, G1⟩, ?_⟩
  · exact ⟨Ow.nil _ _ _, rfl, by simp, by simp, by simp⟩
  · rintro k (hk | ⟨s, hs, _⟩)
    · simp [blk] at hk
    · cases hs
  rintro p1 n1 c1 v w8 k _ ⟨t, hs1, rfl, ht, hk, rfl, o, hf, G⟩
  refine cnd_i (fun q => ?_) (fun q => ?_) <;> simp only [decide_eq_true_eq, decide_eq_false_iff_not] at q
  · have ht' : n1 < n := by omega
    rw [ew n1 ht']
    refine (h.grow G).ix (by omega) hn q fun a s e es hl hsm hv => ⟨_, _, _, e, ?_⟩
    rw [Int.toNat_natCast] at hl hv
    refine (clone_ok hv hl (by rw [hl, sq0 n1 ht']; omega)).mono fun e w11 => ?_
    rintro ⟨p', c', rfl, oc, fr, G11⟩
    refine ⟨_, _, _, rfl, ?_⟩
    intro n13 w14 hnew
    have s14 := hnew.mod.size
    have s11 := G11.size
    have l1 : (rows.take n1).length = n1 := by rw [List.length_take]; omega
    have lt8 := o.lt
    refine Own2.app1 (s := ⟨p', s.n, c'⟩) (x := rows.getD n1 []) sl_sl_bool ((o.grow G11).grow hnew.mod) hnew.has l1.symm (oc.grow hnew.mod) hl (fun k hk hk2 => ?_) (by rw [l1]; omega) fun w' p2 c2 o2 m hp hsz => ?_
    · have := fr k hk
      have := lt8 k hk2
      omega
    · rw [← take_next (by omega)] at o2
      refine ⟨k - 1, by omega, n1 + 1, _, rfl, by omega, by omega, by rw [l1], o2, ?_, ?_⟩
      · have sG := G.size
        rintro k (hk | ⟨s', hs', hk⟩)
        · rcases hp with rfl | rfl
          · exact hf k (.inl hk)
          · simp [blk] at hk; omega
        · rcases List.mem_append.1 hs' with hs' | hs'
          · exact hf k (.inr ⟨s', hs', hk⟩)
          · have := List.mem_singleton.1 hs'
            subst this
            have := fr k hk
            omega
      · exact ((G.trans G11).trans hnew.mod).then m fun k hk e => by have := hf k (.inl e); omega
  · have : n1 = n := by omega
    subst this
    rw [show rows.take n1 = rows from by rw [List.take_of_length_le]; omega] at o
    have C0 : CSt w p1 c1 hs1 n1 w8 rows := ⟨o, hn.symm, sq0, hf, G⟩
    have P0 : Ph (mB rows) n1 0 (mB rows) := ⟨fun i j _ _ h => h, fun i j _ _ h => ⟨0, h⟩, fun i m j _ hm => by omega⟩
    refine ⟨fun v w' m => ∃ k : Nat, ∃ S, v = k ∧ k ≤ n1 ∧ m + k = n1 ∧ CSt w p1 c1 hs1 n1 w' S ∧ Ph (mB rows) n1 k (mB S), ⟨n1, 0, rows, rfl, by omega, rfl, C0, P0⟩, ?_⟩
    rintro v w21 m _ ⟨k, S0, rfl, hk, hm', C, P⟩
    refine cnd_i (fun q => ?_) (fun q => ?_) <;> simp only [decide_eq_true_eq, decide_eq_false_iff_not] at q
    · have hk' : k < n1 := by omega
      rw [ew k hk']
      refine ⟨fun v w' m => ∃ i : Nat, ∃ S, v = i ∧ i ≤ n1 ∧ m + i = n1 ∧ CSt w p1 c1 hs1 n1 w' S ∧ Half S0 n1 k i 0 S, ⟨n1, 0, S0, rfl, by omega, rfl, C, Half.zero⟩, ?_⟩
      rintro v w26 m2 _ ⟨i, S1, rfl, hi, hm2, C, H⟩
      refine cnd_i (fun q => ?_) (fun q => ?_) <;> simp only [decide_eq_true_eq, decide_eq_false_iff_not] at q
      · have hi' : i < n1 := by omega
        rw [ew i hi']
        refine ⟨fun v w' m => ∃ j : Nat, ∃ S, v = j ∧ j ≤ n1 ∧ m + j = n1 ∧ CSt w p1 c1 hs1 n1 w' S ∧ Half S0 n1 k i j S, ⟨n1, 0, S1, rfl, by omega, rfl, C, H⟩, ?_⟩
        rintro v w31 m3 _ ⟨j, S, rfl, hj, hm3, C, H⟩
        refine cnd_i (fun q => ?_) (fun q => ?_) <;> simp only [decide_eq_true_eq, decide_eq_false_iff_not] at q
        · have hj' : j < n1 := by omega
          rw [ew j hj']
          have C := C.drew
          refine C.o.v2.ix (by omega) C.len.symm (by omega) fun a s e es _ _ _ => ⟨_, _, _, e, ?_⟩
          rw [Int.toNat_natCast] at es
          subst es
          have nxt : ∀ x w', x = (mB S0 i j || mB S0 i k && mB S0 k j) → CSt w p1 c1 hs1 n1 w' (S.set i ((S.getD i []).set j x)) → ∃ k29, k29 < m3 ∧ ∃ j' : Nat, ∃ S, ((j + 1 : Nat) : Int) = j' ∧ j' ≤ n1 ∧ k29 + j' = n1 ∧ CSt w p1 c1 hs1 n1 w' S ∧ Half S0 n1 k i j' S :=
            fun x w' hx C' => ⟨m3 - 1, by omega, j + 1, _, rfl, by omega, by omega, C', H.step C.len C.sq hi' hj' hx⟩
          have e1 := H.now hi' hj'
          have e2 := H.col hi' hk'
          have e3 := H.rw hk' hj'
          refine C.read n40 hi' hj' (cnd_i (fun b => C.put hi' hj' true fun w' C' => nxt _ _ ?_ C') (fun b => C.read n40 hi' hk' (cnd_i (fun b2 => C.read n40 hk' hj' (C.put hi' hj' _ fun w' C' => nxt _ _ ?_ C')) (fun b2 => C.put hi' hj' false fun w' C' => nxt _ _ ?_ C'))))
          · rw [← e1, b]; rfl
          · rw [← e1, ← e2, ← e3, b, b2]; rfl
          · rw [← e1, ← e2, ← e3, b, b2]; rfl
        · have : j = n1 := by omega
          subst this
          exact ⟨m2 - 1, by omega, i + 1, S, rfl, by omega, by omega, C, H.row⟩
      · have : i = n1 := by omega
        subst this
        exact ⟨m - 1, by omega, k + 1, S1, rfl, by omega, by omega, C, P.turn hk' H⟩
    · have : k = n1 := by omega
      subst this
      exact ⟨C.G, fun hf => (by rw [hf] at hq; cases hq), fun _ => ⟨p1, c1, hs1, S0, rfl, ⟨C.o.v2, C.len.symm, by rw [C.len]; exact n40, fun i hi => by rw [C.len] at hi; rw [C.len]; exact C.sq i hi⟩, P⟩⟩
end Go.Proofs.Ytambabpklfeaoaa.W
