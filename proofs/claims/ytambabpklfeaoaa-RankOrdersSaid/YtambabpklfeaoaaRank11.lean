/- Layer 19: the walk of a closure. -/
import Derived.Test.YtambabpklfeaoaaRank10
import Derived.Test.YtambabpklfeaoaaPureA
namespace Go.Proofs.Ytambabpklfeaoaa.W
open Go Go.Fw Go.RowKit Go.RankP

theorem sl_bool : slOk Try.prog ty_sl_bool ty_bool 1 = true := by kernel_rfl
theorem sl_sl_bool : slOk Try.prog ty_sl_sl_bool ty_sl_bool 24 = true := by kernel_rfl

theorem clone_ok {w : World} {p : Option Addr} {n c : Nat} {l : List Bool} (h : Vw Value.bool w p l) (hn : n = l.length) (hm : n ≤ 1000000) : Calls Try.prog slices_Clone_bool_bool.id #[.slice p n c] w fun e w' =>
    ∃ p' c', e = .returned (.slice p' n c') ∧ OwB ty_bool w' p' c' l ∧ (∀ k, blk p' = some k → w.heap.size ≤ k) ∧ Grow w w' := by
  refine slices_Clone_bool_bool.calls ?_
  refine cnd_i (fun q => ?_) (fun q => ?_)
  · have hp : p = none := by cases p <;> simp_all
    subst hp
    have hl : l = [] := by
      cases l with
      | nil => rfl
      | cons x l => obtain ⟨a, ha, _⟩ := h 0 (by simp); cases ha
    subst hl
    have hn : n = 0 := hn
    subst hn
    exact ⟨none, 0, rfl, Ow.nil _ _ _, fun k hk => by simp [blk] at hk, Mod.refl w⟩
  · intro n1 w2 h1
    have s1 := h1.num
    have z1 := h1.mod.size
    have e5 : OwB ty_bool w2 (some ⟨n1, 0, none⟩) 0 [] := h1.empty
    refine e5.appV sl_bool (h.grow h1.mod) rfl hn oneBool (by simp; omega) fun w3 p' c' o m hp hsz => ⟨p', c', ?_, ?_, ?_, ?_⟩
    · simp [hn]
    · simpa using o
    · intro k hk
      rcases hp with rfl | rfl <;> simp [blk] at hk <;> omega
    · exact h1.mod.then m fun k hk e => by simp [blk] at e; omega

/-- A closure under way: rows of one's own, all fresh. -/
structure CSt (w0 : World) (p : Option Addr) (c : Nat) (hs : List Sl) (n : Nat) (w : World) (rows : List (List Bool)) : Prop where
  o : Own2 Value.bool ty_sl_bool ty_bool w p c hs rows
  len : rows.length = n
  sq : ∀ i, i < n → (rows.getD i []).length = n
  f : ∀ k, foot2 p hs k → w0.heap.size ≤ k
  G : Grow w0 w

theorem CSt.drew {w0 w : World} {p : Option Addr} {c : Nat} {hs : List Sl} {n : Nat} {rows : List (List Bool)} (h : CSt w0 p c hs n w rows) : CSt w0 p c hs n w.drew rows := ⟨h.o.grow (Mod.refl w).drew, h.len, h.sq, h.f, h.G.drew⟩

theorem CSt.read {w0 w : World} {p : Option Addr} {c : Nat} {hs : List Sl} {n : Nat} {rows : List (List Bool)} (h : CSt w0 p c hs n w rows) (hn : n ≤ 40) {i j : Nat} {K : Bool → Prop} (hi : i < n) (hj : j < n) (hk : K (mB rows i j)) :
    ixK p n (i : Int) 1 fun a60 => ∃ x61_p : Option Addr, ∃ x61_n : Nat, ∃ x61_c : Nat, w.cell? a60 = some (.slice x61_p x61_n x61_c) ∧ 
      ixK x61_p x61_n (j : Int) 1 fun a62 => ∃ x63 : Bool, w.cell? a62 = some (.bool x63) ∧ K x63 :=
  (show SqV w p n hs rows from ⟨h.o.v2, h.len.symm, by rw [h.len]; exact hn, fun i hi => by rw [h.len] at hi; rw [h.len]; exact h.sq i hi⟩).read (Mod.refl w) hi hj hk

theorem mB_set {n : Nat} {rows : List (List Bool)} (hn : rows.length = n) (sq : ∀ i, i < n → (rows.getD i []).length = n) {i j : Nat} (hi : i < n) (hj : j < n) (x : Bool) (a b : Nat) :
    mB (rows.set i ((rows.getD i []).set j x)) a b = if a = i ∧ b = j then x else mB rows a b := by
  unfold mB
  rw [getD_set (by omega)]
  by_cases e : a = i
  · subst e
    rw [if_pos rfl, getD_set (by rw [sq a hi]; exact hj)]
    by_cases e2 : b = j <;> simp [e2]
  · rw [if_neg e]; simp [e]

/-- A field is written; the row's head was read ahead. -/
theorem CSt.put {w0 w : World} {p : Option Addr} {c : Nat} {hs : List Sl} {n : Nat} {rows : List (List Bool)} (h : CSt w0 p c hs n w rows) {i j : Nat} (hi : i < n) (hj : j < n) (x : Bool) {K : World → Prop}
    (hk : ∀ w', CSt w0 p c hs n w' (rows.set i ((rows.getD i []).set j x)) → K w') : ixK (hs.getD i Sl.nil).p (hs.getD i Sl.nil).n (j : Int) 1 fun a => ∃ w', StoreAt a 0 [.bool x] w w' ∧ K w' := by
  have hn := h.len
  obtain ⟨h1, h2⟩ := h.o.r i (by omega)
  have mem : hs.getD i Sl.nil ∈ hs := by
    have : i < hs.length := by rw [h.o.n]; omega
    simp [List.getD, this]
  refine h2.st x rfl rfl (by omega) h1 (by rw [h1, h.sq i hi]; omega) fun w' o m => hk w' ⟨?_, ?_, ?_, h.f, ?_⟩
  · rw [Int.toNat_natCast] at o
    exact h.o.set (by omega) (by simp) o m
  · rw [List.length_set]; exact h.len
  · intro a ha
    rw [getD_set (by omega)]
    split
    · rw [List.length_set]; exact h.sq i hi
    · exact h.sq a ha
  · exact h.G.then m fun k hk e => by have := h.f k (.inr ⟨_, mem, e⟩); omega
end Go.Proofs.Ytambabpklfeaoaa.W
