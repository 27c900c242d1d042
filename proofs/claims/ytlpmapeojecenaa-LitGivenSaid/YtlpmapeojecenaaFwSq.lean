/- Slices of slices. -/
import Derived.Test.YtlpmapeojecenaaFwView
namespace Go.Fw
open Go Go.RowKit
variable {P : Program} {α : Type} {f : α → Value} {T T' : TypeId} {w w' : World} {p q : Option Addr} {c : Nat} {l : List α}

/-- A slice's head. -/
structure Sl where
  p : Option Addr
  n : Nat
  c : Nat
abbrev Sl.v (s : Sl) : Value := .slice s.p s.n s.c
def Sl.nil : Sl := ⟨none, 0, 0⟩

/-- Rows that stand from an address on, by their heads. -/
structure V2 (f : α → Value) (w : World) (p : Option Addr) (hs : List Sl) (rows : List (List α)) : Prop where
  h : Vw Sl.v w p hs
  n : hs.length = rows.length
  r : ∀ j, j < rows.length → (hs.getD j Sl.nil).n = (rows.getD j []).length ∧ (hs.getD j Sl.nil).n ≤ maxLen ∧ Vw f w (hs.getD j Sl.nil).p (rows.getD j [])

/-- The blocks of rows. -/
def foot2 (p : Option Addr) (hs : List Sl) (k : Nat) : Prop := blk p = some k ∨ ∃ h ∈ hs, blk h.p = some k

theorem V2.keep {S : Nat → Prop} {hs : List Sl} {rows : List (List α)} (h : V2 f w p hs rows) (m : Mod S w w') (hS : ∀ k, foot2 p hs k → ¬ S k) : V2 f w' p hs rows := by
  refine ⟨h.h.keep m fun k hk => hS k (.inl hk), h.n, fun j hj => ?_⟩
  obtain ⟨h1, h2, h3⟩ := h.r j hj
  refine ⟨h1, h2, h3.keep m fun k hk => hS k (.inr ⟨_, ?_, hk⟩)⟩
  have : j < hs.length := by rw [h.n]; exact hj
  simp [List.getD, this]
theorem V2.grow {hs : List Sl} {rows : List (List α)} (h : V2 f w p hs rows) (m : Grow w w') : V2 f w' p hs rows := h.keep m fun _ _ => id
theorem V2.drew {hs : List Sl} {rows : List (List α)} (h : V2 f w p hs rows) : V2 f w.drew p hs rows := h.grow (Mod.refl w).drew
theorem V2.nil : V2 f w p [] [] := ⟨Vw.nil, rfl, fun j hj => by simp at hj⟩

/-- A row is looked at. -/
theorem V2.ix {hs : List Sl} {rows : List (List α)} (h : V2 f w p hs rows) {i : Int} {n : Nat} (h0 : 0 ≤ i) (hn : n = rows.length) (h1 : i < n) {K : Addr → Prop}
    (hk : ∀ a s, w.cell? a = some (.slice s.p s.n s.c) → s = hs.getD i.toNat Sl.nil → s.n = (rows.getD i.toNat []).length → s.n ≤ maxLen → Vw f w s.p (rows.getD i.toNat []) → K a) : ixK p n i 1 K := by
  refine h.h.ix Sl.nil h0 (by rw [h.n]; exact hn) h1 fun a e => ?_
  obtain ⟨g1, g2, g3⟩ := h.r i.toNat (by omega)
  exact hk a _ e rfl g1 g2 g3

/-- Rows of an argument. -/
theorem rows_of_rd {s : Sh} {v : Value} (hr : ∀ v, RdV w (.sl s) v → ∃ p n c l, v = .slice p n c ∧ n = l.length ∧ n ≤ c ∧ c ≤ maxLen ∧ Vw f w p l) (h : RdV w (.sl (.sl s)) v) :
    ∃ p n c hs rows, v = .slice p n c ∧ n = rows.length ∧ n ≤ c ∧ c ≤ maxLen ∧ V2 f w p hs rows := by
  rcases h with rfl | ⟨a, len, cap, rfl, h1, h2, h3⟩
  · exact ⟨none, 0, 0, [], [], rfl, rfl, Nat.le_refl _, Nat.zero_le _, V2.nil⟩
  · have : ∀ i, ∃ x : Sl × List α, i < len → w.cell? (a.add i) = some x.1.v ∧ x.1.n = x.2.length ∧ x.1.n ≤ maxLen ∧ Vw f w x.1.p x.2 := by
      intro i
      by_cases hi : i < len
      · obtain ⟨es, he, hc, hrd⟩ := h3 i hi
        have hv : ∃ v, es = [v] ∧ RdV w (.sl s) v := by
          rcases hrd with rfl | ⟨a', len', cap', rfl, g⟩
          · exact ⟨_, rfl, .inl rfl⟩
          · exact ⟨_, rfl, .inr ⟨a', len', cap', rfl, g⟩⟩
        obtain ⟨v, rfl, hv⟩ := hv
        obtain ⟨p, n, c, l, rfl, g1, g2, g3, g4⟩ := hr v hv
        refine ⟨(⟨p, n, c⟩, l), fun _ => ⟨?_, g1, Nat.le_trans g2 g3, g4⟩⟩
        have := hc.1
        rwa [show Sh.size (.sl s) = 1 from rfl, Nat.mul_one, show (a.add i).add 0 = a.add i by rw [add_add, Nat.add_zero]] at this
      · exact ⟨(Sl.nil, []), fun h => absurd h hi⟩
    have gd : ∀ {β : Type} (g : Nat → β) (d : β) (j : Nat), j < len → ((List.range len).map g).getD j d = g j := by
      intro β g d j hj
      simp [List.getD, hj]
    refine ⟨some a, len, cap, (List.range len).map fun i => (Classical.choose (this i)).1, (List.range len).map fun i => (Classical.choose (this i)).2, rfl, by simp, h1, h2, ⟨fun j hj => ⟨a, rfl, ?_⟩, by simp, fun j hj => ?_⟩⟩
    · have hj' : j < len := by simpa using hj
      rw [(Classical.choose_spec (this j) hj').1]
      simp
    · have hj' : j < len := by simpa using hj
      rw [gd _ _ _ hj', gd _ _ _ hj']
      exact (Classical.choose_spec (this j) hj').2

/-- The bools of an argument. -/
theorem bools_of_rd {v : Value} (h : RdV w (.sl .bool) v) : ∃ p n c l, v = .slice p n c ∧ n = l.length ∧ n ≤ c ∧ c ≤ maxLen ∧ Vw Value.bool w p l := by
  rcases h with rfl | ⟨a, len, cap, rfl, h1, h2, h3⟩
  · exact ⟨none, 0, 0, [], rfl, rfl, Nat.le_refl _, Nat.zero_le _, Vw.nil⟩
  · have : ∀ i, ∃ x : Bool, i < len → w.cell? (a.add i) = some (.bool x) := by
      intro i
      by_cases hi : i < len
      · obtain ⟨es, _, hc, x, rfl⟩ := h3 i hi
        refine ⟨x, fun _ => ?_⟩
        have := hc.1
        rwa [show Sh.size .bool = 1 from rfl, Nat.mul_one, show (a.add i).add 0 = a.add i by rw [add_add, Nat.add_zero]] at this
      · exact ⟨false, fun h => absurd h hi⟩
    refine ⟨some a, len, cap, (List.range len).map fun i => Classical.choose (this i), rfl, by simp, h1, h2, fun j hj => ⟨a, rfl, ?_⟩⟩
    have hj' : j < len := by simpa using hj
    rw [Classical.choose_spec (this j) hj']
    simp

theorem ints_of_rd' {v : Value} (h : RdV w (.sl (.int .i64)) v) : ∃ p n c l, v = .slice p n c ∧ n = l.length ∧ n ≤ c ∧ c ≤ maxLen ∧ Vw (Value.int .i64) w p l := by
  obtain ⟨p, n, c, l, h1, h2, h3, h4, h5, _⟩ := ints_of_rd h
  exact ⟨p, n, c, l, h1, h2, h3, h4, h5⟩

/-- A square or list of rows that one has made: heads in a row, each row in a row of its own. -/
structure Own2 (f : α → Value) (T T' : TypeId) (w : World) (p : Option Addr) (c : Nat) (hs : List Sl) (rows : List (List α)) : Prop where
  h : Ow Sl.v T w p c hs
  n : hs.length = rows.length
  r : ∀ j, j < rows.length → (hs.getD j Sl.nil).n = (rows.getD j []).length ∧ Ow f T' w (hs.getD j Sl.nil).p (hs.getD j Sl.nil).c (rows.getD j [])
  d0 : ∀ j k, j < rows.length → blk (hs.getD j Sl.nil).p = some k → blk p ≠ some k
  d : ∀ i j k, i < rows.length → j < rows.length → i ≠ j → blk (hs.getD i Sl.nil).p = some k → blk (hs.getD j Sl.nil).p ≠ some k

theorem mem_getD {hs : List Sl} {h : Sl} (hm : h ∈ hs) : ∃ j, j < hs.length ∧ hs.getD j Sl.nil = h := by
  obtain ⟨j, hj⟩ := List.getElem?_of_mem hm
  have hl := (List.getElem?_eq_some_iff.1 hj).1
  exact ⟨j, hl, by simp [List.getD, hj]⟩

theorem Own2.v2 {hs : List Sl} {rows : List (List α)} (h : Own2 f T T' w p c hs rows) : V2 f w p hs rows :=
  ⟨h.h.vw, h.n, fun j hj => by
    obtain ⟨h1, h2⟩ := h.r j hj
    exact ⟨h1, by rw [h1]; exact h2.cap, h2.vw⟩⟩
theorem Own2.keep {S : Nat → Prop} {hs : List Sl} {rows : List (List α)} (h : Own2 f T T' w p c hs rows) (m : Mod S w w') (hS : ∀ k, foot2 p hs k → ¬ S k) : Own2 f T T' w' p c hs rows := by
  refine ⟨h.h.keep m fun k hk => hS k (.inl hk), h.n, fun j hj => ?_, h.d0, h.d⟩
  obtain ⟨h1, h2⟩ := h.r j hj
  refine ⟨h1, h2.keep m fun k hk => hS k (.inr ⟨_, ?_, hk⟩)⟩
  have : j < hs.length := by rw [h.n]; exact hj
  simp [List.getD, this]
theorem Own2.grow {hs : List Sl} {rows : List (List α)} (h : Own2 f T T' w p c hs rows) (m : Grow w w') : Own2 f T T' w' p c hs rows := h.keep m fun _ _ => id
theorem Own2.lt {hs : List Sl} {rows : List (List α)} (h : Own2 f T T' w p c hs rows) : ∀ k, foot2 p hs k → k < w.heap.size := by
  rintro k (hk | ⟨s, hs', hk⟩)
  · exact h.h.lt k hk
  · obtain ⟨j, hj, rfl⟩ := mem_getD hs'
    exact (h.r j (by rw [← h.n]; exact hj)).2.lt k hk

theorem getD_set {β : Type} {l : List β} {i j : Nat} {x d : β} (hi : i < l.length) : (l.set i x).getD j d = if j = i then x else l.getD j d := by
  simp only [List.getD_eq_getElem?_getD, List.getElem?_set]
  by_cases h : j = i
  · subst h; simp [hi]
  · rw [if_neg (fun e => h e.symm), if_neg h]

/-- A row of them has been turned. -/
theorem Own2.set {hs : List Sl} {rows : List (List α)} (h : Own2 f T T' w p c hs rows) {i : Nat} (hi : i < rows.length) {l' : List α} (hl : l'.length = (rows.getD i []).length) (o : Ow f T' w' (hs.getD i Sl.nil).p (hs.getD i Sl.nil).c l')
    (m : Mod (fun k => blk (hs.getD i Sl.nil).p = some k) w w') : Own2 f T T' w' p c hs (rows.set i l') := by
  refine ⟨h.h.keep m fun k hk hk' => h.d0 i k hi hk' hk, by rw [List.length_set]; exact h.n, fun j hj => ?_, fun j k hj => h.d0 j k (by simpa using hj), fun i j k hi hj => h.d i j k (by simpa using hi) (by simpa using hj)⟩
  have hj : j < rows.length := by simpa using hj
  rw [getD_set hi]
  by_cases e : j = i
  · subst e
    rw [if_pos rfl]
    exact ⟨by rw [hl]; exact (h.r j hi).1, o⟩
  · rw [if_neg e]
    exact ⟨(h.r j hj).1, (h.r j hj).2.keep m fun k hk hk' => h.d i j k hi hj (fun e2 => e e2.symm) hk' hk⟩

theorem getD_app {β : Type} {l : List β} {j : Nat} {x d : β} : (l ++ [x]).getD j d = if j = l.length then x else l.getD j d := by
  simp only [List.getD_eq_getElem?_getD]
  by_cases h : j = l.length
  · subst h; simp
  · rw [if_neg h]
    by_cases h2 : j < l.length
    · rw [List.getElem?_append_left h2]
    · rw [List.getElem?_eq_none (by simp; omega), List.getElem?_eq_none (by omega)]

/-- A row more. -/
theorem Own2.app1 {t ty bytes : Nat} (hs' : slOk P t T bytes = true) {hs : List Sl} {rows : List (List α)} (h : Own2 f T T' w p c hs rows) {b n : Nat} {s : Sl} {x : List α} (hb : Has w b #[s.v]) (hn : n = rows.length) (ho : Ow f T' w s.p s.c x) (hsn : s.n = x.length)
    (hd : ∀ k, blk s.p = some k → ¬ foot2 p hs k) (hlen : (rows.length + 1) * (bytes + 1) ≤ 140737488355328) {K : World → Option Addr → Nat → Nat → Prop}
    (hk : ∀ w' p' c', Own2 f T T' w' p' c' (hs ++ [s]) (rows ++ [x]) → Mod (fun b => blk p = some b) w w' → (p' = p ∨ p' = some ⟨w.heap.size, 0, none⟩) → w.heap.size ≤ w'.heap.size → K w' p' (rows.length + 1) c') :
    ∃ w', ∃ p' n' c', (Builtin.append_ #[t, t] ty #[.slice p n c, .slice (some ⟨b, 0, none⟩) 1 1]).run P w = .ok (.slice p' n' c') w' ∧ K w' p' n' c' := by
  refine h.h.app1 hs' s hb rfl (by rw [h.n]; exact hn) (fun _ => rfl) (by rw [h.n]; exact hlen) fun w' p' c' o m hp hsz => ?_
  rw [h.n]
  refine hk w' p' c' ⟨o, by simp [h.n], fun j hj => ?_, fun j k hj hb' hp' => ?_, fun i j k hi hj hij h1 h2 => ?_⟩ m hp hsz
  · rw [getD_app, getD_app, h.n]
    by_cases e : j = rows.length
    · rw [if_pos e, if_pos e]
      exact ⟨hsn, ho.keep m fun k hk e => hd k hk (.inl e)⟩
    · rw [if_neg e, if_neg e]
      have hj : j < rows.length := by simp at hj; omega
      exact ⟨(h.r j hj).1, (h.r j hj).2.keep m fun k hk e => h.d0 j k hj hk e⟩
  · rw [getD_app, h.n] at hb'
    have hlt := h.lt
    by_cases e : j = rows.length
    · rw [if_pos e] at hb'
      rcases hp with rfl | rfl
      · exact hd k hb' (.inl hp')
      · simp [blk] at hp'
        have := ho.lt k hb'
        omega
    · rw [if_neg e] at hb'
      have hj : j < rows.length := by simp at hj; omega
      rcases hp with rfl | rfl
      · exact h.d0 j k hj hb' hp'
      · simp [blk] at hp'
        have := (h.r j hj).2.lt k hb'
        omega
  · rw [getD_app, h.n] at h1 h2
    have hi : i ≤ rows.length := by simp at hi; omega
    have hj : j ≤ rows.length := by simp at hj; omega
    have mem : ∀ i, i < rows.length → hs.getD i Sl.nil ∈ hs := fun i hi => by
      have : i < hs.length := by rw [h.n]; exact hi
      simp [List.getD, this]
    by_cases e1 : i = rows.length
    · by_cases e2 : j = rows.length
      · omega
      · rw [if_pos e1] at h1
        rw [if_neg e2] at h2
        exact hd k h1 (.inr ⟨_, mem j (by omega), h2⟩)
    · rw [if_neg e1] at h1
      by_cases e2 : j = rows.length
      · rw [if_pos e2] at h2
        exact hd k h2 (.inr ⟨_, mem i (by omega), h1⟩)
      · rw [if_neg e2] at h2
        exact h.d i j k (by omega) (by omega) hij h1 h2
end Go.Fw
