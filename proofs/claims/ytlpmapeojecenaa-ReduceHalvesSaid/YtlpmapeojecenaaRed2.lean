/- Layer 13: which learned clauses stay. -/
import Derived.Test.YtlpmapeojecenaaRed1
namespace Go.Proofs.Ytlpmapeojecenaa.W
open Go Go.Fw Go.RowKit Go.SoP Go.RedP
variable {w : World} {p : Option Addr} {n c : Nat} {l : List Lr}

theorem idx_succ (t : Nat) : idx (t + 1) = idx t ++ [(t : Int)] := by
  unfold idx
  rw [List.range_succ, List.map_append]
  rfl
def mustTo (l : List Lr) (t m : Nat) : List Bool := ((idx t).map fun i => must (nth l i)) ++ List.replicate (m - t) false
theorem mustTo_len {t m : Nat} (h : t ≤ m) : (mustTo l t m).length = m := by simp [mustTo, idx_len]; omega
theorem mustTo_set {t m : Nat} (h : t < m) : (mustTo l t m).set t (must (nth l t)) = mustTo l (t + 1) m := by
  unfold mustTo
  rw [List.set_append, if_neg (by simp [idx_len]), List.length_map, idx_len, Nat.sub_self, idx_succ, List.map_append, List.append_assoc]
  congr 1
  rw [show m - t = (m - (t + 1)) + 1 by omega, List.replicate_succ]
  rfl
theorem mustTo_get {t m : Nat} (h : t < m) : (mustTo l (t + 1) m).getD t false = must (nth l t) := by
  rw [← mustTo_set h]
  simp [List.getD, mustTo_len (Nat.le_of_lt h), h]
theorem mustTo_all {m x : Nat} (h : x < m) : (mustTo l m m).getD x false = must (nth l x) := by
  unfold mustTo
  simp [idx, List.getD, h]
theorem free_succ (t : Nat) : ((idx (t + 1)).countP fun i => !must (nth l i)) = ((idx t).countP fun i => !must (nth l i)) + (if must (nth l t) then 0 else 1) := by
  rw [idx_succ, List.countP_append]
  simp only [List.countP_cons, List.countP_nil]
  cases must (nth l t) <;> simp
theorem free_le (t : Nat) : ((idx t).countP fun i => !must (nth l i)) ≤ t := by
  have := List.countP_le_length (p := fun i => !must (nth l i)) (l := idx t)
  rwa [idx_len] at this

theorem getD_setB {b : List Bool} {i j : Nat} {x : Bool} (hi : i < b.length) : (b.set i x).getD j false = if j = i then x else b.getD j false := by
  simp only [List.getD_eq_getElem?_getD, List.getElem?_set]
  by_cases h : j = i
  · subst h; simp [hi]
  · rw [if_neg (fun e => h e.symm), if_neg h]

/-- What Keep answers. -/
theorem keep_ok (h : Vr 3 lrV w p l) (hn : n = l.length) (hm : n ≤ 100) : Calls Try.prog reduce_Keep.id #[.slice p n c] w fun e w' => ∃ (q : Option Addr) (d : Nat) (k : List Bool), e = .returned (.slice q k.length d) ∧ Grow w w' ∧ Ow Value.bool ty_bool w' q d k ∧
    (if l.all okL then k.length = n ∧ ∀ x : Nat, x < n → k.getD x false = keep l x else k = []) := by
  refine reduce_Keep.calls ?_
  refine (redCheck_ok h hn (by unfold maxLen; omega)).mono ?_
  rintro e w1 ⟨rfl, g1⟩
  cases hl : l.all okL with
  | false => exact ⟨_, rfl, cnd_t rfl ⟨none, 0, [], rfl, g1, Ow.nil _ _ _, by simp⟩⟩
  | true =>
  refine ⟨_, rfl, cnd_f rfl ?_⟩
  refine make_i sl_bool bool_zero (x := false) rfl n rfl (by omega) fun w2 o2 g2 z2 => ?_
  have hq : ∀ b, blk (some (⟨w1.heap.size, 0, none⟩ : Addr)) = some b → b = w1.heap.size := fun b hb => by simp [blk] at hb; exact hb.symm
  have hN : Mod (fun b => b = w1.heap.size) w1 w2 := g2.mono fun _ _ => False.elim
  refine ⟨fun F I w' k => ∃ t : Nat, I = t ∧ F = ((idx t).countP fun i => !must (nth l i) : Nat) ∧ t ≤ n ∧ k = n - t ∧ Ow Value.bool ty_bool w' (some ⟨w1.heap.size, 0, none⟩) n (mustTo l t n) ∧ Mod (fun b => b = w1.heap.size) w1 w', ⟨_, 0, rfl, rfl, Nat.zero_le _, rfl, by simpa [mustTo, idx] using o2, hN⟩, ?_⟩
  rintro F I w3 k _ ⟨t, rfl, rfl, ht, rfl, o3, m3⟩
  have G3 : Grow w1 w3 := m3.mono fun b hb e => by omega
  have H3 := (h.grow g1).grow G3
  refine cnd_i (fun q => ?_) (fun q => ?_)
  · have q : t < n := by simpa using q
    refine lIx H3 hn (x := t) rfl (by omega) (by omega) fun a C => ⟨_, _, _, C, ?_⟩
    intro n1 w4 h4
    refine store_i h4.has rfl rfl fun w5 h5 m5 => ?_
    have g5 : Grow w3 w5 := h4.mod.fresh m5 (by have := h4.num; omega)
    have h5 : Has w5 n1 #[.int .i64 (nth l t).1, .int .i64 (nth l t).2.1, .bool (nth l t).2.2] := h5
    refine ⟨_, _, _, ⟨cell_add h5 rfl, cell_add h5 rfl, cell_add h5 rfl, trivial⟩, (must_ok (nth l t) w5).mono ?_⟩
    rintro e w6 ⟨rfl, g6⟩
    refine ⟨_, rfl, ?_⟩
    have o6 := o3.grow (g5.trans g6)
    have hlen := mustTo_len (l := l) ht
    refine o6.st (must (nth l t)) rfl rfl (by omega) hlen.symm (by omega) fun w7 o7 m7 => ?_
    rw [Int.toNat_natCast, mustTo_set q] at o7
    have M7 : Mod (fun b => b = w1.heap.size) w1 w7 := (m3.grow (g5.trans g6)).then m7 fun b _ hb => hq b hb
    refine o7.ix false (by omega) (mustTo_len (by omega)).symm (by omega) fun a e => ⟨_, e, ?_⟩
    rw [Int.toNat_natCast, mustTo_get q]
    have hf := free_le (l := l) t
    refine cnd_i (fun s => ?_) (fun s => ?_)
    · refine ⟨_, ?_, t + 1, wN (by omega) (by omega), ?_, by omega, rfl, o7, M7⟩
      · omega
      · have s : must (nth l t) = false := by simpa using s
        rw [free_succ, s]
        exact wN (by simp) (by simp; omega)
    · refine ⟨_, ?_, t + 1, wN (by omega) (by omega), ?_, by omega, rfl, o7, M7⟩
      · omega
      · have s : must (nth l t) = true := by simpa using s
        rw [free_succ, s]; rfl
  · have q : t = l.length := by simp at q; omega
    subst q
    have hnl : n = l.length := hn
    subst hnl
    refine ⟨by decide, (order_ok H3 rfl hm).mono ?_⟩
    rintro e w4 ⟨q, d, o, rfl, g4, oo, ho, hfr⟩
    rw [hl, if_pos rfl] at ho
    have hol := ho.len
    refine ⟨_, _, _, rfl, ?_⟩
    have hff : ((idx l.length).countP fun i => !must (nth l i)) = freeN l := rfl
    rw [hff]
    have hfl : freeN l ≤ l.length := free_le l.length
    have ed : IntKind.i64.wrap (((freeN l : Nat) : Int).tdiv 2) = ((freeN l / 2 : Nat) : Int) := wN (by rw [Int.tdiv_eq_ediv_of_nonneg (by omega)]; omega) (by omega)
    rw [ed]
    refine ⟨fun L I w' k => ∃ (t : Nat) (b : List Bool), I = t ∧ L = (freeN l / 2 - cnt l o t : Nat) ∧ t ≤ o.length ∧ k = o.length - t ∧ b.length = l.length ∧ (∀ x : Nat, x < l.length → (b.getD x false = true ↔ must (nth l x) = true ∨ ∃ j, j < t ∧ o.getD j 0 = (x : Int) ∧ cnt l o j < freeN l / 2)) ∧
        Ow Value.bool ty_bool w' (some ⟨w1.heap.size, 0, none⟩) l.length b ∧ OwI ty_int w' q d o ∧ Mod (fun b => b = w1.heap.size) w1 w', ⟨_, 0, mustTo l l.length l.length, rfl, by simp [cnt], Nat.zero_le _, rfl, mustTo_len (Nat.le_refl _), fun x hx => by rw [mustTo_all hx]; simp, o3.grow g4, oo, m3.grow g4⟩, ?_⟩
    rintro L I w5 k _ ⟨t, b, rfl, rfl, ht, rfl, hb, hx, ob, o5, m5⟩
    refine cnd_i (fun r => ?_) (fun r => ?_)
    · have r : t < o.length := by simpa using r
      refine o5.ix 0 (by omega) rfl (by omega) fun a e => ⟨_, e, ?_⟩
      rw [Int.toNat_natCast]
      obtain ⟨r0, r1⟩ := ho.rng r
      obtain ⟨x, ex⟩ : ∃ x : Nat, o.getD t 0 = (x : Int) := ⟨(o.getD t 0).toNat, by omega⟩
      have hxl : x < l.length := by omega
      rw [ex]
      refine ob.ix false (by omega) hb.symm (by omega) fun a e => ⟨_, e, ?_⟩
      rw [Int.toNat_natCast]
      have hxx := hx x hxl
      have none_t : ¬ ∃ j, j < t ∧ o.getD j 0 = (x : Int) ∧ cnt l o j < freeN l / 2 := by
        rintro ⟨j, j1, j2, _⟩
        have := getD_inj ho.nd (i := j) (j := t) (by omega) r (by rw [j2, ex])
        omega
      have stp : ∀ y : Nat, (∃ j, j < t + 1 ∧ o.getD j 0 = (y : Int) ∧ cnt l o j < freeN l / 2) ↔ (∃ j, j < t ∧ o.getD j 0 = (y : Int) ∧ cnt l o j < freeN l / 2) ∨ (y = x ∧ cnt l o t < freeN l / 2) := by
        intro y
        constructor
        · rintro ⟨j, j1, j2, j3⟩
          by_cases e : j = t
          · subst e; rw [ex] at j2; exact .inr ⟨by omega, j3⟩
          · exact .inl ⟨j, by omega, j2, j3⟩
        · rintro (⟨j, j1, j2, j3⟩ | ⟨rfl, j3⟩)
          · exact ⟨j, by omega, j2, j3⟩
          · exact ⟨t, by omega, ex, j3⟩
      have cs := cnt_succ (l := l) r
      rw [ex] at cs
      have hmx : must (nth l (x : Int)) = b.getD x false := by
        cases hbx : b.getD x false with
        | true =>
          rcases hxx.1 hbx with h | h
          · exact h
          · exact absurd h none_t
        | false =>
          cases hmm : must (nth l (x : Int)) with
          | false => rfl
          | true => have := hxx.2 (.inl hmm); rw [hbx] at this; exact this.symm
      have et : IntKind.i64.wrap ((t : Int) + 1) = ((t + 1 : Nat) : Int) := wN (by omega) (by omega)
      have stay : (b.getD x false = true ∨ ¬ cnt l o t < freeN l / 2) → ∀ y : Nat, y < l.length → (b.getD y false = true ↔ must (nth l y) = true ∨ ∃ j, j < t + 1 ∧ o.getD j 0 = (y : Int) ∧ cnt l o j < freeN l / 2) := by
        intro hc y hy
        rw [hx y hy, stp y]
        constructor
        · rintro (h | h)
          · exact .inl h
          · exact .inr (.inl h)
        · rintro (h | h | ⟨rfl, h⟩)
          · exact .inl h
          · exact .inr h
          · rcases hc with hc | hc
            · exact .inl (by rw [hmx]; exact hc)
            · exact absurd h hc
      refine cnd_i (fun s => ?_) (fun s => ?_)
      · have s : b.getD x false = false := by simpa using s
        rw [s] at hmx
        rw [hmx] at cs
        refine cnd_i (fun s2 => ?_) (fun s2 => ?_)
        · have s2 : cnt l o t < freeN l / 2 := by simp at s2; omega
          refine ob.st true rfl rfl (by omega) hb.symm (by omega) fun w6 o6 m6 => ?_
          rw [Int.toNat_natCast] at o6
          have M6 : Mod (fun b => b = w1.heap.size) w1 w6 := m5.then m6 fun b _ hb => hq b hb
          refine ⟨_, ?_, t + 1, _, et, ?_, by omega, rfl, by simpa using hb, fun y hy => ?_, o6, ?_, M6⟩
          · omega
          · rw [cs]
            simp only [Bool.false_eq_true, if_false]
            rw [wrap64_of (by omega) (by omega)]
            omega
          · rw [getD_setB (by omega), stp y]
            by_cases e : y = x
            · subst e
              rw [if_pos (Eq.refl y)]
              simp [s2]
            · rw [if_neg e, hx y hy]
              constructor
              · rintro (h | h)
                · exact .inl h
                · exact .inr (.inl h)
              · rintro (h | h | ⟨h, _⟩)
                · exact .inl h
                · exact .inr h
                · exact absurd h e
          · refine o5.keep m6 fun b hb e => ?_
            have := hfr b hb
            have := hq b e
            have := m3.size
            have := z2
            have := hN.size
            have hlt := o3.lt w1.heap.size rfl
            omega
        · have s2 : ¬ cnt l o t < freeN l / 2 := by simp at s2; omega
          refine ⟨_, ?_, t + 1, b, et, ?_, by omega, rfl, hb, stay (.inr s2), ob, o5, m5⟩
          · omega
          · rw [cs]; simp only [Bool.false_eq_true, if_false]; omega
      · have s : b.getD x false = true := by simpa using s
        rw [s] at hmx
        rw [hmx] at cs
        refine ⟨_, ?_, t + 1, b, et, ?_, by omega, rfl, hb, stay (.inl s), ob, o5, m5⟩
        · omega
        · rw [cs]; simp
    · have r : t = o.length := by simp at r; omega
      subst r
      refine ⟨_, _, b, by rw [hb], g1.trans (m5.mono fun b hb e => by omega), ob, ?_⟩
      rw [if_pos rfl]
      refine ⟨hb, fun x hxl => ?_⟩
      obtain ⟨j, j1, j2⟩ := ho.find (x := (x : Int)) (by omega) (by omega)
      have hk := ho.keep j1
      rw [j2] at hk
      rw [hk, Bool.eq_iff_iff, hx x hxl, Bool.or_eq_true, decide_eq_true_eq]
      constructor
      · rintro (h | ⟨i, i1, i2, i3⟩)
        · exact .inl h
        · have := getD_inj ho.nd i1 j1 (by rw [i2, j2])
          subst this
          exact .inr i3
      · rintro (h | h)
        · exact .inl h
        · exact .inr ⟨j, j1, j2, h⟩
end Go.Proofs.Ytlpmapeojecenaa.W
