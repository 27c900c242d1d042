/- Layer 2: packing, plain. -/
import Derived.Test.YtamckcamloelbaaArenaPure
namespace Go.ArP

structure PI (l : List It) (W : List Int) (t to : Nat) : Prop where
  len : W.length = (wds l).length
  tk : W.take to = wds ((liv l).take t)
  tl : to = (wds ((liv l).take t)).length
  q : ∃ q, to ≤ q ∧ W.drop q = (wds l).drop q ∧ ∀ j, j < l.length → (l.getD j ([], true)).2 = false → t ≤ (liv (l.take j)).length → q ≤ off l j

theorem PI.init (l : List It) : PI l (wds l) 0 0 := ⟨rfl, rfl, rfl, 0, Nat.le_refl _, rfl, fun _ _ _ _ => Nat.zero_le _⟩
theorem PI.done {l : List It} {W : List Int} {to : Nat} (h : PI l W (liv l).length to) : W.take to = wds (liv l) := by
  have := h.tk
  rwa [List.take_length] at this

theorem drop_later {W V : List Int} {q i : Nat} (h : W.drop q = V.drop q) (hq : q ≤ i) : W.drop i = V.drop i := by
  have := congrArg (List.drop (i - q)) h
  rwa [List.drop_drop, List.drop_drop, show q + (i - q) = i by omega] at this
theorem getD_drop {W : List Int} {i : Nat} : W.getD i 0 = (W.drop i).getD 0 0 := by simp [List.getD]

theorem liv_getD (l : List It) {t : Nat} (h : t < (liv l).length) : ((liv l).getD t ([], true)).2 = false := by
  have : (liv l).getD t ([], true) ∈ liv l := by simp [List.getD, h]
  have := (List.mem_filter.1 this).2
  simpa using this
theorem liv_take_liv (l : List It) (t : Nat) : liv ((liv l).take t) = (liv l).take t := by
  unfold liv
  rw [List.filter_eq_self]
  intro x hx
  exact (List.mem_filter.1 (List.mem_of_mem_take hx)).2
theorem plc_liv (l : List It) {t : Nat} (h : t < (liv l).length) : (plc (liv l) 0).getD t 0 = (off (liv l) t : Nat) := by
  obtain ⟨j, h1, _, h3, h4, _, _⟩ := live_at (liv l) 0 t (by rw [liv_liv]; exact h)
  rw [liv_take_liv, List.length_take] at h3
  have : j = t := by omega
  subst this
  simpa using h4

theorem PI.step {l : List It} {W : List Int} {t to : Nat} (h : PI l W t to) (ht : t < (liv l).length) : ∃ j, j < l.length ∧ (l.getD j ([], true)).2 = false ∧ (plc l 0).getD t 0 = (off l j : Nat) ∧ (plc (liv l) 0).getD t 0 = (to : Nat) ∧ (liv l).getD t ([], true) = l.getD j ([], true) ∧ to ≤ off l j ∧ off l j + ((l.getD j ([], true)).1.length + 2) ≤ W.length ∧
    W.getD (off l j) 0 = ((l.getD j ([], true)).1.length : Int) ∧ (W.drop (off l j)).take ((l.getD j ([], true)).1.length + 2) = ws (l.getD j ([], true)) ∧
    PI l (W.take to ++ ws (l.getD j ([], true)) ++ W.drop (to + ((l.getD j ([], true)).1.length + 2))) (t + 1) (to + ((l.getD j ([], true)).1.length + 2)) := by
  obtain ⟨j, h1, h2, h3, h4, h5, h6⟩ := live_at l 0 t ht
  rw [Nat.zero_add] at h4
  obtain ⟨q, q1, q2, q3⟩ := h.q
  have hq := q3 j h1 h2 (by omega)
  have hd : W.drop (off l j) = (wds l).drop (off l j) := drop_later q2 hq
  have he := off_end h1
  have hl := h.len
  have e1 : (wds l).drop (off l j) = ws (l.getD j ([], true)) ++ wds (l.drop (j + 1)) := by
    have := wds_split h1
    rw [this]
    unfold off
    rw [List.drop_append, List.drop_of_length_le (Nat.le_refl _), Nat.sub_self, List.drop_zero, List.nil_append]
  have e2 : (liv l).take (t + 1) = (liv l).take t ++ [l.getD j ([], true)] := by
    rw [List.take_add_one, ← h6]
    simp [List.getD, ht]
  have e3 : (W.take to ++ ws (l.getD j ([], true))).length = to + ((l.getD j ([], true)).1.length + 2) := by
    rw [List.length_append, ws_len, List.length_take]; omega
  refine ⟨j, h1, h2, h4, ?_, h6, by omega, by omega, ?_, ?_, ⟨?_, ?_, ?_, off l (j + 1), ?_, ?_, ?_⟩⟩
  · rw [plc_liv l ht]
    congr 1
    exact h.tl.symm
  · rw [getD_drop, hd, ← getD_drop, word0 h1]
  · rw [hd, e1, List.take_append_of_le_length (by rw [ws_len]; exact Nat.le_refl _), List.take_of_length_le (by rw [ws_len]; exact Nat.le_refl _)]
  · rw [List.length_append, e3, List.length_drop]; omega
  · rw [List.take_append_of_le_length (by rw [e3]; exact Nat.le_refl _), List.take_of_length_le (by rw [e3]; exact Nat.le_refl _), h.tk, e2, wds_app]
    congr 1
    simp [wds]
  · rw [e2, wds_app, List.length_append, ← h.tl]
    simp [wds, ws_len]
  · rw [off_next h1]; omega
  · have : off l (j + 1) = off l j + ((l.getD j ([], true)).1.length + 2) := off_next h1
    rw [List.drop_append, List.drop_of_length_le (by rw [e3]; omega), List.nil_append, e3, List.drop_drop, drop_later q2 (by omega)]
    congr 1
    omega
  · intro j' k1 k2 k3
    refine off_mono ?_ (by omega)
    rcases Nat.lt_or_ge j j' with c | c
    · exact c
    · have := liv_take_le l c
      omega

theorem mvs_take {l : List It} {t : Nat} {a b : Int} (ht : t < (liv l).length) (ha : (plc l 0).getD t 0 = a) (hb : (plc (liv l) 0).getD t 0 = b) : (mvs l).take (t + 1) = (mvs l).take t ++ [(a, b)] := by
  have h1 : t < (plc l 0).length := by rw [plc_len]; exact ht
  have h2 : t < (plc (liv l) 0).length := by rw [plc_liv_len]; exact h1
  rw [List.take_add_one]
  congr 1
  subst ha hb
  simp [mvs, List.getD, h1, h2, List.zip, List.getElem?_zipWith]
theorem mvs_snd (l : List It) (t : Nat) : ((mvs l).getD t (0, 0)).2 = (plc (liv l) 0).getD t 0 := by
  have e := plc_liv_len l
  simp only [mvs, List.getD_eq_getElem?_getD, List.zip, List.getElem?_zipWith]
  by_cases h : t < (plc l 0).length
  · simp [h, show t < (plc (liv l) 0).length by omega]
  · simp [List.getElem?_eq_none (show (plc l 0).length ≤ t by omega), List.getElem?_eq_none (show (plc (liv l) 0).length ≤ t by omega)]
theorem mvs_fst (l : List It) (t : Nat) : ((mvs l).getD t (0, 0)).1 = (plc l 0).getD t 0 := by
  have e := plc_liv_len l
  simp only [mvs, List.getD_eq_getElem?_getD, List.zip, List.getElem?_zipWith]
  by_cases h : t < (plc l 0).length
  · simp [h, show t < (plc (liv l) 0).length by omega]
  · simp [List.getElem?_eq_none (show (plc l 0).length ≤ t by omega), List.getElem?_eq_none (show (plc (liv l) 0).length ≤ t by omega)]
theorem wst_liv : ∀ l : List It, wst (liv l) = 0
  | [] => rfl
  | (c, true) :: l => by simpa [liv] using wst_liv l
  | (c, false) :: l => by simpa [liv, wst] using wst_liv l
end Go.ArP
