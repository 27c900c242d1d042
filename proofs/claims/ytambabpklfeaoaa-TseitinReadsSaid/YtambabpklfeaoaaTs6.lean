/- Layer 18: the formula is built. -/
import Derived.Test.YtambabpklfeaoaaTs5
import Derived.Test.YtambabpklfeaoaaLitCnf
namespace Go.Proofs.Ytambabpklfeaoaa.W
open Go Go.Fw Go.RowKit Go.TsP

open Classical in
noncomputable def inP (g : List (Int × Int)) (cs : List (List Int)) (k : Nat) : Bool := decide (H g cs k)
theorem inP_iff {g : List (Int × Int)} {cs : List (List Int)} {k : Nat} : inP g cs k = true ↔ H g cs k := by simp [inP]

theorem pushVar {wb w : World} {b : Nat} {x : Bd} (h : BRep w b x) (F : ∀ k, x.foot b k → wb.heap.size ≤ k) (G : Grow wb w) (y : Int) (hl : x.v.length ≤ 1000000) {K : World → Prop}
    (hk : ∀ w' x', BRep w' b x' → x'.k = x.k → x'.cl = x.cl → x'.v = x.v ++ [y] → (∀ k, x'.foot b k → wb.heap.size ≤ k) → Grow wb w' → K w') :
    ∀ (n28 : Nat) (w29 : World), New (.cells #[.int .i64 y] 3) w n28 w29 → 
      ∃ w30 : World, ∃ r31_p : Option Addr, ∃ r31_n : Nat, ∃ r31_c : Nat, (Builtin.append_ #[24, 24] 24 #[.slice x.pv x.v.length x.cv, .slice (some (Addr.mk n28 0 none)) 1 1]).run Try.prog w29 = .ok (.slice r31_p r31_n r31_c) w30 ∧ 
      ∃ a32 : Addr, (some (Addr.mk b 0 none)) = some a32 ∧ ∃ w33 : World, StoreAt ((a32.add 0).add 2) 0 [.slice r31_p r31_n r31_c] w30 w33 ∧ K w33 := by
  intro n28 w29 h28
  have h29 := h.grow h28.mod
  refine h29.v.app1 sl_int y h28.has rfl rfl oneInt (by omega) fun w30 p c o m hp z => ?_
  have me := h29.me.keep m fun e => h.bv e
  have hc := h29.c.keep m fun k hk e => h.cv k e hk
  refine ⟨_, rfl, store_f2 me rfl rfl fun w33 h33 m33 => ?_⟩
  have zG := (G.trans h28.mod).size
  have fr : ∀ k, blk p = some k → (blk x.pv = some k ∨ w29.heap.size ≤ k) := fun k hk => by
    rcases hp with rfl | rfl
    · exact .inl hk
    · have := blk_some hk; exact .inr (by omega)
  have hb29 := h29.lt b (.inl rfl)
  have nb : blk p ≠ some b := fun e => by
    rcases fr b e with e | e
    · exact h.bv e
    · omega
  have g30 : Grow wb w30 := (G.trans h28.mod).then m fun k hk e => by have := F k (.inr (.inr e)); omega
  refine hk w33 ⟨x.k, x.pc, x.cc, x.hs, x.cl, p, c, x.v ++ [y]⟩ ⟨?_, hc.keep m33 fun k hk e => h.bc (by rw [← e]; exact hk), o.keep m33 fun k hk e => nb (by rw [hk, e]), h.bc, nb, fun k hk e => ?_⟩ rfl rfl rfl ?_ (g30.then m33 fun k hk e => by have := F b (.inl rfl); omega)
  · have : (x.v ++ [y]).length = x.v.length + 1 := by simp
    show Has w33 b #[_, _, .slice p (x.v ++ [y]).length c]
    rw [this]
    exact h33
  · rcases fr k hk with e2 | e2
    · exact h.cv k e2 e
    · have := h29.lt k (.inr (.inl e)); omega
  · rintro k (rfl | hk | hk)
    · exact F k (.inl rfl)
    · exact F k (.inr (.inl hk))
    · rcases fr k hk with e | e
      · exact F k (.inr (.inr e))
      · omega

theorem BRep.setK {w w' : World} {b : Nat} {x : Bd} (h : BRep w b x) {k : Int} (hw : Has w' b #[.int .i64 k, .slice x.pc x.cl.length x.cc, .slice x.pv x.v.length x.cv]) (m : Mod (· = b) w w') : BRep w' b { x with k := k } :=
  ⟨hw, h.c.keep m fun k hk e => h.bc (by rw [← e]; exact hk), h.v.keep m fun k hk e => h.bv (by rw [hk, e]), h.bc, h.bv, h.cv⟩

theorem vs_small (P : Nat → Bool) {n : Nat} (h : n ≤ 1073741824) : small (vs P n) := by
  intro x hx
  simp only [vs, List.mem_map, List.mem_range] at hx
  obtain ⟨i, hi, rfl⟩ := hx
  have := cnt_le P (i + 1)
  split <;> omega

theorem gcl_len (g : List (Int × Int)) (P : Nat → Bool) (t : Nat) : (gcls g P t).length ≤ 3 * t := by
  induction t with
  | zero => simp [gcls]
  | succ t ih =>
    rw [gcls_succ, List.length_append]
    have : (gcl g P t).length ≤ 3 := by unfold gcl; split <;> simp
    omega
theorem outC_len (v : List Int) (l : List (List Int)) : (outC v l).length ≤ l.length := List.length_filterMap_le _ _

theorem outC_snoc (v : List Int) (l : List (List Int)) (c : List Int) : outC v (l ++ [c]) = outC v l ++ (clP v c).toList := by rw [outC_app, outC_one]

/-- The formula's clauses are clauses, of its variables. -/
theorem out_cnf {g : List (Int × Int)} {cs : List (List Int)} (h : mayT g cs = true) (hn : g.length ≤ 4096) (hm : cs.length ≤ 4096) : cnfB (cnt (inP g cs) g.length) (outC (vs (inP g cs) g.length) (allC g cs (inP g cs))) = true := by
  have hgm := mayT_g h
  have hc := cnt_le (inP g cs) g.length
  have h1 := gcl_len g (inP g cs) g.length
  have h2 := outC_len (vs (inP g cs) g.length) (allC g cs (inP g cs))
  have h3 : (allC g cs (inP g cs)).length ≤ 3 * g.length + cs.length := by unfold allC; rw [List.length_append]; omega
  unfold cnfB
  rw [decide_eq_true (by omega), Bool.true_and, List.all_eq_true]
  intro o ho
  obtain ⟨c, hca, hco⟩ := List.mem_filterMap.1 ho
  -- each literal of a clause that is taken is one of a node that is so
  have key : c.length ≤ 4096 ∧ ∀ l ∈ c, l ≠ 0 → l ≠ 1 → 2 ≤ l ∧ l ≤ 2 * g.length + 1 ∧ inP g cs (l.tdiv 2).toNat = true := by
    rcases List.mem_append.1 hca with hca | hca
    · obtain ⟨i, hi, hci⟩ := List.mem_flatMap.1 hca
      have hi : i < g.length := List.mem_range.1 hi
      unfold gcl at hci
      split at hci
      · rename_i hP
        obtain ⟨hP, hA⟩ := hP
        have hb := okG_and (mayG_at hgm hi) hA
        have hH := inP_iff.1 hP
        generalize hx : g.getD i (0, 0) = x at *
        obtain ⟨A, B⟩ := x
        simp only at hA hb hci
        have in1 : ∀ l : Int, (l / 2 = A / 2 ∨ l / 2 = B / 2) → 0 ≤ l → inP g cs (l.tdiv 2).toNat = true := by
          intro l hl h0
          rw [inP_iff, Int.tdiv_eq_ediv_of_nonneg h0]
          have hk : kid g i (l / 2).toNat := by
            refine ⟨by rw [hx]; exact hA, ?_⟩
            rw [hx]
            simp only
            rw [Int.tdiv_eq_ediv_of_nonneg hA, Int.tdiv_eq_ediv_of_nonneg hb.1]
            omega
          exact .kid (kid_le hgm hi hk) hi hk hH
        have in2 : ∀ l : Int, (l = 2 * i + 3 ∨ l = 2 * i + 2) → inP g cs (l.tdiv 2).toNat = true := by
          intro l hl
          rw [Int.tdiv_eq_ediv_of_nonneg (by omega), show (l / 2).toNat = i + 1 by omega]
          exact hP
        have fA : flipL A / 2 = A / 2 ∧ 0 ≤ flipL A ∧ flipL A ≤ 2 * i + 1 := by unfold flipL; split <;> omega
        have fB : flipL B / 2 = B / 2 ∧ 0 ≤ flipL B ∧ flipL B ≤ 2 * i + 1 := by unfold flipL; split <;> omega
        simp only [List.mem_cons, List.not_mem_nil, or_false] at hci
        rcases hci with rfl | rfl | rfl
        · refine ⟨by simp, fun l hl h0 h1 => ?_⟩
          simp only [List.mem_cons, List.not_mem_nil, or_false] at hl
          rcases hl with rfl | rfl
          · exact ⟨by omega, by omega, in2 _ (.inl rfl)⟩
          · exact ⟨by omega, by omega, in1 _ (.inl rfl) (by omega)⟩
        · refine ⟨by simp, fun l hl h0 h1 => ?_⟩
          simp only [List.mem_cons, List.not_mem_nil, or_false] at hl
          rcases hl with rfl | rfl
          · exact ⟨by omega, by omega, in2 _ (.inl rfl)⟩
          · exact ⟨by omega, by omega, in1 _ (.inr rfl) (by omega)⟩
        · refine ⟨by simp, fun l hl h0 h1 => ?_⟩
          simp only [List.mem_cons, List.not_mem_nil, or_false] at hl
          rcases hl with rfl | rfl | rfl
          · exact ⟨by omega, by omega, in2 _ (.inr rfl)⟩
          · exact ⟨by omega, by omega, in1 _ (.inl fA.1) (by omega)⟩
          · exact ⟨by omega, by omega, in1 _ (.inr fB.1) (by omega)⟩
      · simp at hci
    · have h' := h
      simp only [mayT, Bool.and_eq_true, List.all_eq_true] at h'
      have hc1 := h'.2 c hca
      simp only [mayC, Bool.and_eq_true, List.all_eq_true, decide_eq_true_eq] at hc1
      refine ⟨hc1.2, fun l hl h0 h1 => ?_⟩
      have := hc1.1 l hl
      simp only [isL, decide_eq_true_eq] at this
      refine ⟨by omega, this.2, ?_⟩
      rw [inP_iff]
      refine .hit ⟨c, hca, l, hl, ?_⟩
      rw [Int.tdiv_eq_ediv_of_nonneg this.1]; omega
  have hl : ∀ x ∈ o, x ≠ 0 ∧ -(cnt (inP g cs) g.length : Int) ≤ x ∧ x ≤ cnt (inP g cs) g.length := by
    intro x hx
    obtain ⟨l, hl, h0, h1, rfl⟩ := clP_mem hco x hx
    obtain ⟨k1, k2, k3⟩ := key.2 l hl h0 h1
    exact code_ok k1 k2 k3
  rw [Bool.and_eq_true]
  refine ⟨?_, ?_⟩
  · have := clP_len hco
    simp only [clB, Bool.and_eq_true, List.all_eq_true, decide_eq_true_eq]
    refine ⟨fun x hx => ?_, by omega⟩
    have := hl x hx
    simp only [litB, decide_eq_true_eq]
    omega
  · rw [List.all_eq_true]
    intro x hx
    have := hl x hx
    refine decide_eq_true ?_
    unfold amt
    split <;> omega
end Go.Proofs.Ytambabpklfeaoaa.W
