/- Layers 15 and 18: which graphs and clauses there may be. -/
import Derived.Test.YtambabpklfeaoaaTs0
namespace Go.Proofs.Ytambabpklfeaoaa.W
open Go Go.Fw Go.RowKit Go.TsP

theorem aigCheck_ok {w : World} {p : Option Addr} {g : List (Int × Int)} {n c : Nat} (h : Vr 2 gateV w p g) (hn : n = g.length) (hm : n ≤ maxLen) :
    Calls Try.prog aig_Check.id #[.slice p n c] w fun e w' => e = .returned (.int .i64 (if mayG g then 0 else 1)) ∧ Grow w w' := by
  subst hn
  refine aig_Check.calls ?_
  refine cnd_i (fun q => ⟨?_, Mod.refl w⟩) (fun q => ?_) <;> simp only [decide_eq_true_eq, decide_eq_false_iff_not] at q
  · have : mayG g = false := by unfold mayG; rw [decide_eq_false (by omega)]; rfl
    rw [this]; rfl
  · refine ⟨fun v w' k => ∃ t : Nat, v = t ∧ t ≤ g.length ∧ (List.range t).all (fun i => okG i (g.getD i (0, 0))) = true ∧ Grow w w' ∧ k + t = g.length, ⟨_, 0, rfl, Nat.zero_le _, rfl, Mod.refl w, rfl⟩, ?_⟩
    rintro v w5 k _ ⟨t, rfl, ht, ha, G, hk⟩
    refine cnd_i (fun q2 => ?_) (fun q2 => ?_) <;> simp only [decide_eq_true_eq, decide_eq_false_iff_not] at q2
    · have ht' : t < g.length := by omega
      have no : okG t (g.getD t (0, 0)) = false → mayG g = false := fun hf => by
        cases hh : mayG g with
        | false => rfl
        | true => rw [mayG_at hh ht'] at hf; cases hf
      refine gIx (h.grow G) rfl ht' fun a6 x0 x1 => ⟨_, _, ⟨x0, x1, trivial⟩, ?_⟩
      intro n9 w10 h9
      refine store_i h9.has rfl rfl fun w11 h11 m11 => ?_
      have g11 : Grow w5 w11 := h9.mod.fresh m11 (by have := h9.num; omega)
      have e1 : IntKind.i64.wrap (2 * (t : Int)) = 2 * t := wrap64_of (by omega) (by omega)
      have e2 : IntKind.i64.wrap (2 * (t : Int) + 1) = 2 * t + 1 := wrap64_of (by omega) (by omega)
      rw [e1, e2]
      have next : ∀ w', Grow w5 w' → okG t (g.getD t (0, 0)) = true → ∃ k3 : Nat, k3 < k ∧ ∃ t' : Nat, IntKind.i64.wrap ((t : Int) + 1) = t' ∧ t' ≤ g.length ∧ (List.range t').all (fun i => okG i (g.getD i (0, 0))) = true ∧ Grow w w' ∧ k3 + t' = g.length := fun w' g1 hok =>
        ⟨k - 1, by omega, t + 1, by rw [wrap64_of (by omega) (by omega)]; omega, by omega, all_range_succ ha hok, G.trans g1, by omega⟩
      generalize g.getD t (0, 0) = x at *
      obtain ⟨A, B⟩ := x
      have h11 : Has w11 n9 #[.int .i64 A, .int .i64 B] := h11
      have bad : ∀ w', Grow w5 w' → okG t (A, B) = false → (Ending.returned (.int .i64 1) = .returned (.int .i64 (if mayG g = true then 0 else 1)) ∧ Grow w w') := fun w' g1 hf => by
        rw [no hf]; exact ⟨rfl, G.trans g1⟩
      have okg : okG t (A, B) = (([A, B] == [-1, -1]) || decide (0 ≤ A ∧ 0 ≤ B ∧ A ≤ 2 * t + 1 ∧ B ≤ 2 * t + 1)) := by
        unfold okG
        congr 1
        rw [Bool.eq_iff_iff]
        simp
      have rest : ∀ w', Grow w5 w' → Has w' n9 #[.int .i64 A, .int .i64 B] → cnd (!([A, B] == [-1, -1]))
        (∃ x19 : Int, w'.cell? ((Addr.mk n9 0 none).add 0) = some (.int .i64 x19) ∧ 
        cnd (decide (x19 < (0 : Int)))
        (Ending.returned (.int .i64 1) = .returned (.int .i64 (if mayG g = true then 0 else 1)) ∧ Grow w w')
        (∃ x20 : Int, w'.cell? ((Addr.mk n9 0 none).add 1) = some (.int .i64 x20) ∧ 
        cnd (decide (x20 < (0 : Int)))
        (Ending.returned (.int .i64 1) = .returned (.int .i64 (if mayG g = true then 0 else 1)) ∧ Grow w w')
        (∃ x21 : Int, w'.cell? ((Addr.mk n9 0 none).add 0) = some (.int .i64 x21) ∧ 
        cnd (decide (x21 > 2 * (t : Int) + 1))
        (Ending.returned (.int .i64 1) = .returned (.int .i64 (if mayG g = true then 0 else 1)) ∧ Grow w w')
        (∃ x22 : Int, w'.cell? ((Addr.mk n9 0 none).add 1) = some (.int .i64 x22) ∧ 
        cnd (decide (x22 > 2 * (t : Int) + 1))
        (Ending.returned (.int .i64 1) = .returned (.int .i64 (if mayG g = true then 0 else 1)) ∧ Grow w w')
        (∃ k3 : Nat, k3 < k ∧ ∃ t' : Nat, IntKind.i64.wrap ((t : Int) + 1) = t' ∧ t' ≤ g.length ∧ (List.range t').all (fun i => okG i (g.getD i (0, 0))) = true ∧ Grow w w' ∧ k3 + t' = g.length)))))
        (∃ k3 : Nat, k3 < k ∧ ∃ t' : Nat, IntKind.i64.wrap ((t : Int) + 1) = t' ∧ t' ≤ g.length ∧ (List.range t').all (fun i => okG i (g.getD i (0, 0))) = true ∧ Grow w w' ∧ k3 + t' = g.length) := by
        intro w' g1 H
        refine cnd_i (fun s => ⟨_, cell_add H rfl, cnd_i (fun s1 => bad _ g1 ?_) (fun s1 => ⟨_, cell_add H rfl, cnd_i (fun s2 => bad _ g1 ?_) (fun s2 => ⟨_, cell_add H rfl, cnd_i (fun s3 => bad _ g1 ?_) (fun s3 => ⟨_, cell_add H rfl, cnd_i (fun s4 => bad _ g1 ?_) (fun s4 => next _ g1 ?_)⟩)⟩)⟩)⟩) (fun s => next _ g1 ?_) <;> rw [okg] <;> simp only [Bool.not_eq_true', Bool.not_eq_false', decide_eq_true_eq, decide_eq_false_iff_not] at * <;> rw [s]
        · rw [decide_eq_false (by omega)]; rfl
        · rw [decide_eq_false (by omega)]; rfl
        · rw [decide_eq_false (by omega)]; rfl
        · rw [decide_eq_false (by omega)]; rfl
        · rw [decide_eq_true (by omega)]; rfl
        · rfl
      refine ⟨?_, ?_⟩
      · refine ⟨_, _, ⟨cell_add h11.drew rfl, cell_add h11.drew rfl, trivial⟩, (aigInput_ok _).mono ?_⟩
        rintro e w14 ⟨rfl, g14⟩
        exact ⟨_, _, rfl, _, _, run_neq2 gate_eq _ _ _ _ _ _ _, rest _ (g11.drew.trans g14) (h11.drew.grow g14)⟩
      · refine (aigInput_ok _).mono ?_
        rintro e w14 ⟨rfl, g14⟩
        have h14 := h11.drew.grow g14
        exact ⟨_, _, rfl, _, _, ⟨cell_add h14 rfl, cell_add h14 rfl, trivial⟩, _, _, run_neq2 gate_eq _ _ _ _ _ _ _, rest _ (g11.drew.trans g14) h14⟩
    · have : t = g.length := by omega
      subst this
      have : mayG g = true := by unfold mayG; rw [ha, decide_eq_true (by omega)]; rfl
      rw [this]
      exact ⟨rfl, G⟩
end Go.Proofs.Ytambabpklfeaoaa.W
