/- Layer 10: the law of paces. -/
import Derived.Test.YtamckcamloelbaaLuby4
namespace Go.Proofs.Ytamckcamloelbaa.W
open Go Go.Fw Go.RowKit Go.Luby

theorem LubyPaces_calls (u n : Int) (hn : 0 ≤ n ∧ n < 256) (w : World) : Calls Try.prog fathomlaw10_LubyPaces.id #[.int .i64 u, .int .u8 n] w fun e w' => e = .returned (.bool true) ∧ Grow w w' := by
  refine fathomlaw10_LubyPaces.calls ?_
  refine (start_spec u w).mono ?_
  rintro e w1 ⟨rfl, hw1⟩
  by_cases hu : 1 ≤ u ∧ u ≤ 1048576
  · rw [if_pos hu]
    refine ⟨_, _, _, _, rfl, ?_⟩
    intro p w7 hp
    have hp0 : w.heap.size ≤ p := by rw [hp.num]; exact hw1.size
    refine store_i hp.has rfl rfl fun w8 Hp Mp => ?_
    have G := (hw1.trans hp.mod).fresh Mp hp0
    refine cnd_f (decide_eq_false (by omega)) (cnd_f (decide_eq_false (by omega)) (cnd_f rfl ⟨_, cell_add Hp rfl, cnd_f rfl ⟨_, cell_add Hp rfl, cnd_f (by simp) (cnd_i (fun h => awake_grow G) (fun h => ?_))⟩⟩))
    simp only [decide_eq_false_iff_not] at h
    have e40 : IntKind.i64.wrap (n.tmod 40) = n % 40 := by
      rw [Int.tmod_eq_emod_of_nonneg (by omega)]
      exact wrap64_of (by omega) (by omega)
    have Hp : Has w8 p #[.int .i64 u, .int .i64 1, .int .i64 u] := Hp
    rw [e40]
    refine ⟨fun i x k => ∃ t : Nat, i = t ∧ 1 ≤ t ∧ (t : Int) ≤ n % 40 + 1 ∧ Has x p #[.int .i64 u, .int .i64 t, .int .i64 (u * (lub t : Int))] ∧ Grow w x ∧ (k : Int) + t = n % 40 + 1, ⟨(n % 40).toNat, 1, rfl, by omega, by omega, ?_, G, by omega⟩, ?_⟩
    · have l1 : lub 1 = 1 := lub_at_full 0
      rw [l1]
      simpa using Hp
    clear Hp G Mp
    rintro i x k _ ⟨t, rfl, ht, ht2, Hp, G, hk⟩
    refine ⟨by decide, cnd_i (fun h => ?_) (fun h => awake_grow G)⟩
    simp only [decide_eq_true_eq] at h
    refine (refNumber t (by omega) (by omega) x).mono ?_
    rintro e w32 ⟨rfl, hw32⟩
    obtain ⟨c1, c2, c3⟩ := mul_bd (u := u) (m := t) (by omega) (by omega) (by omega) (by omega)
    obtain ⟨d1, d2, d3⟩ := mul_bd (u := u) (m := t + 1) (by omega) (by omega) (by omega) (by omega)
    refine ⟨_, rfl, ?_⟩
    rw [c1]
    have ei : IntKind.i64.wrap ((t : Int) + 1) = ((t + 1 : Nat) : Int) := by rw [wrap64_of (by omega) (by omega)]; omega
    rw [ei]
    refine ⟨fun ag j y m => ∃ s : Nat, j = s ∧ m = s ∧ (s : Int) ≤ u * (lub t : Int) ∧ Grow w y ∧ (1 ≤ s ∧ ag = false ∧ Has y p #[.int .i64 u, .int .i64 t, .int .i64 s] ∨ s = 0 ∧ ag = true ∧ Has y p #[.int .i64 u, .int .i64 ((t + 1 : Nat) : Int), .int .i64 (u * (lub (t + 1) : Int))]), ⟨(u * (lub t : Int)).toNat, (u * (lub t : Int)).toNat, by omega, rfl, by omega, G.trans hw32.mod, .inl ⟨by omega, rfl, ?_⟩⟩, ?_⟩
    · rw [Int.toNat_of_nonneg (by omega)]
      exact Hp.keep (S := fun _ => False) hw32.mod id
    clear Hp G hw32
    rintro ag j y m _ ⟨s, rfl, hm, hs, G, H⟩
    refine cnd_i (fun h' => ?_) (fun h' => ?_) <;> simp only [decide_eq_true_eq, decide_eq_false_iff_not] at h'
    · obtain ⟨hs1, rfl, Hp⟩ := H.resolve_right (by omega)
      have hmay : May u t s := ⟨by omega, by omega, by omega, by omega, by omega, by simpa using hs⟩
      refine cnd_f rfl ⟨_, _, _, cells3 Hp, (tick_spec u t s y).mono ?_⟩
      rintro e w43 ⟨rfl, hw43⟩
      refine ⟨_, _, _, _, rfl, store_i (Hp.grow hw43) rfl rfl fun w48 Hp' Mp => ?_⟩
      have Hp' : Has w48 p #[.int .i64 (tickU u t s), .int .i64 (tickA u t s), .int .i64 (tickL u t s)] := Hp'
      refine ⟨s - 1, by omega, s - 1, ?_, rfl, by omega, (G.trans hw43).fresh Mp hp0, ?_⟩
      · rw [wrap64_of (by omega) (by omega)]; omega
      · have eu : tickU u t s = u := if_pos hmay
        by_cases h1 : (1 : Int) < s
        · have ea : tickA u t s = t := by simp only [tickA, if_pos hmay, if_pos h1]
          have el : tickL u t s = ((s - 1 : Nat) : Int) := by simp only [tickL, if_pos hmay, if_pos h1]; omega
          rw [eu, ea, el] at Hp'
          exact .inl ⟨by omega, by simp [again]; omega, Hp'⟩
        · have ea : tickA u t s = ((t + 1 : Nat) : Int) := by simp only [tickA, if_pos hmay, if_neg h1]; rw [if_neg (by omega)]; omega
          have el : tickL u t s = u * (lub (t + 1) : Int) := by simp only [tickL, if_pos hmay, if_neg h1, ea, Int.toNat_natCast]
          rw [eu, ea, el] at Hp'
          exact .inr ⟨by omega, by simp [again, hmay]; omega, Hp'⟩
    · obtain ⟨hs1, rfl, Hp⟩ := H.resolve_left (by omega)
      refine cnd_f rfl ⟨_, cell_add Hp rfl, cnd_f (by simp) ⟨k - 1, by omega, t + 1, rfl, by omega, by omega, Hp, G, by omega⟩⟩
  · rw [if_neg hu]
    refine ⟨_, _, _, _, rfl, ?_⟩
    intro p w7 hp
    have hp0 : w.heap.size ≤ p := by rw [hp.num]; exact hw1.size
    refine store_i hp.has rfl rfl fun w8 Hp Mp => ?_
    have G := (hw1.trans hp.mod).fresh Mp hp0
    have fin : cnd ((1 : Int) == 1) (∃ x9 : Int, ∃ x10 : Int, ∃ x11 : Int, CellsAt w8 (Addr.mk p 0 none) 0 [.int .i64 x9, .int .i64 x10, .int .i64 x11] ∧ 
        ∃ w12 : World, ∃ r13 : Bool, (do eqGuard .eql ty_api_Pace (.tmp 24) (.tmp 25) (.agg #[.int .i64 x9, .int .i64 x10, .int .i64 x11]) (.agg #[.int .i64 0, .int .i64 0, .int .i64 0]); binOp .eql ty_api_Pace (.agg #[.int .i64 x9, .int .i64 x10, .int .i64 x11]) (.agg #[.int .i64 0, .int .i64 0, .int .i64 0])).run Try.prog w8 = .ok (.bool r13) w12 ∧ 
        cnd r13 (Calls Try.prog fathomlaw10_awake.id #[] w12 fun e w14 => ∃ r15 : Bool, e = .returned (.bool r15) ∧ (Ending.returned (.bool r15) = .returned (.bool true) ∧ Grow w w14)) (Ending.returned (.bool false) = .returned (.bool true) ∧ Grow w w12)) (Ending.returned (.bool false) = .returned (.bool true) ∧ Grow w w8) :=
      cnd_t rfl ⟨_, _, _, cells3 Hp, _, _, run_eql3 pace_eq _ _ _ _ _ _ _ _ _, cnd_t (by decide) (awake_grow G)⟩
    refine cnd_i (fun h => fin) (fun h => cnd_i (fun h => fin) (fun h' => ?_))
    simp only [decide_eq_false_iff_not] at h h'
    omega
end Go.Proofs.Ytamckcamloelbaa.W
