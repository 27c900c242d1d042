/- Layer 10: the laws of ticks and paces. -/
import Derived.Test.YtamckcamloelbaaLuby2
import Derived.Test.YtamckcamloelbaaFwEq
namespace Go.Proofs.Ytamckcamloelbaa.W
open Go Go.Fw Go.RowKit Go.Luby

theorem pace_eq : structInts Try.prog ty_api_Pace 3 = true := by kernel_rfl

theorem refTick_spec (u a l : Int) (hmay : May u a l) (w : World) : Calls Try.prog fathomref10_Tick.id #[.agg #[.int .i64 u, .int .i64 a, .int .i64 l]] w fun e w' =>
    e = .returned (.tuple #[.agg #[.int .i64 (tickU u a l), .int .i64 (tickA u a l), .int .i64 (tickL u a l)], .bool (again u a l)]) ∧ Grow w w' := by
  refine fathomref10_Tick.calls ?_
  intro n w2 hn m w4 hm
  have hnm : n ≠ m := hm.ne hn.has
  have G : Grow w w4 := hn.mod.trans hm.mod
  have hm0 : w.heap.size ≤ m := by rw [hm.num]; exact hn.mod.size
  have Hn := hn.has.old hm
  have Hm := hm.has
  obtain ⟨h1, h2, h3, h4, h5, h6⟩ := id hmay
  obtain ⟨q, rfl⟩ : ∃ q : Nat, a = q := ⟨a.toNat, by omega⟩
  simp only [Int.toNat_natCast] at h6
  obtain ⟨b1, b2, b3⟩ := mul_bd (u := u) (m := q) (by omega) (by omega) (by omega) (by omega)
  refine ⟨_, cell_add Hn rfl, cnd_i (fun h => ?_) (fun h => ?_)⟩ <;> simp only [decide_eq_true_eq, decide_eq_false_iff_not] at h
  · refine ⟨_, cell_add Hn rfl, _, cell_add Hn rfl, _, cell_add Hn rfl, store_i Hm rfl rfl fun w9 Hm' Mm => ⟨_, _, _, cells3 Hm', ?_, G.fresh Mm hm0⟩⟩
    rw [wrap64_of (x := l - 1) (by omega) (by omega)]
    simp only [tickU, tickA, tickL, again, if_pos hmay, if_pos (show 1 < l by omega), decide_eq_false (show ¬ l = 1 by omega), Bool.and_false]
  · have hl : l = 1 := by omega
    subst hl
    have Hn : Has w4.drew n _ := Hn
    have Hm : Has w4.drew m _ := Hm
    have G : Grow w w4.drew := G.drew
    refine ⟨_, cell_add Hn rfl, ?_⟩
    rw [wrap64_of (x := (q : Int) + 1) (by omega) (by omega)]
    have alt : ∀ q' : Nat, 1 ≤ q' → q' ≤ 1073741824 → tickA u q 1 = q' → ∀ w', Has w' m #[.int .i64 0, .int .i64 0, .int .i64 0] → Grow w w' →
        ∃ w18 : World, StoreAt (Addr.mk m 0 none) 0 [.int .i64 u, .int .i64 q', .int .i64 (IntKind.i64.wrap (u * (lub q' : Int)))] w' w18 ∧ ∃ x19 : Int, ∃ x20 : Int, ∃ x21 : Int, CellsAt w18 (Addr.mk m 0 none) 0 [.int .i64 x19, .int .i64 x20, .int .i64 x21] ∧
        (Ending.returned (.tuple #[.agg #[.int .i64 x19, .int .i64 x20, .int .i64 x21], .bool true]) = .returned (.tuple #[.agg #[.int .i64 (tickU u q 1), .int .i64 (tickA u q 1), .int .i64 (tickL u q 1)], .bool (again u q 1)]) ∧ Grow w w18) := by
      intro q' g1 g2 hq' w' Hm' G'
      obtain ⟨c1, c2, c3⟩ := mul_bd (u := u) (m := q') (by omega) (by omega) (by omega) (by omega)
      refine store_i Hm' rfl rfl fun w18 Hm2 Mm => ⟨_, _, _, cells3 Hm2, ?_, G'.fresh Mm hm0⟩
      simp only [tickU, tickL, again, if_pos hmay, hq', if_neg (show ¬ (1 : Int) < 1 by omega), decide_eq_true hmay, Int.toNat_natCast, c1]
      rfl
    have hA : tickA u q 1 = if (q : Int) = 1073741824 then 1 else (q : Int) + 1 := by
      simp only [tickA, if_pos hmay]
      rw [if_neg (by omega)]
    refine cnd_i (fun h' => ?_) (fun h' => ?_) <;> simp only [decide_eq_true_eq, decide_eq_false_iff_not] at h'
    · have fin := alt 1 (by omega) (by omega) (by rw [hA, if_pos (by omega)]; rfl)
      have num := refNumber 1 (by omega) (by omega) w4.drew
      refine ⟨⟨_, cell_add Hn rfl, ⟨_, cell_add Hn rfl, ?_⟩, ?_⟩, ⟨_, cell_add Hn rfl, ⟨_, cell_add Hn rfl, ?_⟩, ?_⟩, ?_⟩ <;> refine num.mono ?_ <;> rintro e w' ⟨rfl, hw2⟩ <;> have Hn3 := Hn.keep (S := fun _ => False) hw2.mod id <;> have fin2 := fin _ (Hm.keep (S := fun _ => False) hw2.mod id) (G.trans hw2.mod) <;> refine ⟨_, rfl, ?_⟩
      · exact fin2
      · exact ⟨_, cell_add Hn3 rfl, fin2⟩
      · exact fin2
      · exact ⟨_, cell_add Hn3 rfl, fin2⟩
      · exact ⟨_, cell_add Hn3 rfl, _, cell_add Hn3 rfl, fin2⟩
    · have fin := alt (q + 1) (by omega) (by omega) (by rw [hA, if_neg (by omega)]; rfl)
      have num := refNumber (q + 1) (by omega) (by omega) w4.drew
      refine ⟨⟨_, cell_add Hn rfl, ⟨_, cell_add Hn rfl, ?_⟩, ?_⟩, ⟨_, cell_add Hn rfl, ⟨_, cell_add Hn rfl, ?_⟩, ?_⟩, ?_⟩ <;> refine num.mono ?_ <;> rintro e w' ⟨rfl, hw2⟩ <;> have Hn3 := Hn.keep (S := fun _ => False) hw2.mod id <;> have fin2 := fin _ (Hm.keep (S := fun _ => False) hw2.mod id) (G.trans hw2.mod) <;> refine ⟨_, rfl, ?_⟩
      · exact fin2
      · exact ⟨_, cell_add Hn3 rfl, fin2⟩
      · exact fin2
      · exact ⟨_, cell_add Hn3 rfl, fin2⟩
      · exact ⟨_, cell_add Hn3 rfl, _, cell_add Hn3 rfl, fin2⟩

theorem tick_may {u a l : Int} (h : May u a l) : May (tickU u a l) (tickA u a l) (tickL u a l) := by
  obtain ⟨h1, h2, h3, h4, h5, h6⟩ := id h
  simp only [tickU, tickA, tickL, if_pos h]
  by_cases hl : 1 < l
  · simp only [if_pos hl]
    exact ⟨h1, h2, h3, h4, by omega, by omega⟩
  · simp only [if_neg hl]
    obtain ⟨q, rfl⟩ : ∃ q : Nat, a = q := ⟨a.toNat, by omega⟩
    split
    · obtain ⟨c1, c2, c3⟩ := mul_bd (u := u) (m := 1) (by omega) (by omega) (by omega) (by omega)
      exact ⟨h1, h2, by omega, by omega, c2, by simp⟩
    · obtain ⟨c1, c2, c3⟩ := mul_bd (u := u) (m := q + 1) (by omega) (by omega) (by omega) (by omega)
      exact ⟨h1, h2, by omega, by omega, c2, Int.le_refl _⟩

theorem start_spec (u : Int) (w : World) : Calls Try.prog luby_Start.id #[.int .i64 u] w fun e w' =>
    e = .returned (.tuple (if 1 ≤ u ∧ u ≤ 1048576 then #[.agg #[.int .i64 u, .int .i64 1, .int .i64 u], .int .i64 0] else #[.agg #[.int .i64 0, .int .i64 0, .int .i64 0], .int .i64 1])) ∧ Grow w w' := by
  refine luby_Start.calls ?_
  intro n w2 hn
  have hn0 : w.heap.size ≤ n := by rw [hn.num]; exact Nat.le_refl _
  refine cnd_i (fun h1 => ?_) (fun h1 => cnd_i (fun h2 => ?_) (fun h2 => ?_)) <;> simp only [decide_eq_true_eq, decide_eq_false_iff_not] at *
  · refine store_i hn.has rfl rfl fun w3 H M => ⟨_, _, _, cells3 H, ?_, hn.mod.fresh M hn0⟩
    rw [if_neg (by omega)]
  · refine store_i hn.has rfl rfl fun w3 H M => ⟨_, _, _, cells3 H, ?_, hn.mod.fresh M hn0⟩
    rw [if_neg (by omega)]
  · refine store_i hn.has rfl rfl fun w3 H M => ⟨_, _, _, cells3 H, ?_, hn.mod.fresh M hn0⟩
    rw [if_pos (by omega)]

theorem awake_grow {w0 w : World} (G : Grow w0 w) : Calls Try.prog fathomlaw10_awake.id #[] w fun e w' => ∃ b : Bool, e = .returned (.bool b) ∧ (Ending.returned (.bool b) = .returned (.bool true) ∧ Grow w0 w') :=
  (awake10 w).mono fun _ _ ⟨he, hw⟩ => ⟨true, he, rfl, G.trans hw.mod⟩

theorem LubyTicks_calls (u a l n : Int) (hn : 0 ≤ n ∧ n < 256) (w : World) : Calls Try.prog fathomlaw10_LubyTicks.id #[.agg #[.int .i64 u, .int .i64 a, .int .i64 l], .int .u8 n] w fun e w' => e = .returned (.bool true) ∧ Grow w w' := by
  refine fathomlaw10_LubyTicks.calls ?_
  intro p w2 hp
  have hp0 : w.heap.size ≤ p := by rw [hp.num]; exact Nat.le_refl _
  refine ⟨_, _, _, cells3 hp.has, (tick_spec u a l w2).mono ?_⟩
  rintro e w6 ⟨rfl, hw6⟩
  refine ⟨_, _, _, _, rfl, ?_⟩
  intro q w12 hq
  have Hp := (hp.has.grow hw6).old hq
  have hpq : p ≠ q := hq.ne (hp.has.grow hw6)
  have hq0 : w.heap.size ≤ q := by rw [hq.num]; exact Nat.le_trans hp.mod.size hw6.size
  refine store_i hq.has rfl rfl fun w13 Hq Mq => ?_
  have Hp := Hp.put Mq hpq
  have G := ((hp.mod.trans hw6).trans hq.mod).fresh Mq hq0
  refine ⟨_, _, _, cells3 Hp, (may_spec u a l w13).mono ?_⟩
  rintro e w17 ⟨rfl, hw17⟩
  have Hp := Hp.grow hw17
  have Hq := Hq.grow hw17
  have G := G.trans hw17
  refine ⟨_, rfl, ?_⟩
  by_cases hmay : May u a l
  · refine cnd_f (by simp [hmay]) ?_
    have Hp : Has w17.drew p _ := Hp
    have G : Grow w w17.drew := G.drew
    refine ⟨_, _, _, cells3 Hp, (check_spec u a l _).mono ?_⟩
    rintro e w39 ⟨rfl, hw39⟩
    have Hp := Hp.grow hw39
    have G := G.trans hw39
    rw [if_pos hmay]
    refine ⟨_, rfl, cnd_f rfl ⟨_, _, _, cells3 Hp, ?_⟩⟩
    have hpn : w39.heap.size > p := Hp.lt
    refine ⟨?_, _, cell_add Hp rfl, ?_⟩ <;> refine (until_spec u a l _).mono ?_ <;> rintro e w44 ⟨rfl, hw44⟩ <;> rw [if_pos hmay] <;> refine ⟨_, rfl, ?_⟩ <;> have Hp := Hp.grow hw44 <;> have G := G.trans hw44
    all_goals (
      first | refine ⟨_, cell_add Hp rfl, cnd_f (by simp) ?_⟩ | refine cnd_f (by simp) ?_
      refine ⟨_, _, _, cells3 Hp, ?_⟩
      intro v w51 hv
      have hpv : p ≠ v := hv.ne Hp
      have hv0 : w.heap.size ≤ v := by rw [hv.num]; exact G.size
      refine store_i hv.has rfl rfl fun w52 Hv Mv => ?_
      have Hp := (Hp.old hv).put Mv hpv
      have G := (G.trans hv.mod).fresh Mv hv0
      have en : IntKind.i64.wrap n = n := wrap64_of (by omega) (by omega)
      rw [en]
      refine ⟨fun i x k => ∃ (t : Nat) (u a l : Int), i = t ∧ t ≤ n ∧ May u a l ∧ Has x p #[.int .i64 u, .int .i64 a, .int .i64 l] ∧ Has x v #[.int .i64 u, .int .i64 a, .int .i64 l] ∧ Grow w x ∧ (k : Int) + t = n, ⟨n.toNat, 0, u, a, l, rfl, by omega, hmay, Hp, Hv, G, by omega⟩, ?_⟩
      clear Hp Hv G Mv
      rintro i x k _ ⟨t, u, a, l, rfl, ht, hmay, Hp, Hv, G, hk⟩
      refine cnd_i (fun h => ?_) (fun h => awake_grow G)
      simp only [decide_eq_true_eq] at h
      refine ⟨_, _, _, cells3 Hp, (tick_spec u a l x).mono ?_⟩
      rintro e w61 ⟨rfl, hw61⟩
      refine ⟨_, _, _, _, rfl, ?_⟩
      intro s w67 hs
      have hs0 : w.heap.size ≤ s := by rw [hs.num]; exact Nat.le_trans G.size hw61.size
      have hps : p ≠ s := hs.ne (Hp.grow hw61)
      have hvs : v ≠ s := hs.ne (Hv.grow hw61)
      refine store_i hs.has rfl rfl fun w68 Hs Ms => ?_
      have Hp := ((Hp.grow hw61).old hs).put Ms hps
      have Hv := ((Hv.grow hw61).old hs).put Ms hvs
      have G := ((G.trans hw61).trans hs.mod).fresh Ms hs0
      refine ⟨_, _, _, cells3 Hv, (refTick_spec u a l hmay w68).mono ?_⟩
      rintro e w72 ⟨rfl, hw72⟩
      refine ⟨_, _, _, _, rfl, ?_⟩
      intro r w78 hr
      have hr0 : w.heap.size ≤ r := by rw [hr.num]; exact Nat.le_trans G.size hw72.size
      have hpr : p ≠ r := hr.ne (Hp.grow hw72)
      have hvr : v ≠ r := hr.ne (Hv.grow hw72)
      have hsr : s ≠ r := hr.ne (Hs.grow hw72)
      refine store_i hr.has rfl rfl fun w79 Hr Mr => ?_
      have Hp := ((Hp.grow hw72).old hr).put Mr hpr
      have Hv := ((Hv.grow hw72).old hr).put Mr hvr
      have Hs := ((Hs.grow hw72).old hr).put Mr hsr
      have G := ((G.trans hw72).trans hr.mod).fresh Mr hr0
      refine ⟨_, _, _, cells3 Hs, _, _, _, cells3 Hr, _, _, run_neq3 pace_eq _ _ _ _ _ _ _ _ _, cnd_f (by simp) (cnd_f (by simp) ?_)⟩
      have Hp : Has w79.drew p _ := Hp
      have Hv : Has w79.drew v _ := Hv
      have Hs : Has w79.drew s _ := Hs
      have Hr : Has w79.drew r _ := Hr
      have G : Grow w w79.drew := G.drew
      have fin : ∀ x', Has x' p #[.int .i64 (tickU u a l), .int .i64 (tickA u a l), .int .i64 (tickL u a l)] → Has x' v #[.int .i64 (tickU u a l), .int .i64 (tickA u a l), .int .i64 (tickL u a l)] → Grow w x' →
          ∃ k55, k55 < k ∧ ∃ (t' : Nat) (u a l : Int), IntKind.i64.wrap ((t : Int) + 1) = t' ∧ t' ≤ n ∧ May u a l ∧ Has x' p #[.int .i64 u, .int .i64 a, .int .i64 l] ∧ Has x' v #[.int .i64 u, .int .i64 a, .int .i64 l] ∧ Grow w x' ∧ (k55 : Int) + t' = n := by
        intro x' H1 H2 G'
        refine ⟨k - 1, by omega, t + 1, _, _, _, ?_, by omega, tick_may hmay, H1, H2, G', by omega⟩
        rw [wrap64_of (by omega) (by omega)]; omega
      refine ⟨_, _, _, cells3 Hs, ⟨_, _, _, cells3 Hr, ?_⟩, ?_⟩
      · refine store_i Hp rfl rfl fun w94 Hp' Mp => store_i (Hv.put Mp (Ne.symm hpv)) rfl rfl fun w95 Hv' Mv' => ?_
        exact fin _ (Hp'.put Mv' hpv) Hv' ((G.fresh Mp hp0).fresh Mv' hv0)
      · refine store_i Hp rfl rfl fun w94 Hp' Mp => ⟨_, _, _, cells3 (Hr.put Mp (Ne.symm hpr)), store_i (Hv.put Mp (Ne.symm hpv)) rfl rfl fun w95 Hv' Mv' => ?_⟩
        exact fin _ (Hp'.put Mv' hpv) Hv' ((G.fresh Mp hp0).fresh Mv' hv0))
  · refine cnd_t (by simp [hmay]) ?_
    refine ⟨_, _, _, cells3 Hp, (check_spec u a l _).mono ?_⟩
    rintro e w22 ⟨rfl, hw22⟩
    have Hp := Hp.grow hw22
    have Hq := Hq.grow hw22
    have G := G.trans hw22
    rw [if_neg hmay]
    have e1 : tickU u a l = 0 := if_neg hmay
    have e2 : tickA u a l = 0 := if_neg hmay
    have e3 : tickL u a l = 0 := if_neg hmay
    have e4 : again u a l = false := by simp [again, hmay]
    rw [e1, e2, e3] at Hq
    refine ⟨_, rfl, cnd_t rfl ⟨_, _, _, cells3 Hq, _, _, run_eql3 pace_eq _ _ _ _ _ _ _ _ _, cnd_t (by decide) (cnd_t (by rw [e4]; rfl) ⟨_, _, _, cells3 Hp, (until_spec u a l _).mono ?_⟩)⟩⟩
    rintro e w32 ⟨rfl, hw32⟩
    rw [if_neg hmay]
    exact ⟨_, rfl, cnd_t rfl (awake_grow (G.trans hw32))⟩
end Go.Proofs.Ytamckcamloelbaa.W
