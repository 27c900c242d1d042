/- Layers 15 and 18: which graphs and clauses there may be, by the document and by the program. -/
import Derived.Test.YtambabpklfeaoaaTs1
namespace Go.Proofs.Ytambabpklfeaoaa.W
open Go Go.Fw Go.RowKit Go.TsP

theorem refMayG_ok {w : World} {p : Option Addr} {g : List (Int × Int)} {n c : Nat} (h : Vr 2 gateV w p g) (hn : n = g.length) (hm : n ≤ 4194304) :
    Calls Try.prog fathomref15_May.id #[.slice p n c] w fun e w' => e = .returned (.bool (mayG g)) ∧ Grow w w' := by
  subst hn
  refine fathomref15_May.calls ?_
  refine ⟨fun v w' k => ∃ t : Nat, v = t ∧ t ≤ g.length ∧ (List.range t).all (fun i => okG i (g.getD i (0, 0))) = true ∧ w' = w ∧ k + t = g.length, ⟨_, 0, rfl, Nat.zero_le _, rfl, rfl, rfl⟩, ?_⟩
  rintro v w5 k _ ⟨t, rfl, ht, ha, rfl, hk⟩
  refine cnd_i (fun q2 => ?_) (fun q2 => ?_) <;> simp only [decide_eq_true_eq, decide_eq_false_iff_not] at q2
  · have ht' : t < g.length := by omega
    have no : okG t (g.getD t (0, 0)) = false → mayG g = false := fun hf => by
      cases hh : mayG g with
      | false => rfl
      | true => rw [mayG_at hh ht'] at hf; cases hf
    have next : okG t (g.getD t (0, 0)) = true → ∃ k3 : Nat, k3 < k ∧ ∃ t' : Nat, IntKind.i64.wrap ((t : Int) + 1) = t' ∧ t' ≤ g.length ∧ (List.range t').all (fun i => okG i (g.getD i (0, 0))) = true ∧ w5 = w5 ∧ k3 + t' = g.length := fun hok =>
      ⟨k - 1, by omega, t + 1, by rw [wrap64_of (by omega) (by omega)]; omega, by omega, all_range_succ ha hok, rfl, by omega⟩
    have e1 : IntKind.i64.wrap (2 * (t : Int)) = 2 * t := wrap64_of (by omega) (by omega)
    have e2 : IntKind.i64.wrap (2 * (t : Int) + 1) = 2 * t + 1 := wrap64_of (by omega) (by omega)
    rw [e1, e2]
    have ix : ∀ {K : Addr → Prop}, (∀ a, w5.cell? (a.add 0) = some (.int .i64 (g.getD t (0, 0)).1) → w5.cell? (a.add 1) = some (.int .i64 (g.getD t (0, 0)).2) → K a) → ixK p g.length (t : Int) 2 K := fun hk => gIx h rfl ht' hk
    have bad : okG t (g.getD t (0, 0)) = false → (Ending.returned (.bool false) = .returned (.bool (mayG g)) ∧ Grow w5 w5) := fun hf => by
      rw [no hf]; exact ⟨rfl, Mod.refl _⟩
    generalize g.getD t (0, 0) = x at *
    obtain ⟨A, B⟩ := x
    have okg : okG t (A, B) = ((decide (A = -1) && decide (B = -1)) || decide (0 ≤ A ∧ 0 ≤ B ∧ A ≤ 2 * t + 1 ∧ B ≤ 2 * t + 1)) := by
      unfold okG
      congr 1
      rw [Bool.eq_iff_iff]
      simp
    refine ix fun a x0 _ => ⟨_, x0, cnd_i (fun s0 => ix fun a _ x1 => ⟨_, x1, cnd_i (fun s1 => ?_) (fun s1 => next ?_)⟩) (fun s0 => ?_)⟩
    · refine ix fun a y0 _ => ⟨_, y0, cnd_i (fun t0 => bad ?_) (fun t0 => ix fun a _ y1 => ⟨_, y1, cnd_i (fun t1 => bad ?_) (fun t1 => ix fun a z0 _ => ⟨_, z0, cnd_i (fun t2 => bad ?_) (fun t2 => ix fun a _ z1 => ⟨_, z1, cnd_i (fun t3 => bad ?_) (fun t3 => next ?_)⟩)⟩)⟩)⟩ <;> rw [okg] <;> simp only [decide_eq_true_eq, decide_eq_false_iff_not, Bool.not_eq_true', beq_eq_false_iff_ne, beq_iff_eq] at * <;> rw [decide_eq_false s1, Bool.and_false, Bool.false_or]
      all_goals first
        | (rw [decide_eq_false (by omega)]; done)
        | (rw [decide_eq_true (by omega)]; done)
    · rw [okg]
      simp only [Bool.not_eq_false', beq_iff_eq] at s0 s1
      simp [s0, s1]
    · refine ix fun a y0 _ => ⟨_, y0, cnd_i (fun t0 => bad ?_) (fun t0 => ix fun a _ y1 => ⟨_, y1, cnd_i (fun t1 => bad ?_) (fun t1 => ix fun a z0 _ => ⟨_, z0, cnd_i (fun t2 => bad ?_) (fun t2 => ix fun a _ z1 => ⟨_, z1, cnd_i (fun t3 => bad ?_) (fun t3 => next ?_)⟩)⟩)⟩)⟩ <;> rw [okg] <;> simp only [decide_eq_true_eq, decide_eq_false_iff_not, beq_eq_false_iff_ne] at * <;> rw [decide_eq_false s0, Bool.false_and, Bool.false_or]
      all_goals first
        | (rw [decide_eq_false (by omega)]; done)
        | (rw [decide_eq_true (by omega)]; done)
  · have : t = g.length := by omega
    subst this
    refine ⟨?_, Mod.refl _⟩
    unfold mayG
    rw [ha, Bool.and_true]
    congr 2
    exact decide_eq_decide.2 (by omega)

theorem refIs_ok {n : Nat} (hn : n ≤ 4194304) (p : Option Addr) (c : Nat) (l : Int) (w : World) :
    Calls Try.prog fathomref15_Is.id #[.slice p n c, .int .i64 l] w fun e w' => e = .returned (.bool (isL n l)) ∧ Grow w w' := by
  refine fathomref15_Is.calls ?_
  unfold fathomref15_Is.w
  have e1 : IntKind.i64.wrap (2 * (n : Int)) = 2 * n := wrap64_of (by omega) (by omega)
  have e2 : IntKind.i64.wrap (2 * (n : Int) + 1) = 2 * n + 1 := wrap64_of (by omega) (by omega)
  rw [e1, e2]
  unfold isL
  refine cnd_i (fun q => ⟨?_, Mod.refl w⟩) (fun q => ⟨?_, Mod.refl w⟩) <;> simp only [decide_eq_true_eq, decide_eq_false_iff_not, ge_iff_le] at q
  · congr 2
    exact decide_eq_decide.2 (by omega)
  · rw [decide_eq_false (by omega)]

theorem may1_ok {n : Nat} (hn : n ≤ 4194304) {b : Nat} {p : Option Addr} {c : Nat} {w : World} (h : Has w b #[.slice p n c]) (l : Int) :
    Calls Try.prog tseitin_may_1.id #[.int .i64 l, .pointer (some ⟨b, 0, none⟩)] w fun e w' => e = .returned (.bool (!isL n l)) ∧ Grow w w' := by
  refine tseitin_may_1.calls ?_
  unfold tseitin_may_1.w
  have e1 : IntKind.i64.wrap (2 * (n : Int)) = 2 * n := wrap64_of (by omega) (by omega)
  have e2 : IntKind.i64.wrap (2 * (n : Int) + 1) = 2 * n + 1 := wrap64_of (by omega) (by omega)
  unfold isL
  refine cnd_i (fun q => ⟨?_, Mod.refl w⟩) (fun q => ⟨_, _, _, cell_of h rfl, ?_, Mod.refl w⟩) <;> simp only [decide_eq_true_eq, decide_eq_false_iff_not] at q
  · rw [decide_eq_false (by omega)]; rfl
  · rw [e1, e2]
    congr 2
    rw [Bool.eq_iff_iff]
    simp
    omega
theorem may1_ent : entB Try.prog tseitin_may_1.id = true := by kernel_rfl
theorem args2 (u v : Value) : (#[] ++ #[u] ++ #[v] : Array Value) = #[u, v] := by simp

theorem any_nisL {n : Nat} {l : List Int} : l.any (fun x => !isL n x) = !l.all (isL n) := by
  induction l with
  | nil => rfl
  | cons x l ih => rw [List.any_cons, List.all_cons, ih, Bool.not_and]

theorem all_take_succ {α : Type} {l : List α} {q : α → Bool} {t : Nat} {d : α} (ht : t < l.length) (h : (l.take t).all q = true) (hq : q (l.getD t d) = true) : (l.take (t + 1)).all q = true := by
  rw [List.take_add_one, List.all_append, h]
  have : l[t]? = some (l.getD t d) := by simp [List.getD, ht]
  simp only [this, Option.toList_some, List.all_cons, List.all_nil, hq, Bool.and_true]
theorem all_false {α : Type} {l : List α} {q : α → Bool} {t : Nat} {d : α} (ht : t < l.length) (hq : q (l.getD t d) = false) : l.all q = false := by
  rw [← Bool.not_eq_true, List.all_eq_true]
  intro h
  rw [h _ (by simp [List.getD, ht])] at hq; cases hq

theorem tsMay_ok {w : World} {p q : Option Addr} {g : List (Int × Int)} {n c m d : Nat} {hs : List Sl} {cs : List (List Int)} (h : Vr 2 gateV w p g) (hn : n = g.length) (hg : n ≤ 4194304) (hc : V2 (Value.int .i64) w q hs cs) (hm : m = cs.length) (hx : m ≤ 4194304) :
    Calls Try.prog tseitin_may.id #[.slice p n c, .slice q m d] w fun e w' => e = .returned (.bool (mayT g cs)) ∧ Grow w w' := by
  refine tseitin_may.calls ?_
  intro n1 w2 h2
  have H := h2.has
  refine ⟨_, _, _, cell_of H rfl, (aigCheck_ok (h.grow h2.mod) hn (by unfold maxLen; omega)).mono ?_⟩
  rintro e w4 ⟨rfl, g4⟩
  have G4 := h2.mod.trans g4
  replace H := H.grow g4
  unfold mayT
  refine ⟨_, rfl, cnd_i (fun s => ?_) (fun s => ?_)⟩
  · have : mayG g = false := by
      cases hh : mayG g with
      | false => rfl
      | true => rw [hh] at s; simp at s
    rw [this]
    exact ⟨rfl, G4⟩
  · have : mayG g = true := by
      cases hh : mayG g with
      | false => rw [hh] at s; simp at s
      | true => rfl
    rw [this, Bool.true_and]
    subst hm
    refine ⟨fun v w' k => ∃ t : Nat, v = t ∧ t ≤ cs.length ∧ (cs.take t).all (mayC g.length) = true ∧ Grow w4 w' ∧ k + t = cs.length, ⟨_, 0, rfl, Nat.zero_le _, rfl, Mod.refl _, rfl⟩, ?_⟩
    rintro v w10 k _ ⟨t, rfl, ht, ha, g10, hk⟩
    refine cnd_i (fun s2 => ?_) (fun s2 => ?_) <;> simp only [decide_eq_true_eq, decide_eq_false_iff_not] at s2
    · have ht' : t < cs.length := by omega
      have no : mayC g.length (cs.getD t []) = false → cs.all (mayC g.length) = false := all_false ht'
      refine (hc.grow (G4.trans g10)).ix (by omega) rfl s2 fun a s e _ hsn hsm hv => ⟨_, _, _, e, ?_⟩
      rw [Int.toNat_natCast] at hsn hv
      refine cnd_i (fun s3 => ?_) (fun s3 => ?_) <;> simp only [decide_eq_true_eq, decide_eq_false_iff_not] at s3
      · rw [no (by unfold mayC; rw [decide_eq_false (by omega), Bool.and_false])]
        exact ⟨rfl, G4.trans g10⟩
      · have H10 := H.grow g10
        refine (containsFunc_ok hv hsn hsm may1_ent (fun x => !isL n x) fun x _ w' g' => ?_).mono ?_
        · rw [args2]
          exact may1_ok hg (H10.grow g') x
        · rintro e w13 ⟨rfl, g13⟩
          rw [any_nisL]
          have em : mayC g.length (cs.getD t []) = (cs.getD t []).all (isL n) := by
            unfold mayC
            rw [decide_eq_true (by omega), Bool.and_true, hn]
          refine ⟨_, rfl, cnd_i (fun s4 => ?_) (fun s4 => ⟨k - 1, by omega, t + 1, by rw [wrap64_of (by omega) (by omega)]; omega, ht', all_take_succ (d := []) ht' ha ?_, g10.trans g13, by omega⟩)⟩
          · rw [no (by rw [em]; simpa using s4)]
            exact ⟨rfl, (G4.trans g10).trans g13⟩
          · rw [em]; simpa using s4
    · have : t = cs.length := by omega
      subst this
      rw [List.take_length] at ha
      rw [ha]
      exact ⟨rfl, G4.trans g10⟩

theorem refMayT_ok {w : World} {p q : Option Addr} {g : List (Int × Int)} {n c m d : Nat} {hs : List Sl} {cs : List (List Int)} (h : Vr 2 gateV w p g) (hn : n = g.length) (hg : n ≤ 4194304) (hc : V2 (Value.int .i64) w q hs cs) (hm : m = cs.length) (hx : m ≤ 4194304) :
    Calls Try.prog fathomref18_May.id #[.slice p n c, .slice q m d] w fun e w' => e = .returned (.bool (mayT g cs)) ∧ Grow w w' := by
  refine fathomref18_May.calls ?_
  subst hm
  refine ⟨fun v w' k => ∃ t : Nat, v = t ∧ t ≤ cs.length ∧ (cs.take t).all (mayC g.length) = true ∧ Grow w w' ∧ k + t = cs.length, ⟨_, 0, rfl, Nat.zero_le _, rfl, Mod.refl _, rfl⟩, ?_⟩
  rintro v w5 k _ ⟨t, rfl, ht, ha, g5, hk⟩
  refine cnd_i (fun s2 => ?_) (fun s2 => ?_) <;> simp only [decide_eq_true_eq, decide_eq_false_iff_not] at s2
  · have ht' : t < cs.length := by omega
    have no : mayC g.length (cs.getD t []) = false → mayT g cs = false := fun hf => by
      unfold mayT; rw [all_false ht' hf, Bool.and_false]
    refine ⟨fun v w' k => ∃ t2 : Nat, v = t2 ∧ t2 ≤ (cs.getD t []).length ∧ ((cs.getD t []).take t2).all (isL n) = true ∧ Grow w w' ∧ k + t2 = (cs.getD t []).length, ⟨_, 0, rfl, Nat.zero_le _, rfl, g5, rfl⟩, ?_⟩
    rintro v w10 k2 _ ⟨t2, rfl, ht2, ha2, g10, hk2⟩
    have ix : ∀ {K : Addr → Prop}, (∀ a (s : Sl), w10.cell? a = some (.slice s.p s.n s.c) → s.n = (cs.getD t []).length → s.n ≤ maxLen → Vw (Value.int .i64) w10 s.p (cs.getD t []) → K a) → ixK q cs.length (t : Int) 1 K := fun hk =>
      (hc.grow g10).ix (by omega) rfl s2 fun a s e _ h1 h2 h3 => hk a s e (by rw [Int.toNat_natCast] at h1; exact h1) h2 (by rw [Int.toNat_natCast] at h3; exact h3)
    refine ix fun a s e hsn hsm hv => ⟨_, _, _, e, cnd_i (fun s3 => ?_) (fun s3 => ?_)⟩ <;> simp only [decide_eq_true_eq, decide_eq_false_iff_not] at s3
    · have ht2' : t2 < (cs.getD t []).length := by omega
      refine ix fun a s e hsn hsm hv => ⟨_, _, _, e, hv.ix 0 (by omega) hsn (by omega) fun a e => ⟨_, e, (refIs_ok hg p c _ w10).mono ?_⟩⟩
      rw [Int.toNat_natCast]
      rintro e w17 ⟨rfl, g17⟩
      unfold maxLen at hsm
      refine ⟨_, rfl, cnd_i (fun s4 => ?_) (fun s4 => ⟨k2 - 1, by omega, t2 + 1, by rw [wrap64_of (by omega) (by omega)]; omega, ht2', all_take_succ (d := 0) ht2' ha2 (by simpa using s4), g10.trans g17, by omega⟩)⟩
      rw [no (by unfold mayC; rw [← hn, all_false (d := 0) ht2' (by simpa using s4), Bool.false_and])]
      exact ⟨rfl, g10.trans g17⟩
    · have et : t2 = (cs.getD t []).length := by omega
      subst et
      rw [List.take_length] at ha2
      refine ix fun a s e hsn hsm hv => ⟨_, _, _, e, cnd_i (fun s4 => ?_) (fun s4 => ⟨k - 1, by omega, t + 1, by rw [wrap64_of (by omega) (by omega)]; omega, ht', all_take_succ (d := []) ht' ha ?_, g10, by omega⟩)⟩ <;> simp only [decide_eq_true_eq, decide_eq_false_iff_not] at s4
      · rw [no (by unfold mayC; rw [decide_eq_false (by omega), Bool.and_false])]
        exact ⟨rfl, g10⟩
      · unfold mayC
        rw [← hn, ha2, decide_eq_true (by omega)]; rfl
  · have : t = cs.length := by omega
    subst this
    rw [List.take_length] at ha
    refine (refMayG_ok (h.grow g5) hn hg).mono ?_
    rintro e w21 ⟨rfl, g21⟩
    unfold mayT
    rw [ha, Bool.and_true]
    exact ⟨_, rfl, rfl, g5.trans g21⟩
end Go.Proofs.Ytambabpklfeaoaa.W
