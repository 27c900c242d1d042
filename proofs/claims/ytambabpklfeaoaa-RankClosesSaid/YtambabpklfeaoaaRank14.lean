/- Layer 19: the law of closures. -/
import Derived.Test.YtambabpklfeaoaaRank13
namespace Go.Proofs.Ytambabpklfeaoaa.W
open Go Go.Fw Go.RowKit Go.RankP

theorem Ph.clo {M : Nat → Nat → Bool} {n : Nat} {S : List (List Bool)} (P : Ph M n n (mB S)) : Clo S n := fun i j k hi hj hk _ _ h1 h2 => P.t i j k hi hj hk h1 h2
theorem Ph.rch {M : Nat → Nat → Bool} {n : Nat} {S : Nat → Nat → Bool} (P : Ph M n n S) {i j : Nat} (hi : i < n) (hj : j < n) : S i j = true ↔ rch M n (n - 1) i j :=
  ⟨fun h => by obtain ⟨d, hd⟩ := P.s i j hi hj h; exact rch_short hi hd, fun h => rch_in P.e (fun i j k hi hj hk _ _ h1 h2 => P.t i j k hi hj hk h1 h2) _ i j hi hj h⟩

theorem RankCloses_calls {w : World} {p : Option Addr} {n c : Nat} {hs : List Sl} {rows : List (List Bool)} (v2 : V2 Value.bool w p hs rows) (hn : n = rows.length) (hm : n ≤ maxLen)
    {q : Option Addr} {m d : Nat} {l : List Bool} (vq : Vw Value.bool w q l) (hlm : m = l.length) (hmm : m ≤ maxLen) :
    Calls Try.prog fathomlaw19_RankCloses.id #[.slice p n c, .slice q m d] w fun e w' => e = .returned (.bool true) ∧ Grow w w' := by
  refine fathomlaw19_RankCloses.calls ?_
  refine cnd_i (fun _ => awake19' (Mod.refl w)) (fun q50 => ?_)
  simp only [decide_eq_false_iff_not] at q50
  refine (closure_ok v2 hn hm).mono ?_
  rintro e w3 ⟨G3, hno, hyes⟩
  cases s : sqB rows with
  | false =>
    rw [hno s]
    refine ⟨_, _, _, rfl, (refSquare_ok (v2.grow G3) hn hm).mono ?_⟩
    rintro e w5 ⟨rfl, g5⟩
    rw [s]
    exact ⟨_, rfl, cnd_t rfl (cnd_t rfl (awake19' (G3.trans g5)))⟩
  | true =>
    obtain ⟨p', c', hs', S, rfl, V, P⟩ := hyes s
    refine ⟨_, _, _, rfl, (refSquare_ok (v2.grow G3) hn hm).mono ?_⟩
    rintro e w5 ⟨rfl, g5⟩
    rw [s]
    have G5 := G3.trans g5
    refine ⟨_, rfl, cnd_f rfl (cnd_f (by simp) (cnd_i (fun _ => awake19' G5) (fun q6 => ?_)))⟩
    simp only [decide_eq_false_iff_not] at q6
    refine (filled_ok (by omega) (vq.grow G5) hlm hmm).mono ?_
    rintro e w11 ⟨⟨po, co, ho, O, rfl, VO⟩, g11⟩
    refine ⟨_, _, _, rfl, (refClosed_ok VO).mono ?_⟩
    rintro e w13 ⟨⟨b, rfl, hb⟩, g13⟩
    have V13 := ((V.grow g5).grow g11).grow g13
    have sqS : sqB S = true := by
      unfold sqB
      simp only [Bool.and_eq_true, decide_eq_true_eq, List.all_eq_true]
      refine ⟨V.small, fun r hr => ?_⟩
      obtain ⟨j, hj⟩ := List.getElem?_of_mem hr
      have hl := (List.getElem?_eq_some_iff.1 hj).1
      have := V.sq j hl
      rwa [show S.getD j [] = r by simp [List.getD, hj]] at this
    refine ⟨_, rfl, (refSquare_ok (c := c') V13.v V13.n hm).mono ?_⟩
    rintro e w15 ⟨rfl, g15⟩
    have G15 := ((G5.trans g11).trans g13).trans g15
    have VC := V13.grow g15
    have VO := (VO.grow g13).grow g15
    have VE := (SqV.of v2 hn s).grow G15
    rw [sqS]
    have ew : ∀ t : Nat, t < n → IntKind.i64.wrap ((t : Int) + 1) = ((t + 1 : Nat) : Int) := fun t ht => by rw [wrap64_of (by omega) (by omega)]; omega
    let Ok := fun (h : Bool) (i j : Nat) => h = true → Clo O n ∧ ∀ a b, a < n → b < n → (a < i ∨ a = i ∧ b < j) → mB rows a b = true → mB O a b = true
    refine ⟨_, rfl, cnd_f rfl ⟨fun h v w' k => ∃ i : Nat, v = i ∧ i ≤ n ∧ k + i = n ∧ Ok h i 0 ∧ Grow w15 w', ⟨n, 0, rfl, by omega, rfl, fun h => ⟨hb.1 h, fun a b _ _ h => by omega⟩, Mod.refl _⟩, ?_⟩⟩
    rintro h v w22 k _ ⟨i, rfl, hi, hk, H, G⟩
    refine cnd_i (fun qi => ?_) (fun qi => ?_) <;> simp only [decide_eq_true_eq, decide_eq_false_iff_not] at qi
    · have hi' : i < n := by omega
      rw [ew i hi']
      refine ⟨fun h v w' m => ∃ j : Nat, v = j ∧ j ≤ n ∧ m + j = n ∧ Ok h i j ∧ Grow w15 w', ⟨n, 0, rfl, by omega, rfl, H, G⟩, ?_⟩
      clear H G h w22
      rintro h v w28 m2 _ ⟨j, rfl, hj, hm2, H, G⟩
      refine cnd_i (fun qj => ?_) (fun qj => ?_) <;> simp only [decide_eq_true_eq, decide_eq_false_iff_not] at qj
      · have hj' : j < n := by omega
        rw [ew j hj']
        have Gd := G.drew
        have key := P.rch hi' hj'
        have stp : n = n - 1 + 1 := by omega
        have rea' : ∀ w', Grow w28.drew w' → Calls Try.prog fathomref19_Reaches.id #[.slice p n c, .int .i64 (i : Int), .int .i64 (j : Int), .int .i64 (n : Int)] w' fun e w'' => e = .returned (.bool (mB S i j)) ∧ Grow w28.drew w'' := fun w' g => by
          have := refReaches_ok (c := c) hj' (n - 1) w' i (by omega) hi' (VE.grow (Gd.trans g))
          rw [← stp] at this
          refine this.mono ?_
          rintro e w'' ⟨⟨b, rfl, hb⟩, g'⟩
          refine ⟨?_, g.trans g'⟩
          rw [← key] at hb
          rw [Bool.eq_iff_iff.2 hb]
        have nxt : ∀ h' w', Grow w15 w' → Ok h' i (j + 1) → ∃ k25, k25 < m2 ∧ ∃ j' : Nat, ((j + 1 : Nat) : Int) = j' ∧ j' ≤ n ∧ k25 + j' = n ∧ Ok h' i j' ∧ Grow w15 w' := fun h' w' g ok => ⟨m2 - 1, by omega, j + 1, rfl, by omega, by omega, ok, g⟩
        have tail : ∀ w', Grow w15 w' → cnd h
            (ixK p n (i : Int) 1 fun a35 => ∃ x36_p : Option Addr, ∃ x36_n : Nat, ∃ x36_c : Nat, w'.cell? a35 = some (.slice x36_p x36_n x36_c) ∧ ixK x36_p x36_n (j : Int) 1 fun a37 => ∃ x38 : Bool, w'.cell? a37 = some (.bool x38) ∧ cnd (!x38)
              (∃ k25, k25 < m2 ∧ ∃ j' : Nat, ((j + 1 : Nat) : Int) = j' ∧ j' ≤ n ∧ k25 + j' = n ∧ Ok true i j' ∧ Grow w15 w')
              (ixK po n (i : Int) 1 fun a39 => ∃ x40_p : Option Addr, ∃ x40_n : Nat, ∃ x40_c : Nat, w'.cell? a39 = some (.slice x40_p x40_n x40_c) ∧ ixK x40_p x40_n (j : Int) 1 fun a41 => ∃ x42 : Bool, w'.cell? a41 = some (.bool x42) ∧
                ∃ k25, k25 < m2 ∧ ∃ j' : Nat, ((j + 1 : Nat) : Int) = j' ∧ j' ≤ n ∧ k25 + j' = n ∧ Ok x42 i j' ∧ Grow w15 w'))
            (∃ k25, k25 < m2 ∧ ∃ j' : Nat, ((j + 1 : Nat) : Int) = j' ∧ j' ≤ n ∧ k25 + j' = n ∧ Ok false i j' ∧ Grow w15 w') := fun w' g => by
          refine cnd_i (fun hh => ?_) (fun hh => nxt _ _ g fun h => by cases h)
          obtain ⟨hc, ha⟩ := H hh
          refine VE.read g hi' hj' (cnd_i (fun b => nxt _ _ g fun _ => ⟨hc, fun a b' ha' hb' hab hM => ?_⟩) (fun b => VO.read g hi' hj' (nxt _ _ g fun hO => ⟨hc, fun a b' ha' hb' hab hM => ?_⟩)))
          · by_cases e : a = i ∧ b' = j
            · obtain ⟨rfl, rfl⟩ := e
              rw [hM] at b; cases b
            · exact ha a b' ha' hb' (by omega) hM
          · by_cases e : a = i ∧ b' = j
            · obtain ⟨rfl, rfl⟩ := e
              exact hO
            · exact ha a b' ha' hb' (by omega) hM
        have hnn := V.n
        refine (VC.v.grow Gd).ix (by omega) VC.n (by omega) fun a s' e _ hl' _ hv => ?_
        rw [Int.toNat_natCast] at hl' hv
        have keep : ∀ {w w' : World} {a : Addr} {v : Value}, Grow w w' → w.cell? a = some v → w'.cell? a = some v := fun g h => cell_keep g h fun h => h
        refine ⟨⟨_, _, _, e, ?_⟩, (rea' w28.drew (Mod.refl _)).mono ?_⟩
        · refine hv.ix false (by omega) hl' (by rw [hl', VC.sq i (by omega)]; omega) fun a2 e2 => ?_
          rw [Int.toNat_natCast] at e2
          refine ⟨⟨_, e2, (rea' w28.drew (Mod.refl _)).mono ?_⟩, (rea' w28.drew (Mod.refl _)).mono ?_⟩
          · rintro e w33 ⟨rfl, g⟩
            exact ⟨_, rfl, cnd_f (by simp [mB]) (tail _ (Gd.trans g))⟩
          · rintro e w43 ⟨rfl, g⟩
            exact ⟨_, rfl, _, keep g e2, cnd_f (by simp [mB]) (tail _ (Gd.trans g))⟩
        · rintro e54 w54 ⟨rfl, g⟩
          refine ⟨_, rfl, _, _, _, keep g e, ?_⟩
          refine (hv.grow g).ix false (by omega) hl' (by rw [hl', VC.sq i (by omega)]; omega) fun a2 e2 => ⟨_, e2, ?_⟩
          rw [Int.toNat_natCast]
          exact cnd_f (by simp [mB]) (tail _ (Gd.trans g))
      · have : j = n := by omega
        subst this
        exact ⟨k - 1, by omega, i + 1, rfl, by omega, by omega, fun h => ⟨(H h).1, fun a b ha hb hab => (H h).2 a b ha hb (by omega)⟩, G⟩
    · have : i = n := by omega
      subst this
      have fin : ∀ w', Grow w15 w' → Calls Try.prog fathomref19_Closed.id #[.slice p' i c'] w' fun e w85 => ∃ r86 : Bool, e = .returned (.bool r86) ∧ 
                    cnd r86
                    (Calls Try.prog fathomlaw19_awake.id #[] w85 fun e w87 => ∃ r88 : Bool, e = .returned (.bool r88) ∧ (Ending.returned (.bool r88) = .returned (.bool true) ∧ Grow w w87))
                    (Ending.returned (.bool false) = .returned (.bool true) ∧ Grow w w85) := fun w' g => by
        refine (refClosed_ok (c := c') (VC.grow g)).mono ?_
        rintro e w85 ⟨⟨b, rfl, hb⟩, g'⟩
        exact ⟨_, rfl, cnd_t (hb.2 P.clo) (awake19' ((G15.trans g).trans g'))⟩
      refine ⟨fun v w' m => ∃ a : Nat, v = a ∧ a ≤ i ∧ m + a = i ∧ Grow w15 w', ⟨i, 0, rfl, by omega, rfl, G⟩, ?_⟩
      clear G
      rintro v w71 m3 _ ⟨a, rfl, ha, hm3, G⟩
      refine cnd_i (fun qa => cnd_i (fun hh => ?_) (fun _ => fin _ G)) (fun _ => fin _ G)
      have qa := of_decide_eq_true qa
      have ha' : a < i := by omega
      rw [ew a ha']
      obtain ⟨hc, hO⟩ := H hh
      refine ⟨fun v w' m => ∃ b : Nat, v = b ∧ b ≤ i ∧ m + b = i ∧ Grow w15 w', ⟨i, 0, rfl, by omega, rfl, G⟩, ?_⟩
      clear G
      rintro v w76 m4 _ ⟨b', rfl, hb', hm4, G⟩
      refine cnd_i (fun qb => ?_) (fun qb => ⟨m3 - 1, by omega, a + 1, rfl, by omega, by omega, G⟩)
      have qb := of_decide_eq_true qb
      have hb'' : b' < i := by omega
      rw [ew b' hb'']
      have nxt : ∃ k74, k74 < m4 ∧ ∃ b2 : Nat, ((b' + 1 : Nat) : Int) = b2 ∧ b2 ≤ i ∧ k74 + b2 = i ∧ Grow w15 w76 := ⟨m4 - 1, by omega, b' + 1, rfl, by omega, by omega, G⟩
      refine VC.read G ha' hb'' (cnd_i (fun s1 => VO.read G ha' hb'' (cnd_f ?_ nxt)) (fun _ => nxt))
      have := rch_in (S := mB O) (fun x y hx hy => hO x y hx hy (by omega)) hc _ a b' ha' hb'' ((P.rch ha' hb'').1 s1)
      rw [this]; rfl

theorem RankCloses_law (v0 v1 : Value) (W : World) (h0 : RdV W (.sl (.sl .bool)) v0) (h1 : RdV W (.sl .bool) v1) : Calls Try.prog fathomlaw19_RankCloses.id #[v0, v1] W fun e W' => e = .returned (.bool true) ∧ Grow W W' := by
  obtain ⟨p, n, c, hs, rows, rfl, hn, hc, hm, v2⟩ := rows_of_rd (f := Value.bool) (fun v hv => bools_of_rd hv) h0
  obtain ⟨q, m, d, l, rfl, hl, hd, hm', vq⟩ := bools_of_rd h1
  exact RankCloses_calls v2 hn (by omega) vq hl (by omega)
end Go.Proofs.Ytambabpklfeaoaa.W
