/- Layer 19: the law of orders. -/
import Derived.Test.YtambabpklfeaoaaRank8
namespace Go.Proofs.Ytambabpklfeaoaa.W
open Go Go.Fw Go.RowKit Go.RankP

theorem RankSorts_calls {w : World} {p : Option Addr} {n c : Nat} {hs : List Sl} {rows : List (List Bool)} (v2 : V2 Value.bool w p hs rows) (hn : n = rows.length) (hm : n ≤ maxLen) :
    Calls Try.prog fathomlaw19_RankSorts.id #[.slice p n c] w fun e w' => e = .returned (.bool true) ∧ Grow w w' := by
  refine fathomlaw19_RankSorts.calls ?_
  refine cnd_i (fun q => awake19' (Mod.refl w)) (fun q => ?_)
  simp only [decide_eq_false_iff_not] at q
  refine (sorted_ok v2 hn hm).mono ?_
  rintro e w3 ⟨ok, pl, cl, l, rfl, vl, g3, ht, hf⟩
  refine ⟨_, _, _, _, rfl, (refSquare_ok (v2.grow g3) hn hm).mono ?_⟩
  rintro e w6 ⟨rfl, g6⟩
  have G6 := g3.trans g6
  refine ⟨_, rfl, cnd_i (fun s => ?_) (fun s => ?_)⟩
  · have s : sqB rows = false := by simpa using s
    cases ok with
    | true => have := (ht rfl).1; rw [s] at this; cases this
    | false =>
      rw [(hf rfl).1]
      exact cnd_t rfl (cnd_t rfl (awake19' G6))
  · have s : sqB rows = true := by simpa using s
    have V := SqV.of (v2.grow G6) hn s
    refine (refOrder_ok V).mono ?_
    rintro e w10 ⟨⟨o, rfl, ho⟩, g10⟩
    have G10 := G6.trans g10
    refine ⟨_, rfl, cnd_i (fun t => ?_) (fun t => ?_)⟩
    · have t : o = false := by simpa using t
      cases ok with
      | true => have := ho.2 (ht rfl).2.1; rw [t] at this; cases this
      | false =>
        rw [(hf rfl).1]
        exact cnd_t rfl (cnd_t rfl (awake19' G10))
    · have t : o = true := by simpa using t
      cases ok with
      | false => exact absurd ⟨s, ho.1 t⟩ (hf rfl).2
      | true =>
        obtain ⟨_, _, hl, hb, hM⟩ := ht rfl
        rw [hl]
        have hs40 := V.small
        have vl10 := vl.grow (g6.trans g10)
        have ew : ∀ t : Nat, t < n → IntKind.i64.wrap ((t : Int) + 1) = ((t + 1 : Nat) : Int) := fun t ht => by rw [wrap64_of (by omega) (by omega)]; omega
        refine cnd_f rfl (cnd_f (by simp) ⟨fun v w' k => ∃ i : Nat, v = i ∧ i ≤ n ∧ k + i = n ∧ Grow w10 w', ⟨n, 0, rfl, by omega, rfl, Mod.refl _⟩, ?_⟩)
        rintro v w18 k _ ⟨i, rfl, hi, hk, G⟩
        refine cnd_i (fun a => ?_) (fun a => awake19' (G10.trans G)) 
        have a : (i : Int) < n := of_decide_eq_true a
        have hi' : i < n := by omega
        rw [ew i hi']
        refine ⟨fun v w' m => ∃ j : Nat, v = j ∧ j ≤ i ∧ m + j = i ∧ Grow w10 w', ⟨i, 0, rfl, by omega, rfl, G⟩, ?_⟩
        clear G
        rintro v w23 m _ ⟨j, rfl, hj, hm', G⟩
        refine cnd_i (fun a2 => ?_) (fun a2 => ⟨k - 1, by omega, i + 1, rfl, by omega, by omega, G⟩)
        have a2 : (j : Int) < i := of_decide_eq_true a2
        have hj' : j < n := by omega
        rw [ew j hj']
        have Gd := G.drew
        have vd := vl10.grow Gd
        have bi := hb i hi'
        have bj := hb j hj'
        have hjj := hM j i (by omega) hi'
        have rd : ∀ {t : Nat} {K : Int → Prop}, t < n → K (l.getD t 0) → ixK pl n (t : Int) 1 fun a => ∃ x : Int, w23.drew.cell? a = some (.int .i64 x) ∧ K x := fun ht hk => vd.ix 0 (by omega) hl.symm (by omega) fun a e => ⟨_, e, by rw [Int.toNat_natCast]; exact hk⟩
        refine rd hi' (rd hj' (cnd_f ?_ ?_))
        · rw [beq_eq_false_iff_ne]
          intro e
          rw [e] at hjj
          have V' := V
          have irr := ((ho.1 t) (l.getD j 0).toNat (l.getD j 0).toNat (by omega) (by omega)).1.1 rfl
          rw [irr] at hjj; cases hjj
        refine rd hj' ?_
        have ej : l.getD j 0 = (((l.getD j 0).toNat : Nat) : Int) := by omega
        have ei : l.getD i 0 = (((l.getD i 0).toNat : Nat) : Int) := by omega
        have hx := hM j i (by omega) hi'
        generalize (l.getD j 0).toNat = x at ej hx
        generalize (l.getD i 0).toNat = y at ei hx
        rw [ej]
        refine (V.v.grow (g10.trans Gd)).ix (by omega) V.n (by omega) fun a s' e _ hl' _ hv => ⟨_, _, _, e, ?_⟩
        refine rd hi' ?_
        rw [ei]
        refine hv.ix false (by omega) hl' (by rw [hl', Int.toNat_natCast, V.sq x (by have := V.n; omega)]; have := V.n; omega) fun a e => ⟨_, e, ?_⟩
        rw [Int.toNat_natCast, Int.toNat_natCast]
        have hx : (rows.getD x []).getD y false = true := hx
        rw [hx]
        exact cnd_f rfl ⟨m - 1, by omega, j + 1, rfl, by omega, by omega, Gd⟩

theorem RankSorts_law (v0 : Value) (W : World) (h0 : RdV W (.sl (.sl .bool)) v0) : Calls Try.prog fathomlaw19_RankSorts.id #[v0] W fun e W' => e = .returned (.bool true) ∧ Grow W W' := by
  obtain ⟨p, n, c, hs, rows, rfl, hn, h1, h2, v2⟩ := rows_of_rd (fun v h => bools_of_rd h) h0
  exact RankSorts_calls v2 hn (Nat.le_trans h1 h2)
end Go.Proofs.Ytambabpklfeaoaa.W
