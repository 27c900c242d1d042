/- Layer 19: the theorem of orders. -/
import Derived.Test.YtambabpklfeaoaaVec6
namespace Go.Proofs.Ytambabpklfeaoaa.W
open Go Go.Fw Go.RowKit Go.TsP Go.AgP
variable {w : World} {q : Option Addr} {m d : Nat}

theorem RankOrders_calls {size : Int} (hsz : 0 ≤ size ∧ size < 256) {ins : List Bool} (hi : Vw Value.bool w q ins) (hm : m = ins.length) (hmx : m ≤ maxLen) :
    Calls Try.prog fathomlaw19_RankOrders.id #[.int .u8 size, .slice q m d] w fun e w' => e = .returned (.bool true) ∧ Grow w w' := by
  refine fathomlaw19_RankOrders.calls ?_
  unfold fathomlaw19_RankOrders.w
  obtain ⟨n, hn5, en⟩ : ∃ n : Nat, n ≤ 5 ∧ IntKind.i64.wrap (size.tmod 6) = (n : Int) := ⟨(size % 6).toNat, by omega, by rw [Int.tmod_eq_emod_of_nonneg hsz.1, wrap64_of (by omega) (by omega)]; omega⟩
  simp only [en]
  have epst : IntKind.i64.wrap ((IntKind.i64.wrap ((n : Int) * IntKind.i64.wrap ((n : Int) - 1))).tdiv 2) = (pst n n : Int) ∧ pst n n ≤ 10 := by
    have : n = 0 ∨ n = 1 ∨ n = 2 ∨ n = 3 ∨ n = 4 ∨ n = 5 := by omega
    rcases this with rfl | rfl | rfl | rfl | rfl | rfl <;> decide
  obtain ⟨epst, hp10⟩ := epst
  have hN : pst n n ≤ 1048576 := by omega
  refine ⟨by decide, (aigNewM_ok w).mono ?_⟩
  rintro e w1 ⟨b, x0, rfl, h0, hg0, f0, g1⟩
  have hx0 : x0.g.length = 0 := by rw [hg0]; rfl
  refine ⟨_, rfl, (order_ok h0.a n (by omega) (by omega)).mono ?_⟩
  rintro e w3 ⟨p, c, hs, pm, cm, ms, rows, y, rfl, S, OM, dM⟩
  have Sm := S.m
  rw [hx0] at Sm OM
  rw [hx0]
  have yg : y.g = List.replicate (pst n n) (-1, -1) := by rw [S.g, hg0]; rfl
  have yl : y.g.length = pst n n := by rw [yg]; simp
  have lt1 := h0.lt
  have hy : AM w3 b y := by
    obtain ⟨a0, may0, d1, d2, nb, s, M0, hn0, hs0⟩ := h0
    have hbm : ¬ x0.foot b x0.bm := fun e => by
      rcases e with e | e
      · exact d1 e
      · exact d2 e
    refine ⟨S.a, by rw [yg]; exact mayG_rep _ hN, by rw [S.bm]; exact d1, fun e => ?_, nb, s, by rw [S.bm]; exact M0.keep S.M hbm, by omega, fun pp v e => ?_⟩
    · rw [S.bm] at e
      rcases S.f _ (.inr e) with e2 | e2
      · exact hbm e2
      · have := lt1 x0.bm (.inr rfl); omega
    · obtain ⟨i, hi', _⟩ := hs0 pp v e
      omega
  have G3 : Grow w w3 := g1.then S.M fun j hj e => by have := f0 j (.inl e); omega
  have fy : ∀ j, y.fm b j → w.heap.size ≤ j := fun j hj => by
    rcases hj with e | e
    · rcases S.f j e with e2 | e2
      · exact f0 j (.inl e2)
      · have := g1.size; omega
    · exact f0 j (.inr (e.trans S.bm))
  refine ⟨_, _, _, _, _, _, rfl, cnd_f (by simp) ((aigLen_ok hy.a).mono ?_)⟩
  rintro e w8 ⟨rfl, g8⟩
  have G8 := G3.trans g8
  refine ⟨_, rfl, by decide, cnd_f (by rw [epst, yl]; simp) (cnd_i (fun s => cnd_t s (awake19' G8)) (fun s => ?_))⟩
  clear s
  refine (filledO_ok (w := w8) (n := n) (by omega) (q := none) (m := 0) (c := 0) (l := []) Vw.nil rfl).mono ?_
  rintro e w14 ⟨⟨p15, c15, hB, rows0, rfl, Q0, val0, fr0, O0⟩, g14⟩
  have hB0 : rowsB n rows0 (sM n ins 0) := ⟨Q0.n.symm, fun i hi => ⟨by rw [Q0.sq i (by have := Q0.n; omega)]; exact Q0.n.symm, fun j hj => by
    rw [val0 i j hi hj]
    have : sM n ins 0 i j = false := by unfold sM; simp
    rw [this]; simp⟩⟩
  have hBl : hB.length = n := by rw [O0.n]; exact Q0.n.symm
  refine ⟨_, _, _, rfl, ?_⟩
  refine ⟨fun at_ i u z => ∃ (t : Nat) (rs : List (List Bool)), i = t ∧ t ≤ n ∧ z = n - t ∧ at_ = (pst n t : Int) ∧ Own2 Value.bool ty_sl_bool ty_bool u p15 c15 hB rs ∧ rowsB n rs (sM n ins (pst n t)) ∧ Grow w8 u, ⟨_, 0, rows0, rfl, Nat.zero_le _, rfl, rfl, O0, hB0, g14⟩, ?_⟩
  clear O0 hB0 val0 Q0
  rintro at_ i w21 z _ ⟨i, rs, rfl, hin, rfl, rfl, O, hR, G21⟩
  refine cnd_i (fun r => ?_) (fun r => ?_)
  · have r : i < n := by simp at r; omega
    have ei : IntKind.i64.wrap ((i : Int) + 1) = ((i + 1 : Nat) : Int) := wN rfl (by omega)
    rw [ei]
    refine ⟨fun at_ j u z => ∃ (t : Nat) (rs : List (List Bool)), j = t ∧ i < t ∧ t ≤ n ∧ z = n - t ∧ at_ = (pidx n i t : Int) ∧ Own2 Value.bool ty_sl_bool ty_bool u p15 c15 hB rs ∧ rowsB n rs (sM n ins (pidx n i t)) ∧ Grow w8 u, ?_, ?_⟩
    · have e1 : pidx n i (i + 1) = pst n i := by unfold pidx; omega
      exact ⟨_, i + 1, rs, rfl, by omega, by omega, rfl, by rw [e1], O, by rw [e1]; exact hR, G21⟩
    clear O hR G21
    rintro at_ j u z _ ⟨j, rs, rfl, hij, hjn, rfl, rfl, O, hR, Gu⟩
    refine cnd_i (fun r2 => ?_) (fun r2 => ?_)
    · have r2 : j < n := by simp at r2; omega
      have hpl := pidx_lt hij r2
      have ej : IntKind.i64.wrap ((j : Int) + 1) = ((j + 1 : Nat) : Int) := wN rfl (by omega)
      have ep : IntKind.i64.wrap ((pidx n i j : Int) + 1) = ((pidx n i j + 1 : Nat) : Int) := wN rfl (by omega)
      rw [ej, ep]
      have gD : Grow u u.drew := (Mod.refl u).drew
      have q0 := O.grow gD
      have GD := Gu.trans gD
      have li := (q0.r i (by rw [hR.1]; omega)).1
      have mi := (hR.2 i r).1
      have mj := (hR.2 j r2).1
      have hsl : ∀ k, k < n → hB.getD k Sl.nil ∈ hB := fun k hk => by simp [List.getD, show k < hB.length by omega]
      have fs : ∀ k, foot2 p15 hB k → w8.heap.size ≤ k := fr0
      have rest : ∀ v : Bool, v = ins.getD (pidx n i j) false → ixK (hB.getD i Sl.nil).p (hB.getD i Sl.nil).n (j : Int) 1 fun a32 =>
            ∃ w33 : World, StoreAt a32 0 [.bool v] u.drew w33 ∧ 
            ixK p15 n (j : Int) 1 fun a34 =>
            ∃ x35_p : Option Addr, ∃ x35_n : Nat, ∃ x35_c : Nat, w33.drew.cell? a34 = some (.slice x35_p x35_n x35_c) ∧ 
            ixK p15 n (i : Int) 1 fun a36 =>
            ∃ x37_p : Option Addr, ∃ x37_n : Nat, ∃ x37_c : Nat, w33.drew.cell? a36 = some (.slice x37_p x37_n x37_c) ∧ 
            ixK x37_p x37_n (j : Int) 1 fun a38 =>
            ∃ x39 : Bool, w33.drew.cell? a38 = some (.bool x39) ∧ 
            ixK x35_p x35_n (i : Int) 1 fun a40 =>
            ∃ w41 : World, StoreAt a40 0 [.bool (!x39)] w33.drew w41 ∧ 
            ixK p n (i : Int) 1 fun a42 =>
            ∃ x43_p : Option Addr, ∃ x43_n : Nat, ∃ x43_c : Nat, w41.cell? a42 = some (.slice x43_p x43_n x43_c) ∧ 
            ixK x43_p x43_n (j : Int) 1 fun a44 =>
            ∃ x45 : Int, w41.cell? a44 = some (.int .i64 x45) ∧ 
            cnd (x45 != (IntKind.i64.wrap ((2 : Int) * ((pidx n i j + 1 : Nat) : Int))))
            (Ending.returned (.bool false) = .returned (.bool true) ∧ Grow w w41)
            (ixK p n (j : Int) 1 fun a46 =>
            ∃ x47_p : Option Addr, ∃ x47_n : Nat, ∃ x47_c : Nat, w41.cell? a46 = some (.slice x47_p x47_n x47_c) ∧ 
            ixK x47_p x47_n (i : Int) 1 fun a48 =>
            ∃ x49 : Int, w41.cell? a48 = some (.int .i64 x49) ∧ 
            cnd (x49 != (IntKind.i64.wrap ((IntKind.i64.wrap ((2 : Int) * ((pidx n i j + 1 : Nat) : Int))) + (1 : Int))))
            (Ending.returned (.bool false) = .returned (.bool true) ∧ Grow w w41)
            (∃ k24, k24 < n - j ∧ ∃ (t : Nat) (rs : List (List Bool)), ((j + 1 : Nat) : Int) = t ∧ i < t ∧ t ≤ n ∧ k24 = n - t ∧ ((pidx n i j + 1 : Nat) : Int) = (pidx n i t : Int) ∧ Own2 Value.bool ty_sl_bool ty_bool w41 p15 c15 hB rs ∧ rowsB n rs (sM n ins (pidx n i t)) ∧ Grow w8 w41)) := by
        intro v hv
        refine (q0.r i (by rw [hR.1]; omega)).2.st v rfl rfl (by omega) li (by omega) fun w33 o1 m1 => ?_
        rw [Int.toNat_natCast] at o1
        have q1 := q0.set (i := i) (by rw [hR.1]; omega) (by simp) o1 m1
        have G33 := GD.then m1 fun k hk hk2 => by have := fs k (.inr ⟨_, hsl i r, hk2⟩); omega
        have q1' := q1.grow (Mod.refl w33).drew
        have v2 := q1'.v2
        have r1 := hR.set r r2 v
        have hl1 := r1.1
        refine v2.h.ix Sl.nil (by omega) (by omega) (by omega) fun a34 e34 => ⟨_, _, _, e34, ?_⟩
        refine v2.h.ix Sl.nil (by omega) (by omega) (by omega) fun a36 e36 => ⟨_, _, _, e36, ?_⟩
        rw [Int.toNat_natCast, Int.toNat_natCast]
        have ev : ((rs.getD i []).set j v).getD (j : Int).toNat false = v := by rw [Int.toNat_natCast, getD_set (by omega), if_pos rfl]
        refine (o1.drew).ix false (by omega) (by rw [List.length_set]; omega) (by omega) fun a38 e38 => ⟨_, e38, ?_⟩
        rw [ev]
        have oj := q1'.r j (by rw [hl1]; omega)
        have lj2 : (rs.set i ((rs.getD i []).set j v)).getD j [] = rs.getD j [] := by rw [getD_set (by rw [hR.1]; omega), if_neg (by omega)]
        refine oj.2.st (!v) rfl rfl (by omega) oj.1 (by rw [oj.1, lj2]; omega) fun w41 o2 m2 => ?_
        rw [Int.toNat_natCast] at o2
        have q2 := q1'.set (i := j) (by rw [hl1]; omega) (by simp) o2 m2
        have r3 := r1.set r2 r (!v)
        have G41 : Grow w8 w41 := (G33.trans (Mod.refl w33).drew).then m2 fun k hk hk2 => by have := fs k (.inr ⟨_, hsl j r2, hk2⟩); omega
        have Ga := g8.trans G41
        have av := (S.o.grow Ga).v2
        have rd : ∀ (a b' : Nat), a < n → b' < n → ∀ {K : Int → Prop}, K (ordM n 0 (pst n n) a b') → ixK p n (a : Int) 1 fun a42 => ∃ x43_p : Option Addr, ∃ x43_n : Nat, ∃ x43_c : Nat, w41.cell? a42 = some (.slice x43_p x43_n x43_c) ∧ ixK x43_p x43_n (b' : Int) 1 fun a44 => ∃ x45 : Int, w41.cell? a44 = some (.int .i64 x45) ∧ K x45 := fun a b' ha hb' K hK => by
          have hra := Sm.2 a ha
          refine rIx av Sm.1.symm (by rw [Sm.1]; exact ha) fun a sl e _ hsn hsm hv => ⟨_, _, _, e, hv.ix 0 (by omega) hsn (by omega) fun a e => ⟨_, e, ?_⟩⟩
          rw [Int.toNat_natCast, hra.2 b' hb']
          exact hK
        have v1 : ordM n 0 (pst n n) i j = 2 * ((pidx n i j + 1 : Nat) : Int) := by unfold ordM; rw [if_pos hij, if_pos hpl, Nat.zero_add]
        have v2' : ordM n 0 (pst n n) j i = 2 * ((pidx n i j + 1 : Nat) : Int) + 1 := by unfold ordM; rw [if_neg (by omega), if_pos hij, if_pos hpl, Nat.zero_add]
        have w2 : IntKind.i64.wrap ((2 : Int) * ((pidx n i j + 1 : Nat) : Int)) = 2 * ((pidx n i j + 1 : Nat) : Int) := wrap64_of (by omega) (by omega)
        have w2' : IntKind.i64.wrap (2 * ((pidx n i j + 1 : Nat) : Int) + 1) = 2 * ((pidx n i j + 1 : Nat) : Int) + 1 := wrap64_of (by omega) (by omega)
        rw [w2, w2']
        refine rd i j r r2 (cnd_f (by rw [v1]; simp) (rd j i r2 r (cnd_f (by rw [v2']; simp) ?_)))
        have ep1 : pidx n i (j + 1) = pidx n i j + 1 := by unfold pidx; omega
        refine ⟨n - (j + 1), by omega, j + 1, _, rfl, by omega, by omega, rfl, by rw [ep1], q2, ?_, G41⟩
        rw [ep1]
        refine rowsB.congr r3 fun a b' ha hb' => ?_
        rw [hv]
        exact sM_step hij r2 a b' ha hb'
      refine q0.v2.h.ix Sl.nil (by omega) (by omega) (by omega) fun a28 e28 => ⟨_, _, _, e28, ?_⟩
      rw [Int.toNat_natCast]
      refine cnd_i (fun s => ?_) (fun s => rest false ?_)
      · refine (hi.grow (G8.trans GD)).ix false (by omega) hm (by simp at s; omega) fun a30 e30 => ⟨_, e30, rest _ ?_⟩
        rw [Int.toNat_natCast]
      · have : ins.length ≤ pidx n i j := by simp at s; omega
        simp [List.getD, this]
    · have r2 : j = n := by simp at r2; omega
      subst r2
      have e1 : pidx j i j = pst j (i + 1) := by
        show pst j i + (j - i - 1) = pst j i + _
        omega
      refine ⟨j - (i + 1), by omega, i + 1, rs, rfl, by omega, rfl, by rw [e1], O, by rw [← e1]; exact hR, Gu⟩
  have r : i = n := by simp at r; omega
  subst r
  have hF : rowsB i rs (sF i ins) := rowsB.congr hR fun a b' ha hb' => sM_full ha hb'
  generalize i = n at *
  have Gw21 := G8.trans G21
  have Q : SqV w21 p15 n hB rs := ⟨O.v2, hF.1.symm, by rw [hF.1]; omega, fun k hk => by rw [hF.1] at hk ⊢; exact (hF.2 k hk).1⟩
  refine (refOrder_ok Q).mono ?_
  rintro e w68 ⟨⟨bo, rfl, hbo⟩, g68⟩
  rw [isOrd_iff hF] at hbo
  have Ga := (g8.trans G21).trans g68
  refine ⟨_, rfl, (nodes_ok (hy.grow Ga).a hy.len).mono ?_⟩
  rintro e w70 ⟨pN, cN, rfl, VN, g70⟩
  have G70 := Ga.trans g70
  have Gw70 := G3.trans G70
  rw [yg] at VN
  have hml := mustO_len (ordM n 0 (pst n n)) n n
  have hml2 : n * (n * n) ≤ 5 * (5 * 5) := Nat.mul_le_mul hn5 (Nat.mul_le_mul hn5 hn5)
  refine ⟨_, _, _, rfl, (refAsked_ok (by rw [yl]; simp) (by omega) rfl (by unfold maxLen; omega) hm hmx (mayG_rep _ hN) (fun t ht l hl => ?_) VN (OM.v2.grow G70) (hi.grow Gw70)).mono ?_⟩
  · have := mustO_bd (m := n) _ (show (mustO (ordM n 0 (pst n n)) n n).getD t [] ∈ mustO (ordM n 0 (pst n n)) n n by simp [List.getD, ht]) l hl
    rw [Nat.zero_add] at this
    simpa using this
  rintro e w72 ⟨rfl, g72⟩
  have G72 := G70.trans g72
  have eb : askedP (List.replicate (pst n n) (-1, -1)) (mustO (ordM n 0 (pst n n)) n n) ins = bo := by
    rw [Bool.eq_iff_iff, asked_order hN ins, hbo]
  rw [eb]
  refine ⟨_, rfl, cnd_f (by simp) ?_⟩
  have hyD := hy.grow G72
  have ltw3 := hy.lt
  have av := (S.o.grow G72).v2
  have lt1' : w1.heap.size ≤ w3.heap.size := S.M.size
  have sp3 : ∀ k, foot3 p hs k → ¬ y.fm b k := fun k hk e => by
    have hk2 : foot2 p hs k := by
      rcases hk with ⟨_, h2⟩ | ⟨s, h2, _, h4⟩
      · exact .inl h2
      · exact .inr ⟨s, h2, h4⟩
    have := S.d k hk2
    rcases e with e | e
    · exact this.1 e
    · have h3 := lt1 x0.bm (.inr rfl)
      have h4 := S.bm
      omega
  have hsq : isSq y.g.length rows = true := by
    unfold isSq
    rw [Sm.1, decide_eq_true (by omega), Bool.true_and, List.all_eq_true]
    intro rw' hrw
    obtain ⟨k, hk, rfl⟩ := List.mem_iff_getElem.1 hrw
    have hk' : k < n := by rw [← Sm.1]; exact hk
    have er : rows.getD k [] = rows[k] := by simp [List.getD, hk]
    have hrk := Sm.2 k hk'
    rw [er] at hrk
    rw [decide_eq_true hrk.1, Bool.true_and, List.all_eq_true]
    intro l hl
    obtain ⟨a, ha, rfl⟩ := List.mem_iff_getElem.1 hl
    have ha' : a < n := by omega
    have e2 := hrk.2 a ha'
    have e3 : (rows[k]).getD a 0 = (rows[k])[a] := by simp [List.getD, ha]
    rw [e3] at e2
    rw [e2, yl]
    have := ordM_bd (n := n) (g0 := 0) (t := pst n n) k a
    rw [Nat.zero_add] at this
    exact isL_of this.1 this.2
  refine (places_ok hyD av Sm.1.symm sp3 (by rw [yl]; omega)).mono ?_
  rintro e w74 ⟨P, D, outs, y2, us, rfl, A74, E74, V74, _, yes⟩
  obtain ⟨ol, words⟩ := yes hsq
  rw [Sm.1] at ol
  have Gw72 := G3.trans G72
  have Gw74 : Grow w w74 := Gw72.then A74.mod fun j hj e => by have := fy j e; omega
  refine ⟨_, _, _, rfl, (nodes_ok A74.am.a A74.am.len).mono ?_⟩
  rintro e w76 ⟨p2, c2, rfl, VN2, g76⟩
  refine ⟨_, _, _, rfl, (aigEval_ok VN2 rfl A74.am.may (hi.grow (Gw74.trans g76)) hm).mono ?_⟩
  rintro e w78 ⟨pv, cv, rfl, OV2, g78⟩
  have g7 := g76.trans g78
  -- the square, behind all that
  have s72 : Own2 Value.bool ty_sl_bool ty_bool w72 p15 c15 hB rs := ((O.grow g68).grow g70).grow g72
  have s74 := s72.keep A74.mod fun k hk e => by
    have h1 := fr0 k hk
    have h2 := ltw3 k e
    have h3 := g8.size
    omega
  have s78 := s74.grow g7
  refine ⟨_, _, _, rfl, (sorted_ok s78.v2 hF.1.symm (by unfold maxLen; omega)).mono ?_⟩
  rintro e w80 ⟨ok, pl, cl, l, rfl, vl, g80, hok1, hok0⟩
  have hsqB : sqB rs = true := by
    unfold sqB
    rw [hF.1, decide_eq_true (by omega), Bool.true_and, List.all_eq_true]
    intro rw' hrw
    obtain ⟨k, hk, rfl⟩ := List.mem_iff_getElem.1 hrw
    have := (hF.2 k (by rw [← hF.1]; exact hk)).1
    have er : rs.getD k [] = rs[k] := by simp [List.getD, hk]
    rw [er] at this
    exact decide_eq_true this
  have eok : ok = bo := by
    cases ok with
    | true => exact ((hbo.2 ((isOrd_iff hF).1 (hok1 rfl).2.1))).symm
    | false =>
      cases hb : bo with
      | false => rfl
      | true => exact absurd ⟨hsqB, (isOrd_iff hF).2 (hbo.1 hb)⟩ (hok0 rfl).2
  have g8' := g7.trans g80
  refine ⟨_, _, _, _, rfl, cnd_f (by rw [ol]; simp) (cnd_f (by rw [eok]; simp) ?_)⟩
  have Gw80 := Gw74.trans g8'
  refine ⟨fun I u z => ∃ t : Nat, I = t ∧ t ≤ n ∧ z = n - t ∧ Grow w80 u, ⟨_, 0, rfl, Nat.zero_le _, rfl, Mod.refl _⟩, ?_⟩
  rintro I w87 z _ ⟨t, rfl, ht, rfl, G87⟩
  refine cnd_i (fun r => cnd_i (fun r2 => ?_) (fun _ => awake19' (Gw80.trans G87))) (fun _ => awake19' (Gw80.trans G87))
  have r : t < n := by simp at r; omega
  have g87 := g8'.trans G87
  obtain ⟨wl, wa, wn⟩ := words t (by rw [Sm.1]; exact r)
  refine rIx (V74.grow' g87) rfl (by omega) fun a sl e _ hsn hsm hv => ⟨_, _, _, e, ?_⟩
  refine (number_ok ((OV2.grow g80).grow G87).vw rfl A74.am.len hv hsn wl wa).mono ?_
  rintro e w90 ⟨rfl, g90⟩
  rw [wn ins, yg, Sm.1, cnt_col hN Sm r]
  obtain ⟨_, _, hll, hlb, hlo⟩ := hok1 (eok.trans r2)
  generalize hcnt : ((List.range n).countP fun k => k != t && sF n ins k t) = cnt
  have hlt : cnt < n := by
    rw [← hcnt]
    have h1 : (List.range n).countP (fun k => k != t && sF n ins k t) ≤ (List.range n).length := List.countP_le_length
    rw [List.length_range] at h1
    refine Nat.lt_of_le_of_ne h1 fun e => ?_
    have h2 := List.countP_eq_length.1 (e.trans List.length_range.symm) t (List.mem_range.2 r)
    simp at h2
  have hpl : (l.map Int.toNat).getD cnt 0 = t := by
    rw [← hcnt]
    have hg : ∀ k, (l.map Int.toNat).getD k 0 = (l.getD k 0).toNat := fun k => by
      simp only [List.getD_eq_getElem?_getD, List.getElem?_map]
      cases l[k]? <;> rfl
    refine OrP.place_eq (S := sF n ins) (fun k _ => sF_irr n ins k) (fun a b' ha hb' h1 => ?_) (by simp [hll]) (fun k hk => ?_) (fun a b' hab hb' => ?_) r
    · by_cases e : a = b'
      · subst e; rw [sF_irr] at h1; cases h1
      · rw [sF_flip e, h1]; rfl
    · rw [hg]
      have := hlb k hk
      omega
    · rw [hg, hg]
      have h1 := hlo a b' hab hb'
      have h2 := hlb a (by omega)
      have h3 := hlb b' hb'
      rw [← h1]
      exact ((hF.2 _ (by omega)).2 _ (by omega)).symm
  refine ⟨_, rfl, cnd_f (decide_eq_false (by omega)) ((vl.grow (G87.trans g90)).ix 0 (by omega) rfl (by omega) fun a e => ⟨_, e, cnd_f ?_ ⟨_, ?_, t + 1, wN rfl (by omega), by omega, rfl, G87.trans g90⟩⟩)⟩
  · rw [Int.toNat_natCast]
    have h1 : (l.map Int.toNat).getD cnt 0 = (l.getD cnt 0).toNat := by
      simp only [List.getD_eq_getElem?_getD, List.getElem?_map]
      cases l[cnt]? <;> rfl
    rw [h1] at hpl
    have := hlb cnt hlt
    have e2 : l.getD cnt 0 = (t : Int) := by omega
    rw [e2]; simp
  · omega

theorem RankOrders_law (v0 v1 : Value) (W : World) (h0 : RdV W (.int .u8) v0) (h1 : RdV W (.sl .bool) v1) : Calls Try.prog fathomlaw19_RankOrders.id #[v0, v1] W fun e W' => e = .returned (.bool true) ∧ Grow W W' := by
  obtain ⟨n, rfl, hn⟩ := h0
  obtain ⟨q, n2, d, ins, rfl, hm, hi1, hi2, hi⟩ := bools_of_rd h1
  exact RankOrders_calls (bdU8_of_wf hn) hi hm (Nat.le_trans hi1 hi2)
end Go.Proofs.Ytambabpklfeaoaa.W
