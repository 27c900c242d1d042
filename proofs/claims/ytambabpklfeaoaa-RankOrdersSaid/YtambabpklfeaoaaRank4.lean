/- Layer 19: the walk of an order. -/
import Derived.Test.YtambabpklfeaoaaRank3
namespace Go.Proofs.Ytambabpklfeaoaa.W
open Go Go.Fw Go.RowKit

theorem getD_nat {l : List Int} {i : Nat} : l.getD (i : Int).toNat 0 = l.getD i 0 := by rw [Int.toNat_natCast]

/-- Clauses are being gathered. -/
def MSt (w9 w : World) (mp : Option Addr) (mn mc : Nat) (L : List (List Int)) : Prop := mn = L.length ∧ ∃ ms, Own2 (Value.int .i64) ty_sl_int ty_int w mp mc ms L ∧ (∀ k, foot2 mp ms k → w9.heap.size ≤ k) ∧ Grow w9 w

theorem MSt.drew {w9 w : World} {mp : Option Addr} {mn mc : Nat} {L : List (List Int)} (h : MSt w9 w mp mn mc L) : MSt w9 w.drew mp mn mc L := by
  obtain ⟨h1, ms, h2, h3, h4⟩ := h
  exact ⟨h1, ms, h2.grow (Mod.refl w).drew, h3, h4.drew⟩

/-- A clause of three literals more. -/
theorem MSt.app {w9 w : World} {mp : Option Addr} {mn mc : Nat} {L : List (List Int)} (h : MSt w9 w mp mn mc L) (hb : mn ≤ 1000000) {K : World → Option Addr → Nat → Nat → Prop} (a c d : Int)
    (hk : ∀ w' mp' mn' mc', MSt w9 w' mp' mn' mc' (L ++ [[a, c, d]]) → mn' = mn + 1 → K w' mp' mn' mc') :
    ∀ (n72 : Nat) (w73 : World), New (.cells #[.int .i64 a, .int .i64 c, .int .i64 d] ty_int) w n72 w73 → ∀ (n74 : Nat) (w75 : World), New (.cells #[.slice (some (Addr.mk n72 0 none)) 3 3] ty_sl_int) w73 n74 w75 → 
      ∃ w76 : World, ∃ r77_p : Option Addr, ∃ r77_n : Nat, ∃ r77_c : Nat, (Builtin.append_ #[ty_sl_sl_int, ty_sl_sl_int] ty_sl_sl_int #[.slice mp mn mc, .slice (some (Addr.mk n74 0 none)) 1 1]).run Try.prog w75 = .ok (.slice r77_p r77_n r77_c) w76 ∧ K w76 r77_p r77_n r77_c := by
  intro n72 w73 h72 n74 w75 h74
  obtain ⟨h1, ms, o, hf, G⟩ := h
  have olt := o.lt
  have s72 := h72.num
  have ol : OwI ty_int w73 (some ⟨n72, 0, none⟩) 3 [a, c, d] := New.ow (l := [a, c, d]) h72 rfl (by show 3 ≤ maxLen; decide)
  have o75 := (o.grow h72.mod).grow h74.mod
  have G75 := (G.trans h72.mod).trans h74.mod
  refine o75.app1 sl_sl_int (s := ⟨some ⟨n72, 0, none⟩, 3, 3⟩) h74.has h1 (ol.grow h74.mod) rfl (fun k hk e => ?_) (by omega) fun w76 p' c' o' m hp hsz => ?_
  · simp [blk] at hk
    have := olt k e; omega
  refine hk w76 p' _ c' ⟨by simp, _, o', ?_, G75.then m fun k hk e => by have := hf k (.inl e); omega⟩ (by omega)
  have z := G.size
  rintro k (e | ⟨s, hs', e⟩)
  · rcases hp with rfl | rfl
    · exact hf k (.inl e)
    · simp [blk] at e; have := G75.size; omega
  · rcases List.mem_append.1 hs' with hs' | hs'
    · exact hf k (.inr ⟨s, hs', e⟩)
    · simp at hs'; subst hs'
      simp [blk] at e; omega

theorem order_ok {w0 : World} {b : Nat} {x : AG} (hx : ARep w0 b x) (n : Nat) (hn : n ≤ 40) (hr : x.g.length + pst n n ≤ 1048576) : Calls Try.prog rank_Order.id #[ptr b, .int .i64 n] w0 fun e w' =>
    ∃ p c hs pm cm ms rows y, e = .returned (.tuple #[.slice p n c, .slice pm (mustO (ordM n x.g.length (pst n n)) n n).length cm]) ∧ OSt w0 b x n p c hs (pst n n) w' y rows ∧
      Own2 (Value.int .i64) ty_sl_int ty_int w' pm cm ms (mustO (ordM n x.g.length (pst n n)) n n) ∧ ∀ k, foot2 pm ms k → ¬ y.foot b k ∧ ¬ foot2 p hs k ∧ w0.heap.size ≤ k := by
  refine rank_Order.calls ?_
  unfold rank_Order.w
  have hp := pst_le n n (Nat.le_refl _)
  simp only [Nat.sub_self, Nat.zero_mul, Nat.add_zero] at hp
  have hnn : n * (n - 1) ≤ 40 * 39 := Nat.mul_le_mul hn (by omega)
  have er : IntKind.i64.wrap ((IntKind.i64.wrap ((n : Int) * IntKind.i64.wrap ((n : Int) - 1))).tdiv 2) = (pst n n : Int) := by
    rcases Nat.eq_zero_or_pos n with h0 | h0
    · subst h0; rfl
    · have e1 : IntKind.i64.wrap ((n : Int) - 1) = ((n - 1 : Nat) : Int) := by rw [wrap64_of (by omega) (by omega)]; omega
      rw [e1, ← Int.natCast_mul, wrap64_of (x := ((n * (n - 1) : Nat) : Int)) (by omega) (by omega), Int.tdiv_eq_ediv_of_nonneg (by omega), wrap64_of (by omega) (by omega)]
      omega
  rw [er]
  refine cnd_f (decide_eq_false (by omega)) (cnd_f (decide_eq_false (by omega)) ⟨by decide, (room_ok hx (by omega) _).mono ?_⟩)
  rintro e w1 ⟨rfl, g1⟩
  refine ⟨_, rfl, cnd_f (by simp; omega) ((square_ok n hn w1).mono ?_)⟩
  rintro e w3 ⟨p, c, hs, rfl, o3, hf, g3⟩
  have hhs : hs.length = n := by rw [o3.n]; simp
  have S0 : OSt w0 b x n p c hs 0 w3 x (List.replicate n (List.replicate n 0)) := by
    refine ⟨(hx.grow g1).grow g3, by simp, o3, ⟨by simp, fun i hi => ⟨by simp [List.getD, hi], fun j hj => ?_⟩⟩, fun k hk => ?_, fun k hk => .inl hk, (g1.trans g3).mono fun _ _ h => h.elim, rfl⟩
    · unfold ordM
      simp [List.getD, hi, hj]
    · have := hf k hk; have := g1.size
      exact ⟨fun e => by have := hx.lt k e; omega, by omega⟩
  clear hf o3 g3 g1 er
  refine ⟨_, _, _, rfl, ?_⟩
  refine ⟨fun i w' k => ∃ (t : Nat) (y : AG) (rows : List (List Int)), i = t ∧ t ≤ n ∧ k + t = n ∧ OSt w0 b x n p c hs (pst n t) w' y rows, ⟨n, 0, x, _, rfl, by omega, rfl, S0⟩, ?_⟩
  clear S0
  rintro i w9 k _ ⟨i, y, rows, rfl, hi, hk, S⟩
  refine cnd_i (fun q => ?_) (fun q => ?_) <;> simp only [decide_eq_true_eq, decide_eq_false_iff_not] at q
  · have ei : IntKind.i64.wrap ((i : Int) + 1) = ((i + 1 : Nat) : Int) := by rw [wrap64_of (by omega) (by omega)]; omega
    rw [ei]
    refine ⟨fun j w' m => ∃ (t : Nat) (y : AG) (rows : List (List Int)), j = t ∧ i < t ∧ t ≤ n ∧ m + t = n ∧ OSt w0 b x n p c hs (pidx n i t) w' y rows, ⟨n - (i + 1), i + 1, y, rows, rfl, by omega, by omega, by omega, by
      have : pidx n i (i + 1) = pst n i := by unfold pidx; omega
      rw [this]; exact S⟩, ?_⟩
    clear S
    rintro j w14 m _ ⟨j, y, rows, rfl, hij, hj, hm, S⟩
    refine cnd_i (fun q2 => ?_) (fun q2 => ?_) <;> simp only [decide_eq_true_eq, decide_eq_false_iff_not] at q2
    · have hjn : j < n := by omega
      have hin : i < n := by omega
      have hpl := pidx_lt hij hjn
      have hrows := S.m.1
      have yl : y.g.length = x.g.length + pidx n i j := by rw [S.g]; simp
      have S := S.grow (Mod.refl w14).drew
      have ej : IntKind.i64.wrap ((j : Int) + 1) = ((j + 1 : Nat) : Int) := by rw [wrap64_of (by omega) (by omega)]; omega
      rw [ej]
      have nxt : ∀ w' y rows, OSt w0 b x n p c hs (pidx n i j + 1) w' y rows → ∃ k12 : Nat, k12 < m ∧ ∃ (t : Nat) (y : AG) (rows : List (List Int)), ((j + 1 : Nat) : Int) = t ∧ i < t ∧ t ≤ n ∧ k12 + t = n ∧ OSt w0 b x n p c hs (pidx n i t) w' y rows := by
        intro w' y rows S'
        refine ⟨m - 1, by omega, j + 1, y, rows, rfl, by omega, by omega, by omega, ?_⟩
        have : pidx n i (j + 1) = pidx n i j + 1 := by unfold pidx; omega
        rw [this]; exact S'
      have li : ((hs.getD i Sl.nil).n = (rows.getD i []).length) := (S.o.r i (by omega)).1
      have lj : ((hs.getD j Sl.nil).n = (rows.getD j []).length) := (S.o.r j (by omega)).1
      have mi := (S.m.2 i hin).1
      have mj := (S.m.2 j hjn).1
      have hne : i ≠ j := by omega
      obtain ⟨r, hrr⟩ : ∃ r : Int, r = 2 * ((x.g.length + pidx n i j + 1 : Nat) : Int) := ⟨_, rfl⟩
      have rb : 0 ≤ r ∧ r < 4611686018427387904 ∧ flip r = r + 1 := by
        refine ⟨by omega, by omega, ?_⟩
        unfold flip; rw [if_pos (by omega)]
      -- behind the call and the first store
      have rest : ∀ (w17 w20 : World) (z : AG), ARep w17 b z → More w14.drew b y z (-1, -1) → Mod (y.foot b) w14.drew w17 → OwI ty_int w20 (hs.getD i Sl.nil).p (hs.getD i Sl.nil).c ((rows.getD i []).set j r) → Mod (fun k => blk (hs.getD i Sl.nil).p = some k) w17 w20 →
          ixK p n (j : Int) 1 fun a21 =>
            ∃ x22_p : Option Addr, ∃ x22_n : Nat, ∃ x22_c : Nat, w20.drew.cell? a21 = some (.slice x22_p x22_n x22_c) ∧ 
            ixK p n (i : Int) 1 fun a23 =>
            ∃ x24_p : Option Addr, ∃ x24_n : Nat, ∃ x24_c : Nat, w20.drew.cell? a23 = some (.slice x24_p x24_n x24_c) ∧ 
            ixK x24_p x24_n (j : Int) 1 fun a25 =>
            ∃ x26 : Int, w20.drew.cell? a25 = some (.int .i64 x26) ∧ 
            ixK x22_p x22_n (i : Int) 1 fun a27 =>
            ∃ w28 : World, StoreAt a27 0 [.int .i64 (IntKind.i64.wrap ((BitVec.ofInt (IntKind.bits .i64) x26 ^^^ BitVec.ofInt (IntKind.bits .i64) (1 : Int)).toNat))] w20.drew w28 ∧ 
            ∃ k12 : Nat, k12 < m ∧ ∃ (t : Nat) (y : AG) (rows : List (List Int)), ((j + 1 : Nat) : Int) = t ∧ i < t ∧ t ≤ n ∧ k12 + t = n ∧ OSt w0 b x n p c hs (pidx n i t) w28 y rows := by
        intro w17 w20 z hz mz m1 o1 m2
        have q1 := S.o.keep m1 fun k hk e => (S.d k hk).1 e
        have q2 := q1.set (i := i) (by omega) (by simp) o1 m2
        have q2' := q2.grow (Mod.refl w20).drew
        have v2 := q2'.v2
        refine v2.h.ix Sl.nil (by omega) (by omega) (by omega) fun a21 e21 => ⟨_, _, _, e21, ?_⟩
        refine v2.h.ix Sl.nil (by omega) (by omega) (by omega) fun a23 e23 => ⟨_, _, _, e23, ?_⟩
        rw [Int.toNat_natCast, Int.toNat_natCast]
        refine (o1.drew).ix 0 (by omega) (by rw [List.length_set]; omega) (by omega) fun a25 e25 => ⟨_, e25, ?_⟩
        have ev : ((rows.getD i []).set j r).getD (j : Int).toNat 0 = r := by rw [Int.toNat_natCast, getD_set (by omega), if_pos rfl]
        rw [ev, xor1 rb.1 rb.2.1, rb.2.2]
        have oj := (q2'.r j (by rw [List.length_set]; omega)).2
        have lj2 : (rows.set i ((rows.getD i []).set j r)).getD j [] = rows.getD j [] := by rw [getD_set (by omega), if_neg (by omega)]
        refine oj.st (r + 1) rfl rfl (by omega) (by rw [lj2]; exact lj) (by omega) fun w28 o2 m3 => ?_
        rw [Int.toNat_natCast] at o2
        have m3' : Mod (fun k => blk (hs.getD j Sl.nil).p = some k) w20 w28 := ((Mod.refl w20).drew).trans m3
        subst hrr
        obtain ⟨rows', S'⟩ := S.step hij hjn hz mz m1 hhs o1 m2 o2 m3'
        exact nxt w28 z rows' S'
      have v := S.o.v2
      refine v.h.ixb Sl.nil (by omega) (by omega) (by omega) fun a15 b15 e15 => ?_
      rw [Int.toNat_natCast] at e15
      have In := aigIn_ok S.a (by omega)
      refine ⟨⟨_, _, _, e15, In.mono ?_⟩, In.mono ?_⟩ <;> rintro e w17 ⟨rfl, z, hz, mz, m1⟩
      · refine ⟨_, rfl, ?_⟩
        rw [yl, ← hrr]
        have q1 := S.o.keep m1 fun k hk e => (S.d k hk).1 e
        refine (q1.r i (by omega)).2.st r rfl rfl (by omega) li (by omega) fun w20 o1 m2 => ?_
        rw [Int.toNat_natCast] at o1
        exact rest w17 w20 z hz mz m1 o1 m2
      · refine ⟨_, rfl, ?_⟩
        rw [yl, ← hrr]
        have q1 := S.o.keep m1 fun k hk e => (S.d k hk).1 e
        have hbl : ¬ y.foot b a15.block := (S.d _ (.inl b15)).1
        refine ⟨_, _, _, cell_keep m1 e15 hbl, ?_⟩
        refine (q1.r i (by omega)).2.st r rfl rfl (by omega) li (by omega) fun w20 o1 m2 => ?_
        rw [Int.toNat_natCast] at o1
        exact rest w17 w20 z hz mz m1 o1 m2
    · have : j = n := by omega
      subst this
      refine ⟨k - 1, by omega, i + 1, y, rows, ?_, by omega, by omega, ?_⟩
      · rfl
      · have : pidx j i j = pst j (i + 1) := by unfold pidx; simp only [pst]; omega
        rw [← this]; exact S
  · have hin : i = n := by omega
    rw [hin] at S
    clear q hi hk hin
    generalize hA : ordM n x.g.length (pst n n) = A
    have hM := S.m
    rw [hA] at hM
    have bd : ∀ i j, 0 ≤ A i j ∧ A i j < 4611686018427387904 := by
      intro i j
      rw [← hA]
      have := ordM_bd (n := n) (g0 := x.g.length) (t := pst n n) i j
      omega
    have read : ∀ (w' : World) (i j : Nat) (K : Int → Prop), Grow w9 w' → i < n → j < n → K (A i j) → ixK p n (i : Int) 1 fun a60 =>
        ∃ x61_p : Option Addr, ∃ x61_n : Nat, ∃ x61_c : Nat, w'.cell? a60 = some (.slice x61_p x61_n x61_c) ∧ 
        ixK x61_p x61_n (j : Int) 1 fun a62 => ∃ x63 : Int, w'.cell? a62 = some (.int .i64 x63) ∧ K x63 := by
      intro w' i j K G hi hj hk
      have v := S.o.v2.grow G
      refine v.ix (by omega) (by rw [hM.1]) (by omega) fun a s e _ hn _ hv => ⟨_, _, _, e, hv.ix 0 (by omega) hn (by rw [hn, Int.toNat_natCast, (hM.2 i hi).1]; omega) fun a e => ⟨_, e, ?_⟩⟩
      rw [Int.toNat_natCast, Int.toNat_natCast, (hM.2 i hi).2 j hj]
      exact hk
    have ew : ∀ t : Nat, t < n → IntKind.i64.wrap ((t : Int) + 1) = ((t + 1 : Nat) : Int) := fun t ht => by rw [wrap64_of (by omega) (by omega)]; omega
    refine ⟨fun mp mn mc v w' k => ∃ i : Nat, v = i ∧ i ≤ n ∧ k + i = n ∧ mn ≤ 1600 * i ∧ MSt w9 w' mp mn mc (mustO A n i), ⟨n, 0, rfl, by omega, rfl, by omega, rfl, [], ⟨Ow.nil _ _ _, rfl, fun j hj => by simp [mustO] at hj, fun j k hj => by simp [mustO] at hj, fun i j k hi => by simp [mustO] at hi⟩, fun k hk => by
      rcases hk with e | ⟨_, h, _⟩
      · simp [blk] at e
      · simp at h, Mod.refl w9⟩, ?_⟩
    rintro mp mn mc v w47 k _ ⟨i, rfl, hi, hk, hb, T⟩
    refine cnd_i (fun q => ?_) (fun q => ?_) <;> simp only [decide_eq_true_eq, decide_eq_false_iff_not] at q
    · have hi' : i < n := by omega
      rw [ew i hi']
      refine ⟨fun mp mn mc v w' m => ∃ j : Nat, v = j ∧ j ≤ n ∧ m + j = n ∧ mn ≤ 1600 * i + 40 * j ∧ MSt w9 w' mp mn mc (mustO A n i ++ mustI A n i j), ⟨n, 0, rfl, by omega, rfl, by omega, by simpa [mustI] using T⟩, ?_⟩
      clear T hb
      rintro mp mn mc v w53 m _ ⟨j, rfl, hj, hm, hb, T⟩
      refine cnd_i (fun q2 => ?_) (fun q2 => ?_) <;> simp only [decide_eq_true_eq, decide_eq_false_iff_not] at q2
      · have hj' : j < n := by omega
        rw [ew j hj']
        refine ⟨fun mp mn mc v w' o => ∃ l : Nat, v = l ∧ l ≤ n ∧ o + l = n ∧ mn ≤ 1600 * i + 40 * j + l ∧ MSt w9 w' mp mn mc (mustO A n i ++ mustI A n i j ++ mustJ A i j l), ⟨n, 0, rfl, by omega, rfl, by omega, by simpa [mustJ] using T⟩, ?_⟩
        clear T hb
        rintro mp mn mc v w59 o _ ⟨l, rfl, hl, ho, hb, T⟩
        refine cnd_i (fun q3 => ?_) (fun q3 => ?_) <;> simp only [decide_eq_true_eq, decide_eq_false_iff_not] at q3
        · have hl' : l < n := by omega
          rw [ew l hl']
          have skip : ∀ w', MSt w9 w' mp mn mc (mustO A n i ++ mustI A n i j ++ mustJ A i j l) → ¬ (i ≠ j ∧ j ≠ l ∧ i ≠ l) → ∃ k56 : Nat, k56 < o ∧ ∃ l' : Nat, ((l + 1 : Nat) : Int) = l' ∧ l' ≤ n ∧ k56 + l' = n ∧ mn ≤ 1600 * i + 40 * j + l' ∧ MSt w9 w' mp mn mc (mustO A n i ++ mustI A n i j ++ mustJ A i j l') := by
            intro w' T h
            refine ⟨o - 1, by omega, l + 1, rfl, by omega, by omega, by omega, ?_⟩
            rw [mustJ_succ, mustK, if_neg h, List.append_nil]
            exact T
          refine cnd_i (fun c1 => cnd_i (fun c2 => cnd_i (fun c3 => ?_) (fun c3 => skip _ T (by simp at c3; omega))) (fun c2 => skip _ T (by simp at c2; omega))) (fun c1 => skip _ T (by simp at c1; omega))
          have hd : i ≠ j ∧ j ≠ l ∧ i ≠ l := by simp at c1 c2 c3; omega
          have T := T.drew
          obtain ⟨_, _, _, _, Gd⟩ := id T
          refine read _ i j _ Gd hi' hj' ?_
          refine read _ j l _ Gd hj' hl' ?_
          refine read _ i l _ Gd hi' hl' ?_
          rw [xor1 (bd i j).1 (bd i j).2, xor1 (bd j l).1 (bd j l).2]
          refine T.app (by omega) _ _ _ fun w' mp' mn' mc' T' hmn => ⟨o - 1, by omega, l + 1, rfl, by omega, by omega, by omega, ?_⟩
          rw [mustJ_succ, mustK, if_pos hd, ← List.append_assoc]
          exact T'
        · have : l = n := by omega
          subst this
          refine ⟨m - 1, by omega, j + 1, rfl, by omega, by omega, by omega, ?_⟩
          rw [mustI_succ, ← List.append_assoc]
          exact T
      · have : j = n := by omega
        subst this
        refine ⟨k - 1, by omega, i + 1, rfl, by omega, by omega, by omega, ?_⟩
        rw [mustO_succ]
        exact T
    · have : i = n := by omega
      subst this
      obtain ⟨h1, ms, o, hf, G⟩ := T
      have olt := S.o.lt
      have alt := S.a.lt
      have := S.M.size
      rw [h1]
      exact ⟨p, c, hs, mp, mc, ms, rows, y, rfl, S.grow G, o, fun k hk => ⟨fun e => by have := hf k hk; have := alt k e; omega, fun e => by have := hf k hk; have := olt k e; omega, by have := hf k hk; omega⟩⟩
end Go.Proofs.Ytambabpklfeaoaa.W
