/- Layer 12: what is learned, by the document. -/
import Derived.Test.YtlpmapeojecenaaLearn6
namespace Go.Proofs.Ytlpmapeojecenaa.W
open Go Go.Fw Go.RowKit Go.SoP Go.LiP Go.LeP
variable {W0 w w' : World} {p q : Option Addr} {n c m d ns b1 b2 nb : Nat} {tr : List As} {l : List Int} {s : Int → Bool}

theorem nth_mem {t : Nat} (h : t < tr.length) : tr[t]? = some (nth tr t) := by simp [nth, List.getD, h]
theorem topT_succ {t : Nat} (h : t < tr.length) : topT (tr.take (t + 1)) = if (nth tr t).lev > topT (tr.take t) then (nth tr t).lev else topT (tr.take t) := by
  unfold topT
  rw [List.take_add_one, nth_mem h, List.foldl_append]; rfl
theorem foldl_le (B : Int) : ∀ (tr : List As) (m : Int), m ≤ B → (∀ a ∈ tr, a.lev ≤ B) → tr.foldl (fun m a => if a.lev > m then a.lev else m) m ≤ B
  | [], m, h, _ => h
  | a :: t, m, h, ha => by
    rw [List.foldl_cons]
    refine foldl_le B t _ ?_ fun x hx => ha x (List.mem_cons_of_mem _ hx)
    have := ha a (by simp)
    split <;> omega
theorem topT_bd (ok : TrOk tr) : topT tr ≤ tr.length := by
  refine foldl_le _ tr 0 (by omega) fun a ha => ?_
  obtain ⟨i, hi, e⟩ := List.mem_iff_getElem.1 ha
  have := ok.le hi
  have e2 : nth tr i = a := by simp [nth, List.getD, hi, e]
  rw [e2] at this
  omega
theorem mxL_succ {k : List Int} {t : Nat} (h : t < k.length) : mxL tr (k.take (t + 1)) = if lv tr (k.getD t 0) > mxL tr (k.take t) then lv tr (k.getD t 0) else mxL tr (k.take t) := by
  unfold mxL
  have : k[t]? = some (k.getD t 0) := by simp [List.getD, h]
  rw [List.take_add_one, this, List.foldl_append]; rfl
theorem strictO_nodup {k : List Int} (h : StrictO tr k) : k.Nodup := h.imp fun {a b} hab e => by subst e; exact cmpO_irr tr a hab
theorem filter_succ {f : Int → Bool} {k : List Int} {t : Nat} (h : t < k.length) : (k.take (t + 1)).filter f = (k.take t).filter f ++ (if f (k.getD t 0) then [k.getD t 0] else []) := by
  have : k[t]? = some (k.getD t 0) := by simp [List.getD, h]
  rw [List.take_add_one, this, List.filter_append]
  generalize k.getD t 0 = x
  cases hf : f x <;> simp [hf]
theorem countP_succ {f : Int → Bool} {k : List Int} {t : Nat} (h : t < k.length) : (k.take (t + 1)).countP f = (k.take t).countP f + (if f (k.getD t 0) then 1 else 0) := by
  have : k[t]? = some (k.getD t 0) := by simp [List.getD, h]
  rw [List.take_add_one, this, List.countP_append]
  generalize k.getD t 0 = x
  cases hf : f x <;> simp [hf]

theorem refOrdered_ok (h : TV w p tr) (hn : n = tr.length) (ok : TrOk tr) (hl : tr.length ≤ 4096) (hc : Vw (Value.int .i64) w q l) (hk : m = l.length) (hx : m ≤ 100000) (hb : ∀ x ∈ l, Br1 tr x) :
    Calls Try.prog fathomref12_Ordered.id #[.slice p n c, .slice q m d] w fun e w' => ∃ (q2 : Option Addr) (d2 : Nat), e = .returned (.slice q2 (ordL tr l).length d2) ∧ OwI ty_int w' q2 d2 (ordL tr l) ∧ Grow w w' := by
  refine fathomref12_Ordered.calls ?_
  intro n1 w2 h2
  have e1 := h2.num
  have O2 : OwI ty_int w2 (some ⟨n1, 0, none⟩) 0 [] := New.empty h2
  refine ⟨fun L I u z => ∃ t : Nat, I = t ∧ t ≤ tr.length ∧ z = tr.length - t ∧ L = topT (tr.take t) ∧ Grow w2 u, ⟨_, 0, rfl, Nat.zero_le _, rfl, rfl, Mod.refl w2⟩, ?_⟩
  rintro L I w8 z _ ⟨t, rfl, ht, rfl, rfl, G8⟩
  have G := h2.mod.trans G8
  refine cnd_i (fun r => ?_) (fun r => ?_)
  · have r : t < tr.length := by simp at r; omega
    refine (h.grow G).ix hn t rfl r fun a x C e1 e2 v => ⟨_, C.2.1, cnd_i (fun r2 => (h.grow G).ix hn t rfl r fun a x C e1 e2 v => ⟨_, C.2.1, _, ?_, t + 1, wN (by omega) (by omega), by omega, rfl, ?_, G8⟩) (fun r2 => ⟨_, ?_, t + 1, wN (by omega) (by omega), by omega, rfl, ?_, G8⟩)⟩
    · omega
    · rw [topT_succ r, if_pos (by simpa using r2)]
    · omega
    · rw [topT_succ r, if_neg (by simpa using r2)]
  have r : t = tr.length := by simp at r; omega
  subst r
  rw [List.take_length]
  have s8 := G8.size
  have s2 := h2.size
  refine (refOrder_fr (hc.grow G) hk hx fun x hx => (hb x hx).isl).mono ?_
  rintro e w13 ⟨q14, d14, rfl, O14, g13, fr14⟩
  have lt14 := O14.lt
  have htb := topT_bd ok
  have htn := topT_nn tr
  generalize hM : (topT tr).toNat = M
  have hM' : topT tr = (M : Int) := by omega
  have hlen : ∀ j, (ordF tr l M j).length ≤ tr.length := fun j => br_len (strictO_nodup (ordF_strict hb j)) fun x hx => hb x (ordF_mem.1 hx).1
  have fin : ordL tr l = ordF tr l M (M + 1) := by unfold ordL; rw [hM]
  refine ⟨_, _, _, rfl, ?_⟩
  refine ⟨fun P N C L u z => ∃ j : Nat, L = (M : Int) - j ∧ j ≤ M + 1 ∧ z = M + 1 - j ∧ N = (ordF tr l M j).length ∧ OwI ty_int u P C (ordF tr l M j) ∧ (∀ b, blk P = some b → b = n1 ∨ w13.heap.size ≤ b) ∧ Vw (Value.int .i64) u q14 (norm l) ∧ Grow w u ∧ w13.heap.size ≤ u.heap.size,
    ⟨_, 0, by rw [hM']; omega, by omega, rfl, rfl, (O2.grow G8).grow g13, fun b hb => .inl (blk_some hb), O14.vw, G.trans g13, Nat.le_refl _⟩, ?_⟩
  rintro P N C L w20 z _ ⟨j, rfl, hj, rfl, rfl, O, fr, V, G20, z20⟩
  refine cnd_i (fun r => ?_) (fun r => ?_)
  · have r : j ≤ M := by simp at r; omega
    have hlj := hlen (j + 1)
    refine ⟨fun P N C I u z => ∃ t : Nat, I = t ∧ t ≤ (norm l).length ∧ z = (norm l).length - t ∧ N = (ordF tr l M j ++ ((norm l).take t).filter fun x => lv tr x == (M : Int) - j).length ∧ OwI ty_int u P C (ordF tr l M j ++ ((norm l).take t).filter fun x => lv tr x == (M : Int) - j) ∧ (∀ b, blk P = some b → b = n1 ∨ w13.heap.size ≤ b) ∧ Vw (Value.int .i64) u q14 (norm l) ∧ Grow w u ∧ w13.heap.size ≤ u.heap.size,
      ⟨_, 0, rfl, Nat.zero_le _, rfl, by simp, by simpa using O, fr, V, G20, z20⟩, ?_⟩
    clear O fr V
    rintro P N C I w26 z _ ⟨t, rfl, ht, rfl, rfl, O, fr, V, G26, z26⟩
    refine cnd_i (fun r2 => ?_) (fun r2 => ?_)
    · have r2 : t < (norm l).length := by simp at r2; omega
      have hnl := (norm_isN l).mem
      have hnlen : (norm l).length ≤ tr.length := br_len (nodup_of_strict (norm_isN l).st) fun x hx => hb x ((hnl x).1 hx)
      refine V.ix 0 (by omega) rfl (by omega) fun a e => ⟨_, e, ?_⟩
      rw [Int.toNat_natCast]
      have hB := hb _ ((hnl _).1 (mem_getD r2))
      refine (Level12_ok (h.grow G26) hn (by unfold maxLen; omega) ok hB).mono ?_
      rintro e w29 ⟨rfl, g29⟩
      have G29 := G26.trans g29
      have s29 := g29.size
      refine ⟨_, rfl, cnd_i (fun r3 => ?_) (fun r3 => ⟨_, ?_, t + 1, wN (by omega) (by omega), by omega, rfl, ?_, ?_, fr, V.grow g29, G29, by omega⟩)⟩
      · refine (V.grow g29).ix 0 (by omega) rfl (by omega) fun a e => ⟨_, e, ?_⟩
        rw [Int.toNat_natCast]
        intro n33 w34 h34
        have O34 := (O.grow g29).grow h34.mod
        have ef := filter_succ (f := fun x => lv tr x == (M : Int) - j) r2
        rw [if_pos r3] at ef
        have eo : ordF tr l M j ++ ((norm l).take (t + 1)).filter (fun x => lv tr x == (M : Int) - j) = (ordF tr l M j ++ ((norm l).take t).filter fun x => lv tr x == (M : Int) - j) ++ [(norm l).getD t 0] := by rw [ef, List.append_assoc]
        have hsub : (ordF tr l M j ++ ((norm l).take t).filter fun x => lv tr x == (M : Int) - j).length ≤ (ordF tr l M (j + 1)).length := by
          rw [show ordF tr l M (j + 1) = ordF tr l M j ++ (norm l).filter fun x => lv tr x == (M : Int) - j from rfl, List.length_append, List.length_append]
          exact Nat.add_le_add_left ((List.take_sublist t _).filter _).length_le _
        have e33 := h34.num
        have s34 := h34.size
        refine O34.app1 sl_int _ h34.has rfl rfl oneInt (by omega) fun w35 p' c' o' m' hp' hs' => ?_
        refine ⟨_, ?_, t + 1, wN (by omega) (by omega), by omega, rfl, ?_, ?_, fun b hb => ?_, ((V.grow g29).grow h34.mod).keep m' fun b hb e => ?_, (G29.trans h34.mod).then m' fun x hx e => ?_, by omega⟩
        · omega
        · rw [eo, List.length_append (bs := [_])]; rfl
        · rw [eo]; exact o'
        · rcases hp' with rfl | rfl
          · exact fr b hb
          · have := blk_some hb; omega
        · have h1 := fr14 b hb
          have h2 := lt14 b hb
          rcases fr b e with e | e <;> omega
        · have := G.size
          have := g13.size
          rcases fr x e with e | e <;> omega
      · omega
      · rw [filter_succ (f := fun x => lv tr x == (M : Int) - j) r2, if_neg (by simpa using r3), List.append_nil]
      · rw [filter_succ (f := fun x => lv tr x == (M : Int) - j) r2, if_neg (by simpa using r3), List.append_nil]; exact O.grow g29
    · have r2 : t = (norm l).length := by simp at r2; omega
      subst r2
      rw [List.take_length] at O ⊢
      refine ⟨_, ?_, j + 1, ?_, by omega, rfl, rfl, O, fr, V, G26, z26⟩
      · omega
      · rw [wrap64_of (by omega) (by omega)]; omega
  · have r : j = M + 1 := by simp at r; omega
    subst r
    rw [fin]
    exact ⟨_, _, rfl, O, G20⟩

/-- Where the document's learning stands. -/
def LInv (w : World) (tr : List As) (l0 : List Int) (L : Int) (P : Option Addr) (N : Nat) (_ : Nat) (i : Int) (u : World) (z : Nat) : Prop :=
  ∃ k : List Int, i = (z : Int) - 1 ∧ z ≤ tr.length ∧ N = k.length ∧ Vw (Value.int .i64) u P k ∧ In tr L k z ∧ lrn tr L tr.length l0 = lrn tr L z k ∧ Grow w u
theorem _root_.Go.LeP.In.pass {L : Int} {k : List Int} {z : Nat} (h : In tr L k (z + 1)) (e : ¬ ((nth tr z).lev = L ∧ -(nth tr z).lit ∈ k)) : In tr L k z :=
  ⟨h.br, h.le, fun x hx hl => by
    have := h.pl x hx hl
    rcases Nat.lt_or_ge (atN tr (am x)) z with e2 | e2
    · exact e2
    · have ek : atN tr (am x) = z := by omega
      refine absurd ⟨?_, ?_⟩ e
      · rw [← ek]; exact hl
      · rw [← ek, (h.br x hx).eq, Int.neg_neg]; exact hx, h.top, h.nn, h.nd⟩

theorem refLearn_ok (h : TV w p tr) (hn : n = tr.length) (ok : TrOk tr) (hl : tr.length ≤ 4096) (hc : Vw (Value.int .i64) w q l) (hk : m = l.length) (hx : m ≤ 100000) (hb : ∀ x ∈ l, Br1 tr x) :
    Calls Try.prog fathomref12_Learn.id #[.slice p n c, .slice q m d] w fun e w' => ∃ (q2 : Option Addr) (d2 : Nat), e = .returned (.slice q2 (lnd tr l).length d2) ∧ OwI ty_int w' q2 d2 (lnd tr l) ∧ Grow w w' := by
  refine fathomref12_Learn.calls ?_
  refine (refOrder_ok hc hk hx fun x hx => (hb x hx).isl).mono ?_
  rintro e w1 ⟨q2, d2, rfl, O1, g1⟩
  have hnl := (norm_isN l).mem
  have hbn : ∀ x ∈ norm l, Br1 tr x := fun x hx => hb x ((hnl x).1 hx)
  have hnlen : (norm l).length ≤ tr.length := br_len (nodup_of_strict (norm_isN l).st) hbn
  refine ⟨_, _, _, rfl, ?_⟩
  refine ⟨fun L I u z => ∃ t : Nat, I = t ∧ t ≤ (norm l).length ∧ z = (norm l).length - t ∧ L = mxL tr ((norm l).take t) ∧ Grow w1 u, ⟨_, 0, rfl, Nat.zero_le _, rfl, rfl, Mod.refl w1⟩, ?_⟩
  rintro L I w8 z _ ⟨t, rfl, ht, rfl, rfl, G8⟩
  have G := g1.trans G8
  refine cnd_i (fun r => ?_) (fun r => ?_)
  · have r : t < (norm l).length := by simp at r; omega
    refine (O1.vw.grow G8).ix 0 (by omega) rfl (by omega) fun a e => ⟨_, e, ?_⟩
    rw [Int.toNat_natCast]
    have hB := hbn _ (mem_getD r)
    refine (Level12_ok (h.grow G) hn (by unfold maxLen; omega) ok hB).mono ?_
    rintro e w11 ⟨rfl, g11⟩
    have G11 := G8.trans g11
    refine ⟨_, rfl, cnd_i (fun r2 => ?_) (fun r2 => ⟨_, ?_, t + 1, wN (by omega) (by omega), by omega, rfl, ?_, G11⟩)⟩
    · refine (O1.vw.grow G11).ix 0 (by omega) rfl (by omega) fun a e => ⟨_, e, ?_⟩
      rw [Int.toNat_natCast]
      refine (Level12_ok (h.grow (g1.trans G11)) hn (by unfold maxLen; omega) ok hB).mono ?_
      rintro e w15 ⟨rfl, g15⟩
      refine ⟨_, rfl, _, ?_, t + 1, wN (by omega) (by omega), by omega, rfl, ?_, G11.trans g15⟩
      · omega
      · rw [mxL_succ r, if_pos (by simpa using r2)]
    · omega
    · rw [mxL_succ r, if_neg (by simpa using r2)]
  have r : t = (norm l).length := by simp at r; omega
  subst r
  rw [List.take_length]
  generalize hL : mxL tr (norm l) = L
  have hin : In tr L (norm l) tr.length := hL ▸ in0 ok hb
  have hL0 : 0 ≤ L := hL ▸ mxL_nn tr (norm l)
  have hlnd : lnd tr l = ordL tr (lrn tr L tr.length (norm l)) := by unfold lnd; rw [hL]
  refine ⟨LInv w tr (norm l) L, ⟨tr.length, norm l, by rw [wrap64_of (by omega) (by omega), hn], Nat.le_refl _, rfl, O1.vw.grow G8, hin, rfl, G⟩, ?_⟩
  rintro P N C i w22 z _ ⟨k, rfl, hz, rfl, V, hi, hlr, G22⟩
  have hklen : k.length ≤ tr.length := br_len (nodup_of_strict hi.nd) hi.br
  -- the end
  have stop : ∀ {u : World}, Grow w22 u → lrn tr L z k = k → Calls Try.prog fathomref12_Ordered.id #[.slice p n c, .slice P k.length C] u fun e w33 => ∃ r34_p : Option Addr, ∃ r34_n : Nat, ∃ r34_c : Nat, e = .returned (.slice r34_p r34_n r34_c) ∧
      ∃ (q2 : Option Addr) (d2 : Nat), Ending.returned (.slice r34_p r34_n r34_c) = .returned (.slice q2 (lnd tr l).length d2) ∧ OwI ty_int w33 q2 d2 (lnd tr l) ∧ Grow w w33 := by
    intro u gu hst
    refine (refOrdered_ok (h.grow (G22.trans gu)) hn ok hl (V.grow gu) rfl (by omega) hi.br).mono ?_
    rintro e w33 ⟨q3, d3, rfl, O3, g33⟩
    rw [hlnd, hlr, hst]
    exact ⟨_, _, _, rfl, _, _, rfl, O3, (G22.trans gu).trans g33⟩
  refine cnd_i (fun r => ?_) (fun r => ?_)
  · obtain ⟨y, rfl⟩ : ∃ y, z = y + 1 := ⟨z - 1, by simp at r; omega⟩
    clear r
    have hy : y < tr.length := by omega
    refine ⟨fun N K u z => ∃ t : Nat, K = t ∧ t ≤ k.length ∧ z = k.length - t ∧ N = (cntL tr (k.take t) L : Nat) ∧ Grow w22 u, ⟨_, 0, rfl, Nat.zero_le _, rfl, rfl, Mod.refl w22⟩, ?_⟩
    rintro N K w28 z _ ⟨t, rfl, ht, rfl, rfl, G28⟩
    have G2 := G22.trans G28
    have hcl : cntL tr (k.take t) L ≤ k.length := by
      have h1 : cntL tr (k.take t) L ≤ (k.take t).length := List.countP_le_length
      have h2 := List.length_take_le t k
      have h3 := List.length_take_le' t k
      omega
    refine cnd_i (fun r => ?_) (fun r => ?_)
    · have r : t < k.length := by simp at r; omega
      refine (V.grow G28).ix 0 (by omega) rfl (by omega) fun a e => ⟨_, e, ?_⟩
      rw [Int.toNat_natCast]
      refine (Level12_ok (h.grow G2) hn (by unfold maxLen; omega) ok (hi.br _ (mem_getD r))).mono ?_
      rintro e w31 ⟨rfl, g31⟩
      have ec : cntL tr (k.take (t + 1)) L = _ := countP_succ (f := fun x => lv tr x == L) r
      refine ⟨_, rfl, cnd_i (fun r2 => ⟨_, ?_, t + 1, wN (by omega) (by omega), by omega, rfl, ?_, G28.trans g31⟩) (fun r2 => ⟨_, ?_, t + 1, wN (by omega) (by omega), by omega, rfl, ?_, G28.trans g31⟩)⟩
      · omega
      · rw [ec, if_pos r2, wrap64_of (by omega) (by omega)]; rfl
      · omega
      · rw [ec, if_neg (by simpa using r2)]; rfl
    have r : t = k.length := by simp at r; omega
    subst r
    rw [List.take_length] at hcl ⊢
    refine cnd_i (fun r => stop G28 (lrn_stop (.inl (by simp at r; omega)))) (fun r => cnd_i (fun r2 => cnd_i (fun r3 => stop G28 (lrn_stop (.inr (by simp at r2 r3; omega)))) (fun r3 => ?a1)) (fun r2 => ?a2))
    case' a1 => have hneg : ¬ (cntL tr k L = 0 ∨ cntL tr k L = 1 ∧ 0 < L) := by simp at r r2 r3; omega
    case' a2 => have hneg : ¬ (cntL tr k L = 0 ∨ cntL tr k L = 1 ∧ 0 < L) := by simp at r r2; omega
    case a1 | a2 =>
      have hil := ok.isl y hy
      have hbl := litB_bd hil
      have ei : IntKind.i64.wrap (((y + 1 : Nat) : Int) - 1 - 1) = (y : Int) - 1 := by rw [wrap64_of (by omega) (by omega)]; omega
      refine (h.grow G2).ix hn y (by omega) hy fun a x C3 e1 e2 v => ⟨_, _, _, _, _, C3, fun n41 w42 h42 => asCopy h42 fun w43 H G43 => ⟨_, cell_add H rfl, ?_⟩⟩
      have pass : ∀ {u : World}, Grow w43 u → ¬ ((nth tr y).lev = L ∧ -(nth tr y).lit ∈ k) → ∃ k19, k19 < y + 1 ∧ LInv w tr (norm l) L P k.length C (IntKind.i64.wrap (((y + 1 : Nat) : Int) - 1 - 1)) u k19 := by
        intro u g hne
        exact ⟨y, by omega, k, ei, by omega, rfl, ((V.grow G28).grow G43).grow g, hi.pass hne, by rw [hlr, lrn, if_neg hneg, if_neg hne], (G2.trans G43).trans g⟩
      refine cnd_i (fun r4 => ?_) (fun r4 => pass (Mod.refl _) fun e => by simp at r4; exact r4 e.1)
      have r4 : (nth tr y).lev = L := by simpa using r4
      have ew : IntKind.i64.wrap (0 - (nth tr y).lit) = -(nth tr y).lit := by rw [wrap64_of (by omega) (by omega), Int.zero_sub]
      refine ⟨_, cell_add H rfl, ?_⟩
      rw [ew]
      refine (has_ok ((V.grow G28).grow G43) rfl (by unfold maxLen; omega) _).mono ?_
      rintro e w46 ⟨rfl, g46⟩
      refine ⟨_, rfl, cnd_i (fun r5 => ?_) (fun r5 => pass g46 fun e => by simp at r5; exact r5 e.2)⟩
      have r5 : -(nth tr y).lit ∈ k := by simpa using r5
      obtain ⟨I2, hlr2, hrs, _⟩ := hi.step ok hneg hy r4 r5 fun x hx hlx => by have := hi.pl x hx hlx; omega
      obtain ⟨rl, rm, rb⟩ := ok.reason hy hrs
      have hsl : ∀ z ∈ Go.Proofs.Ytlpmapeojecenaa.W.wo k (-(nth tr y).lit) ++ Go.Proofs.Ytlpmapeojecenaa.W.wo (nth tr y).rs (nth tr y).lit, litB z = true := by
        intro z hz
        rcases List.mem_append.1 hz with hz | hz
        · exact (hi.br z (mem_wo.1 hz).1).isl
        · exact (rb z (mem_wo.1 hz).1 (mem_wo.1 hz).2).1.isl
      have gD : Grow w46 w46.drew := (Mod.refl w46).drew
      have G46 := ((G2.trans G43).trans g46).trans gD
      have HD := (H.grow g46).drew
      have VD := (((V.grow G28).grow G43).grow g46).grow gD
      have vD := ((v.grow G43).grow g46).grow gD
      have l1 := wo_len (l := k) (x := -(nth tr y).lit)
      have l2 := wo_len (l := (nth tr y).rs) (x := (nth tr y).lit)
      have c0 : ∀ {u : World}, Grow w46.drew u → u.cell? ((Addr.mk n41 0 none).add 0) = some (.int .i64 (nth tr y).lit) := fun g => cell_add (HD.grow g) rfl
      have c2 : ∀ {u : World}, Grow w46.drew u → u.cell? ((Addr.mk n41 0 none).add 2) = some (.slice x.p x.n x.c) := fun g => cell_add (HD.grow g) rfl
      have g0 : Grow w46.drew w46.drew := Mod.refl _
      have A1 : ∀ {Q : Ending → World → Prop}, (∀ u q1 d1, Grow w46.drew u → OwI ty_int u q1 d1 (Go.Proofs.Ytlpmapeojecenaa.W.wo k (-(nth tr y).lit)) → (∀ b, blk q1 = some b → w46.drew.heap.size ≤ b) → Q (.returned (.slice q1 (Go.Proofs.Ytlpmapeojecenaa.W.wo k (-(nth tr y).lit)).length d1)) u) → Calls Try.prog fathomref01_Without.id #[.slice P k.length C, .int .i64 (-(nth tr y).lit)] w46.drew Q := fun hQ => by
        refine (without_ok VD rfl (by omega) _).mono ?_
        rintro e u ⟨q1, d1, rfl, O, g, fr⟩
        exact hQ u q1 d1 g O fr
      have A2 : ∀ {u q1 d1} {Q : Ending → World → Prop}, Grow w46.drew u → OwI ty_int u q1 d1 (Go.Proofs.Ytlpmapeojecenaa.W.wo k (-(nth tr y).lit)) → (∀ b, blk q1 = some b → w46.drew.heap.size ≤ b) →
          (∀ u q2 d2, Grow w46.drew u → OwI ty_int u q1 d1 (Go.Proofs.Ytlpmapeojecenaa.W.wo k (-(nth tr y).lit)) → OwI ty_int u q2 d2 (Go.Proofs.Ytlpmapeojecenaa.W.wo (nth tr y).rs (nth tr y).lit) → Q (.returned (.slice q2 (Go.Proofs.Ytlpmapeojecenaa.W.wo (nth tr y).rs (nth tr y).lit).length d2)) u) →
          Calls Try.prog fathomref01_Without.id #[.slice x.p x.n x.c, .int .i64 (nth tr y).lit] u Q := fun g O fr hQ => by
        refine (without_ok (vD.grow g) e1 (by omega) _).mono ?_
        rintro e u' ⟨q2, d2, rfl, O2, g2, fr2⟩
        exact hQ u' q2 d2 (g.trans g2) (O.grow g2) O2
      have A3 : ∀ {u q1 d1 q2 d2}, Grow w46.drew u → OwI ty_int u q1 d1 (Go.Proofs.Ytlpmapeojecenaa.W.wo k (-(nth tr y).lit)) → (∀ b, blk q1 = some b → w46.drew.heap.size ≤ b) → OwI ty_int u q2 d2 (Go.Proofs.Ytlpmapeojecenaa.W.wo (nth tr y).rs (nth tr y).lit) →
          ∃ w55 : World, ∃ r56_p : Option Addr, ∃ r56_n : Nat, ∃ r56_c : Nat, (Builtin.append_ #[ty_sl_int, ty_sl_int] ty_sl_int #[.slice q1 (Go.Proofs.Ytlpmapeojecenaa.W.wo k (-(nth tr y).lit)).length d1, .slice q2 (Go.Proofs.Ytlpmapeojecenaa.W.wo (nth tr y).rs (nth tr y).lit).length d2]).run Try.prog u = .ok (.slice r56_p r56_n r56_c) w55 ∧
            Calls Try.prog fathomref01_Order.id #[.slice r56_p r56_n r56_c] w55 fun e w57 => ∃ r58_p : Option Addr, ∃ r58_n : Nat, ∃ r58_c : Nat, e = .returned (.slice r58_p r58_n r58_c) ∧
            ∃ k19, k19 < y + 1 ∧ LInv w tr (norm l) L r58_p r58_n r58_c (IntKind.i64.wrap (((y + 1 : Nat) : Int) - 1 - 1)) w57 k19 := fun {u q1 d1 q2 d2} g O fr O2 => by
        refine app_fresh (W0 := w46.drew) O g fr O2.vw rfl rfl (by omega) fun w55 p5 c5 o5 g5 f5 => ?_
        refine (refOrder_ok o5.vw rfl (by rw [List.length_append]; omega) hsl).mono ?_
        rintro e w57 ⟨q6, d6, rfl, O6, g6⟩
        exact ⟨_, _, _, rfl, y, by omega, _, ei, by omega, rfl, O6.vw, I2, by rw [hlr, hlr2]; rfl, (G46.trans g5).trans g6⟩
      refine ⟨_, c0 g0, ?_⟩
      rw [ew]
      refine ⟨A1 fun u q1 d1 g O fr => ⟨_, _, _, rfl, _, _, _, c2 g, _, c0 g, A2 g O fr fun u q2 d2 g O O2 => ⟨_, _, _, rfl, A3 g O fr O2⟩⟩,
        ⟨_, _, _, c2 g0, A1 fun u q1 d1 g O fr => ⟨_, _, _, rfl, _, c0 g, A2 g O fr fun u q2 d2 g O O2 => ⟨_, _, _, rfl, A3 g O fr O2⟩⟩, ⟨_, c0 g0, A1 fun u q1 d1 g O fr => ⟨_, _, _, rfl, A2 g O fr fun u q2 d2 g O O2 => ⟨_, _, _, rfl, A3 g O fr O2⟩⟩⟩⟩,
        ⟨_, c0 g0, A1 fun u q1 d1 g O fr => ⟨_, _, _, rfl, _, _, _, c2 g, A2 g O fr fun u q2 d2 g O O2 => ⟨_, _, _, rfl, A3 g O fr O2⟩⟩, ⟨_, _, _, c2 g0, A1 fun u q1 d1 g O fr => ⟨_, _, _, rfl, A2 g O fr fun u q2 d2 g O O2 => ⟨_, _, _, rfl, A3 g O fr O2⟩⟩⟩⟩⟩
  · have r : z = 0 := by simp at r; omega
    subst r
    exact stop (Mod.refl _) rfl
end Go.Proofs.Ytlpmapeojecenaa.W
