/- Layers 15 and 16: what nodes are, and a word's number. -/
import Derived.Test.YtambabpklfeaoaaVec4
import Derived.Test.YtambabpklfeaoaaTs1
namespace Go.Proofs.Ytambabpklfeaoaa.W
open Go Go.Fw Go.RowKit Go.TsP Go.AgP
variable {w w' w2 : World} {p q : Option Addr} {n m c d : Nat}

theorem aigValue_ok {vv : List Bool} (h : Vw Value.bool w p vv) (hn : n = vv.length) (hm : n ≤ 4194304) {l : Int} (h0 : 0 ≤ l) (h1 : l ≤ 2 * vv.length + 1) :
    Calls Try.prog aig_Value.id #[.slice p n c, .int .i64 l] w fun e w' => e = .returned (.bool (evalL vv l)) ∧ Grow w w' := by
  refine aig_Value.calls ?_
  refine cnd_f (decide_eq_false (by omega)) ⟨by decide, ?_⟩
  rw [Int.tdiv_eq_ediv_of_nonneg h0, wrap64_of (x := l / 2) (by omega) (by omega)]
  refine cnd_f (decide_eq_false (by omega)) (cnd_i (fun r => ⟨?_, Mod.refl w⟩) (fun r => ⟨by decide, ?_⟩))
  · have r : l < 2 := by simpa using r
    unfold evalL; rw [if_pos r]
  · have r : ¬ l < 2 := by simpa using r
    rw [wrap64_of (by omega) (by omega)]
    refine h.ix false (by omega) hn (by omega) fun a e => ⟨_, e, by decide, ?_, Mod.refl w⟩
    unfold evalL; rw [if_neg r, tmod2 h0]

theorem aigEval_ok {g : List (Int × Int)} {ins : List Bool} (h : Vr 2 gateV w p g) (hn : n = g.length) (hmay : mayG g = true) (hi : Vw Value.bool w q ins) (hk : m = ins.length) :
    Calls Try.prog aig_Eval.id #[.slice p n c, .slice q m d] w fun e w' => ∃ (P : Option Addr) (D : Nat), e = .returned (.slice P g.length D) ∧ OwB ty_bool w' P D (vals g ins g.length) ∧ Grow w w' := by
  refine aig_Eval.calls ?_
  have hl := (mayG_iff.1 hmay).1
  refine (aigCheck_ok h hn (by unfold maxLen; omega)).mono ?_
  rintro e w1 ⟨rfl, g1⟩
  rw [hmay]
  refine ⟨_, rfl, cnd_f rfl ?_⟩
  refine ⟨fun P N D K I u z => ∃ t : Nat, I = t ∧ t ≤ g.length ∧ z = g.length - t ∧ t = N ∧ K = cntIn g t ∧ OwB ty_bool u P D (vals g ins t) ∧ (∀ j, blk P = some j → w.heap.size ≤ j) ∧ Grow w u, ⟨_, 0, rfl, Nat.zero_le _, rfl, rfl, rfl, Ow.nil _ _ _, fun j hj => by simp [blk] at hj, g1⟩, ?_⟩
  rintro P N D K I w9 z _ ⟨t, rfl, ht, rfl, rfl, rfl, O, fr, G⟩
  refine cnd_i (fun r => ?_) (fun r => ?_)
  · have r : t < g.length := by simp at r; omega
    refine (h.grow G).ix (0, 0) (by omega) hn (by omega) fun a C => ?_
    rw [Int.toNat_natCast] at C
    have okg := mayG_at hmay r
    have hnode : vals g ins (t + 1) = vals g ins t ++ [nodeV g ins (vals g ins t) t] := vals_succ g ins t
    have hcnt := cntIn_succ g t
    have hcl := cntIn_le g t
    have hN : nodeV g ins (vals g ins t) t = if 0 ≤ (g.getD t (0, 0)).1 then evalL (vals g ins t) (g.getD t (0, 0)).1 && evalL (vals g ins t) (g.getD t (0, 0)).2 else ins.getD (cntIn g t) false := rfl
    generalize hg : g.getD t (0, 0) = cd at *
    obtain ⟨A, B⟩ := cd
    refine ⟨_, _, C, fun n13 w14 h14 => store_i h14.has rfl rfl fun w15 H m15 => ?_⟩
    have e14 := h14.num
    have G15 : Grow w9 w15.drew := (h14.mod.then m15 fun j hj (e : j = n13) => by omega).drew
    have H' : Has w15.drew n13 #[.int .i64 A, .int .i64 B] := H.drew
    clear C H m15 h14
    generalize w15.drew = W at H' G15
    have vl : (vals g ins t).length = t := vals_len g ins t
    -- one more value
    have app : ∀ {u : World} {v : Bool}, Grow W u → v = nodeV g ins (vals g ins t) t → ∀ {K' : Int}, K' = (cntIn g (t + 1) : Int) → ∀ (n25 : Nat) (w26 : World), New (.cells #[.bool v] ty_bool) u n25 w26 → 
        ∃ w27 : World, ∃ r28_p : Option Addr, ∃ r28_n : Nat, ∃ r28_c : Nat, (Builtin.append_ #[ty_sl_bool, ty_sl_bool] ty_sl_bool #[.slice P t D, .slice (some (Addr.mk n25 0 none)) 1 1]).run Try.prog w26 = .ok (.slice r28_p r28_n r28_c) w27 ∧ 
        ∃ k5, k5 < g.length - t ∧ ∃ t2 : Nat, IntKind.i64.wrap ((t : Int) + 1) = t2 ∧ t2 ≤ g.length ∧ k5 = g.length - t2 ∧ t2 = r28_n ∧ K' = cntIn g t2 ∧ OwB ty_bool w27 r28_p r28_c (vals g ins t2) ∧ (∀ j, blk r28_p = some j → w.heap.size ≤ j) ∧ Grow w w27 := by
      rintro u v gu rfl K' rfl n25 w26 h26
      have Gu := ((G.trans G15).trans gu).trans h26.mod
      have z26 := Gu.size
      refine ((O.grow (G15.trans gu)).grow h26.mod).app1 sl_bool _ h26.has rfl vl.symm oneBool (by omega) fun w27 p' c' o' m' hp' hs' => ?_
      refine ⟨_, ?_, t + 1, wN (by omega) (by omega), by omega, rfl, by omega, rfl, by rw [hnode]; exact o', fun j hj => ?_, Gu.then m' fun j hj e => by have := fr j e; omega⟩
      · omega
      · rcases hp' with rfl | rfl
        · exact fr j hj
        · have := blk_some hj; omega
    have cc : ∀ {u : World}, Grow W u → CellsAt u (Addr.mk n13 0 none) 0 [.int .i64 A, .int .i64 B] := fun g => ⟨cell_add (H'.grow g) rfl, cell_add (H'.grow g) rfl, trivial⟩
    have isIn : ([A, B] == [-1, -1]) = true ↔ ¬ 0 ≤ A := by
      rw [beq_iff_eq]
      unfold okG at okg
      rw [Bool.or_eq_true, decide_eq_true_eq, decide_eq_true_eq] at okg
      constructor
      · intro e; injection e with e1 e2; omega
      · intro e
        rcases okg with e1 | e1
        · injection e1 with e1 e2; rw [e1, e2]
        · exact absurd e1.1 e
    -- an input
    have inA : ∀ {u : World}, Grow W u → ¬ 0 ≤ A → 
        cnd (decide ((cntIn g t : Int) < (m : Int)))
          (ixK q m (cntIn g t : Int) 1 fun a23 =>
          ∃ x24 : Bool, u.cell? a23 = some (.bool x24) ∧ 
          ∀ (n25 : Nat) (w26 : World), New (.cells #[.bool x24] ty_bool) u n25 w26 → 
          ∃ w27 : World, ∃ r28_p : Option Addr, ∃ r28_n : Nat, ∃ r28_c : Nat, (Builtin.append_ #[ty_sl_bool, ty_sl_bool] ty_sl_bool #[.slice P t D, .slice (some (Addr.mk n25 0 none)) 1 1]).run Try.prog w26 = .ok (.slice r28_p r28_n r28_c) w27 ∧ 
          ∃ k5, k5 < g.length - t ∧ ∃ t2 : Nat, IntKind.i64.wrap ((t : Int) + 1) = t2 ∧ t2 ≤ g.length ∧ k5 = g.length - t2 ∧ t2 = r28_n ∧ (IntKind.i64.wrap ((cntIn g t : Int) + 1)) = cntIn g t2 ∧ OwB ty_bool w27 r28_p r28_c (vals g ins t2) ∧ (∀ j, blk r28_p = some j → w.heap.size ≤ j) ∧ Grow w w27)
          (∀ (n29 : Nat) (w30 : World), New (.cells #[.bool false] ty_bool) u n29 w30 → 
          ∃ w31 : World, ∃ r32_p : Option Addr, ∃ r32_n : Nat, ∃ r32_c : Nat, (Builtin.append_ #[ty_sl_bool, ty_sl_bool] ty_sl_bool #[.slice P t D, .slice (some (Addr.mk n29 0 none)) 1 1]).run Try.prog w30 = .ok (.slice r32_p r32_n r32_c) w31 ∧ 
          ∃ k5, k5 < g.length - t ∧ ∃ t2 : Nat, IntKind.i64.wrap ((t : Int) + 1) = t2 ∧ t2 ≤ g.length ∧ k5 = g.length - t2 ∧ t2 = r32_n ∧ (IntKind.i64.wrap ((cntIn g t : Int) + 1)) = cntIn g t2 ∧ OwB ty_bool w31 r32_p r32_c (vals g ins t2) ∧ (∀ j, blk r32_p = some j → w.heap.size ≤ j) ∧ Grow w w31) := by
      intro u gu hA
      have ek : IntKind.i64.wrap ((cntIn g t : Int) + 1) = (cntIn g (t + 1) : Int) := by
        rw [wrap64_of (by omega) (by omega), hcnt, if_pos (by omega)]; rfl
      rw [if_neg hA] at hN
      refine cnd_i (fun s => ?_) (fun s => ?_)
      · refine (hi.grow ((G.trans G15).trans gu)).ix false (by omega) hk (by simp at s; omega) fun a e => ⟨_, e, app gu ?_ ek⟩
        rw [Int.toNat_natCast, hN]
      · refine app gu ?_ ek
        have : ins.length ≤ cntIn g t := by simp at s; omega
        rw [hN, List.getD_eq_getElem?_getD, List.getElem?_eq_none this]; rfl
    -- an "and"
    have anA : ∀ {u : World}, Grow W u → 0 ≤ A → 
        ∃ x33 : Int, u.cell? ((Addr.mk n13 0 none).add 0) = some (.int .i64 x33) ∧ 
          Calls Try.prog aig_Value.id #[.slice P t D, .int .i64 x33] u fun e w34 => ∃ r35 : Bool, e = .returned (.bool r35) ∧ 
          cnd r35
          (∃ x36 : Int, w34.cell? ((Addr.mk n13 0 none).add 1) = some (.int .i64 x36) ∧ 
          Calls Try.prog aig_Value.id #[.slice P t D, .int .i64 x36] w34 fun e w37 => ∃ r38 : Bool, e = .returned (.bool r38) ∧ 
          ∀ (n39 : Nat) (w40 : World), New (.cells #[.bool r38] ty_bool) w37 n39 w40 → 
          ∃ w41 : World, ∃ r42_p : Option Addr, ∃ r42_n : Nat, ∃ r42_c : Nat, (Builtin.append_ #[ty_sl_bool, ty_sl_bool] ty_sl_bool #[.slice P t D, .slice (some (Addr.mk n39 0 none)) 1 1]).run Try.prog w40 = .ok (.slice r42_p r42_n r42_c) w41 ∧ 
          ∃ k5, k5 < g.length - t ∧ ∃ t2 : Nat, IntKind.i64.wrap ((t : Int) + 1) = t2 ∧ t2 ≤ g.length ∧ k5 = g.length - t2 ∧ t2 = r42_n ∧ (cntIn g t : Int) = cntIn g t2 ∧ OwB ty_bool w41 r42_p r42_c (vals g ins t2) ∧ (∀ j, blk r42_p = some j → w.heap.size ≤ j) ∧ Grow w w41)
          (∀ (n43 : Nat) (w44 : World), New (.cells #[.bool false] ty_bool) w34 n43 w44 → 
          ∃ w45 : World, ∃ r46_p : Option Addr, ∃ r46_n : Nat, ∃ r46_c : Nat, (Builtin.append_ #[ty_sl_bool, ty_sl_bool] ty_sl_bool #[.slice P t D, .slice (some (Addr.mk n43 0 none)) 1 1]).run Try.prog w44 = .ok (.slice r46_p r46_n r46_c) w45 ∧ 
          ∃ k5, k5 < g.length - t ∧ ∃ t2 : Nat, IntKind.i64.wrap ((t : Int) + 1) = t2 ∧ t2 ≤ g.length ∧ k5 = g.length - t2 ∧ t2 = r46_n ∧ (cntIn g t : Int) = cntIn g t2 ∧ OwB ty_bool w45 r46_p r46_c (vals g ins t2) ∧ (∀ j, blk r46_p = some j → w.heap.size ≤ j) ∧ Grow w w45) := by
      intro u gu hA
      have hb := okG_and (i := t) okg hA
      have ek : (cntIn g t : Int) = (cntIn g (t + 1) : Int) := by rw [hcnt, if_neg (by omega)]; rfl
      rw [if_pos hA] at hN
      have Ou := O.grow (G15.trans gu)
      refine ⟨_, cell_add (H'.grow gu) rfl, (aigValue_ok Ou.vw vl.symm (by omega) hA (by rw [vl]; exact hb.2.1)).mono ?_⟩
      rintro e w34 ⟨rfl, g34⟩
      refine ⟨_, rfl, cnd_i (fun s => ?_) (fun s => app (gu.trans g34) ?_ ek)⟩
      · refine ⟨_, cell_add ((H'.grow gu).grow g34) rfl, (aigValue_ok (Ou.grow g34).vw vl.symm (by omega) hb.1 (by rw [vl]; exact hb.2.2)).mono ?_⟩
        rintro e w37 ⟨rfl, g37⟩
        exact ⟨_, rfl, app ((gu.trans g34).trans g37) (by rw [hN, s]; rfl) ek⟩
      · rw [hN, s]; rfl
    have g0 : Grow W W := Mod.refl W
    refine ⟨⟨_, _, cc g0, (aigInput_ok W).mono ?_⟩, (aigInput_ok W).mono ?_⟩
    · rintro e w18 ⟨rfl, g18⟩
      exact ⟨_, _, rfl, _, _, run_eql2 gate_eq _ _ A B (-1) (-1) _, cnd_i (fun s => inA g18 (isIn.1 s)) (fun s => anA g18 (Classical.byContradiction fun e => by rw [isIn.2 e] at s; simp at s))⟩
    · rintro e w18 ⟨rfl, g18⟩
      exact ⟨_, _, rfl, _, _, cc g18, _, _, run_eql2 gate_eq _ _ A B (-1) (-1) _, cnd_i (fun s => inA g18 (isIn.1 s)) (fun s => anA g18 (Classical.byContradiction fun e => by rw [isIn.2 e] at s; simp at s))⟩
  · have r : t = g.length := by simp at r; omega
    subst r
    exact ⟨_, _, rfl, O, G⟩

theorem or_pow {s i : Nat} (h : s < 2 ^ i) : s ||| 2 ^ i = s + 2 ^ i := by
  rw [Nat.or_comm]
  have := Nat.two_pow_add_eq_or_of_lt h 1
  rw [Nat.mul_one] at this
  omega

theorem number_ok {g : List (Int × Int)} {ins : List Bool} {A : List Int} (h : Vw Value.bool w p (vals g ins g.length)) (hn : n = g.length) (hg : g.length ≤ 1048576) (hA : Vw (Value.int .i64) w q A) (hk : m = A.length) (h7 : A.length ≤ 7) (aA : allL g.length A) :
    Calls Try.prog vec_Number.id #[.slice p n c, .slice q m d] w fun e w' => e = .returned (.int .i64 (numL g ins A)) ∧ Grow w w' := by
  refine vec_Number.calls ?_
  refine cnd_f (decide_eq_false (by omega)) ?_
  refine ⟨fun S I u z => ∃ t : Nat, I = t ∧ t ≤ A.length ∧ z = A.length - t ∧ S = numL g ins (A.take t) ∧ Grow w u, ⟨_, 0, rfl, Nat.zero_le _, rfl, rfl, Mod.refl w⟩, ?_⟩
  rintro S I w6 z _ ⟨t, rfl, ht, rfl, rfl, G⟩
  refine cnd_i (fun r => ?_) (fun r => ?_)
  · have r : t < A.length := by simp at r; omega
    refine (hA.grow G).ix 0 (by omega) hk (by omega) fun a e => ⟨_, e, ?_⟩
    rw [Int.toNat_natCast]
    have hl := aA _ (mem_getD r)
    have bl := isL_bd hl
    refine (aigValue_ok (h.grow G) (hn.trans (vals_len g ins _).symm) (by omega) bl.1 (by rw [vals_len]; exact bl.2)).mono ?_
    rintro e w9 ⟨rfl, g9⟩
    have etr : evalL (vals g ins g.length) (A.getD t 0) = truth g ins (A.getD t 0) := rfl
    have es : numL g ins (A.take (t + 1)) = numL g ins (A.take t) + 2 ^ t * (truth g ins (A.getD t 0)).toNat := by rw [take_snoc r, numL_snoc, List.length_take, Nat.min_eq_left (by omega)]
    have hlt : numL g ins (A.take t) < 2 ^ t := by
      have := numL_lt g ins (A.take t)
      rwa [List.length_take, Nat.min_eq_left (by omega)] at this
    have hp : 2 ^ t ≤ 2 ^ 7 := Nat.pow_le_pow_right (by omega) (by omega)
    have hp7 : (2 : Nat) ^ 7 = 128 := by decide
    rw [etr]
    refine ⟨_, rfl, cnd_i (fun s => ⟨by omega, _, ?_, t + 1, wN (by omega) (by omega), by omega, rfl, ?_, G.trans g9⟩) (fun s => ⟨_, ?_, t + 1, wN (by omega) (by omega), by omega, rfl, ?_, G.trans g9⟩)⟩
    · omega
    · rw [es, s]
      have e1 : min t (IntKind.bits .i64) = t := by
        show min t 64 = t
        omega
      have e2 : (1 : Int) * 2 ^ t = ((2 ^ t : Nat) : Int) := by rw [Int.one_mul]; simp
      rw [e1, e2, wrap64_of (x := ((2 ^ t : Nat) : Int)) (by omega) (by omega)]
      have e3 : ∀ k : Nat, BitVec.ofInt (IntKind.bits .i64) (k : Int) = BitVec.ofNat (IntKind.bits .i64) k := fun k => by
        apply BitVec.eq_of_toInt_eq; simp
      rw [e3, e3]
      have e4 : (BitVec.ofNat (IntKind.bits .i64) (numL g ins (A.take t)) ||| BitVec.ofNat (IntKind.bits .i64) (2 ^ t)).toNat = numL g ins (A.take t) + 2 ^ t := by
        rw [BitVec.toNat_or, BitVec.toNat_ofNat, BitVec.toNat_ofNat]
        have eb : (2 : Nat) ^ IntKind.bits .i64 = 18446744073709551616 := by decide
        rw [eb, Nat.mod_eq_of_lt (by omega), Nat.mod_eq_of_lt (by omega), or_pow hlt]
      rw [e4, wrap64_of (by omega) (by omega)]
      simp
    · omega
    · rw [es, s]; simp
  · have r : t = A.length := by simp at r; omega
    subst r
    rw [List.take_length]
    exact ⟨rfl, G⟩
end Go.Proofs.Ytambabpklfeaoaa.W
