/- Layers 15 and 18: nodes' values; what is asked, by the program. -/
import Derived.Test.YtambabpklfeaoaaTs11
namespace Go.Proofs.Ytambabpklfeaoaa.W
open Go Go.Fw Go.RowKit Go.TsP

theorem refIns_ok {w : World} {p q r : Option Addr} {g : List (Int × Int)} {n c k b nv cv : Nat} {v m : List Int} (hn : n = g.length) (hg : n ≤ 4194304) (h : Vr 2 gateV w p g) (hv : Vw (Value.int .i64) w q v) (hnv : nv = v.length) (hvl : v.length = g.length) (hm : Vw (Value.int .i64) w r m) (hk : k = m.length) (hkx : k ≤ maxLen) :
    Calls Try.prog fathomref18_Ins.id #[.slice p n c, .slice q nv cv, .slice r k b] w fun e w' => (∃ po co, e = .returned (.slice po (insP g v m g.length).length co) ∧ OwB ty_bool w' po co (insP g v m g.length)) ∧ Grow w w' := by
  subst hn hnv
  refine fathomref18_Ins.calls ?_
  intro n1 w2 h2
  have e1 := h2.num
  have O2 : OwB ty_bool w2 (some ⟨n1, 0, none⟩) 0 [] := Ow.of_some h2.at (Nat.le_refl _) (Nat.zero_le _) rfl rfl
  refine ⟨fun po no co vv w' z => ∃ t : Nat, no = (insP g v m t).length ∧ vv = t ∧ t ≤ g.length ∧ OwB ty_bool w' po co (insP g v m t) ∧ (∀ j, blk po = some j → w.heap.size ≤ j) ∧ Grow w w' ∧ z + t = g.length, ⟨_, 0, rfl, rfl, Nat.zero_le _, O2, fun j hj => by have := blk_some hj; omega, h2.mod, rfl⟩, ?_⟩
  clear O2
  rintro po no co vv w8 z _ ⟨t, rfl, rfl, ht, O, fr, G, hz⟩
  refine cnd_i (fun s3 => ?_) (fun s3 => ?_) <;> simp only [decide_eq_true_eq, decide_eq_false_iff_not] at s3
  · have ht' : t < g.length := by omega
    have is_ := insP_succ g v m t
    have ev : IntKind.i64.wrap ((t : Int) + 1) = ((t + 1 : Nat) : Int) := by rw [wrap64_of (by omega) (by omega)]; omega
    rw [ev]
    have hlen := insP_len g v m t
    have hcl := cntIn_le g t
    refine gIx (h.grow G) rfl ht' fun a x0 _ => ⟨_, x0, cnd_i (fun s4 => ?_) (fun s4 => ?_)⟩ <;> simp only [decide_eq_true_eq, decide_eq_false_iff_not] at s4
    · rw [if_pos s4] at is_
      refine (hv.grow G).ix 0 (by omega) rfl (by omega) fun a e => ⟨_, e, (refValue_ok (hm.grow G) hk hkx _).mono ?_⟩
      rw [Int.toNat_natCast]
      rintro e w13 ⟨rfl, g13⟩
      refine ⟨_, rfl, ?_⟩
      have eb : (valP m (v.getD t 0) == 1) = decide (valP m (v.getD t 0) > 0) := by
        rcases valP_cases m (v.getD t 0) with e | e | e <;> rw [e] <;> decide
      rw [eb]
      intro n15 w16 h15
      have G16 := (G.trans g13).trans h15.mod
      refine ((O.grow g13).grow h15.mod).app1 ts_sl_bool _ h15.has rfl rfl oneBool (by omega) fun w29 p29 c29 O29 m29 hp z29 => ⟨z - 1, by omega, t + 1, by rw [is_]; simp, rfl, ht', by rw [is_]; exact O29, fun j hj => ?_, G16.then m29 fun j hj e => by have := fr j e; omega, by omega⟩
      rcases hp with h1 | h1 <;> rw [h1] at hj
      · exact fr j hj
      · have := blk_some hj; have := G16.size; omega
    · rw [if_neg s4, List.append_nil] at is_
      exact ⟨z - 1, by omega, t + 1, by rw [is_], rfl, ht', by rw [is_]; exact O, fr, G, by omega⟩
  · have : t = g.length := by omega
    subst this
    exact ⟨⟨po, co, rfl, O⟩, G⟩

def valueP (v : List Bool) (l : Int) : Bool := if l < 0 ∨ l / 2 > v.length then false else evalL v l
theorem aigValue_ok {w : World} {p : Option Addr} {n c : Nat} {v : List Bool} (h : Vw Value.bool w p v) (hn : n = v.length) {l : Int} (h1 : -1073741824 ≤ l) (h2 : l ≤ 1073741824) :
    Calls Try.prog aig_Value.id #[.slice p n c, .int .i64 l] w fun e w' => e = .returned (.bool (valueP v l)) ∧ Grow w w' := by
  subst hn
  refine aig_Value.calls ?_
  unfold aig_Value.w valueP evalL
  refine cnd_i (fun s => ⟨?_, Mod.refl w⟩) (fun s => ?_) <;> simp only [decide_eq_true_eq, decide_eq_false_iff_not] at s
  · rw [if_pos (.inl s)]
  have d1 : l.tdiv 2 = l / 2 := Int.tdiv_eq_ediv_of_nonneg (by omega)
  have d2 : l.tmod 2 = l % 2 := Int.tmod_eq_emod_of_nonneg (by omega)
  have w1 : IntKind.i64.wrap (l / 2) = l / 2 := wrap64_of (by omega) (by omega)
  have w2 : IntKind.i64.wrap (l / 2 - 1) = l / 2 - 1 := wrap64_of (by omega) (by omega)
  rw [d1, d2, w1, w2]
  refine ⟨by decide, cnd_i (fun s2 => ⟨?_, Mod.refl w⟩) (fun s2 => ?_)⟩ <;> simp only [decide_eq_true_eq, decide_eq_false_iff_not] at s2
  · rw [if_pos (.inr s2)]
  rw [if_neg (show ¬ (l < 0 ∨ l / 2 > (v.length : Int)) by omega)]
  refine cnd_i (fun s3 => ⟨?_, Mod.refl w⟩) (fun s3 => ⟨by decide, ?_⟩) <;> simp only [decide_eq_true_eq, decide_eq_false_iff_not] at s3
  · rw [if_pos s3]
  · refine h.ix false (by omega) rfl (by omega) fun a e => ⟨_, e, by decide, ?_, Mod.refl w⟩
    rw [if_neg s3]

theorem valueP_vals {g : List (Int × Int)} {ins : List Bool} {t : Nat} {l : Int} (h0 : 0 ≤ l) (h1 : l ≤ 2 * t + 1) : valueP (vals g ins t) l = evalL (vals g ins t) l := by
  unfold valueP
  rw [vals_len, if_neg (by omega)]

theorem aigEval_ok {w : World} {p q : Option Addr} {g : List (Int × Int)} {n c k d : Nat} {ins : List Bool} (hn : n = g.length) (hg : n ≤ 4194304) (h : Vr 2 gateV w p g) (hi : Vw Value.bool w q ins) (hk : k = ins.length) (hkx : k ≤ maxLen) (hgm : mayG g = true) :
    Calls Try.prog aig_Eval.id #[.slice p n c, .slice q k d] w fun e w' => (∃ po co, e = .returned (.slice po g.length co) ∧ OwB ty_bool w' po co (vals g ins g.length) ∧ ∀ j, blk po = some j → w.heap.size ≤ j) ∧ Grow w w' := by
  subst hn hk
  unfold maxLen at hkx
  refine aig_Eval.calls ?_
  refine (aigCheck_ok h rfl (by unfold maxLen; omega)).mono ?_
  rintro e w1 ⟨rfl, g1⟩
  rw [hgm]
  refine ⟨_, rfl, cnd_f rfl ?_⟩
  refine ⟨fun po no co kk vv w' z => ∃ t : Nat, no = t ∧ kk = cntIn g t ∧ vv = t ∧ t ≤ g.length ∧ OwB ty_bool w' po co (vals g ins t) ∧ (∀ j, blk po = some j → w.heap.size ≤ j) ∧ Grow w w' ∧ z + t = g.length, ⟨_, 0, rfl, rfl, rfl, Nat.zero_le _, Ow.nil _ _ _, by simp [blk], g1, rfl⟩, ?_⟩
  rintro po no co kk vv w9 z _ ⟨t, rfl, rfl, rfl, ht, O, fr, G, hz⟩
  refine cnd_i (fun s3 => ?_) (fun s3 => ?_) <;> simp only [decide_eq_true_eq, decide_eq_false_iff_not] at s3
  · have ht' : no < g.length := by omega
    have ev : IntKind.i64.wrap ((no : Int) + 1) = ((no + 1 : Nat) : Int) := by rw [wrap64_of (by omega) (by omega)]; omega
    have hcl := cntIn_le g no
    have ec : IntKind.i64.wrap ((cntIn g no : Int) + 1) = ((cntIn g no + 1 : Nat) : Int) := by rw [wrap64_of (by omega) (by omega)]; omega
    rw [ev, ec]
    have hok := mayG_at hgm ht'
    have vs_ := vals_succ g ins no
    have cs_ := cntIn_succ g no
    have vl := vals_len g ins no
    refine gIx (h.grow G) rfl ht' fun a x0 x1 => ⟨_, _, ⟨x0, x1, trivial⟩, ?_⟩
    unfold nodeV at vs_
    generalize hx : g.getD no (0, 0) = x at *
    obtain ⟨A, B⟩ := x
    simp only at vs_ cs_
    intro n13 w14 h13
    refine store_i h13.has rfl rfl fun w15 h15 m15 => ?_
    have g15 : Grow w9 w15 := h13.mod.fresh m15 (by have := h13.num; omega)
    have h15 : Has w15 n13 #[.int .i64 A, .int .i64 B] := h15
    have push : ∀ (w' : World) (y : Bool), Grow w9 w' → vals g ins (no + 1) = vals g ins no ++ [y] → ∀ (kk : Int), kk = cntIn g (no + 1) → ∀ (n25 : Nat) (w26 : World), New (.cells #[.bool y] 4) w' n25 w26 → 
          ∃ w27 : World, ∃ r28_p : Option Addr, ∃ r28_n : Nat, ∃ r28_c : Nat, (Builtin.append_ #[28, 28] 28 #[.slice po no co, .slice (some (Addr.mk n25 0 none)) 1 1]).run Try.prog w26 = .ok (.slice r28_p r28_n r28_c) w27 ∧ 
          ∃ k5 : Nat, k5 < z ∧ ∃ t' : Nat, r28_n = t' ∧ kk = cntIn g t' ∧ ((no + 1 : Nat) : Int) = t' ∧ t' ≤ g.length ∧ OwB ty_bool w27 r28_p r28_c (vals g ins t') ∧ (∀ j, blk r28_p = some j → w.heap.size ≤ j) ∧ Grow w w27 ∧ k5 + t' = g.length := by
      rintro w' y gg hv kk rfl n25 w26 h25
      have G26 := (G.trans gg).trans h25.mod
      refine ((O.grow gg).grow h25.mod).app1 ts_sl_bool y h25.has rfl vl.symm oneBool (by omega) fun w27 p27 c27 O27 m27 hp z27 => ⟨z - 1, by omega, no + 1, by omega, rfl, rfl, ht', by rw [hv]; exact O27, fun j hj => ?_, G26.then m27 fun j hj e => by have := fr j e; omega, by omega⟩
      rcases hp with h1 | h1 <;> rw [h1] at hj
      · exact fr j hj
      · have := blk_some hj; have := G26.size; omega
    have rest : ∀ w', Grow w9 w' → Has w' n13 #[.int .i64 A, .int .i64 B] → cnd ([A, B] == [-1, -1])
        (cnd (decide ((cntIn g no : Int) < (ins.length : Int)))
          (ixK q ins.length (cntIn g no : Int) 1 fun a23 =>
          ∃ x24 : Bool, w'.cell? a23 = some (.bool x24) ∧ 
          ∀ (n25 : Nat) (w26 : World), New (.cells #[.bool x24] 4) w' n25 w26 → 
          ∃ w27 : World, ∃ r28_p : Option Addr, ∃ r28_n : Nat, ∃ r28_c : Nat, (Builtin.append_ #[28, 28] 28 #[.slice po no co, .slice (some (Addr.mk n25 0 none)) 1 1]).run Try.prog w26 = .ok (.slice r28_p r28_n r28_c) w27 ∧ 
          ∃ k5 : Nat, k5 < z ∧ ∃ t' : Nat, r28_n = t' ∧ ((cntIn g no + 1 : Nat) : Int) = cntIn g t' ∧ ((no + 1 : Nat) : Int) = t' ∧ t' ≤ g.length ∧ OwB ty_bool w27 r28_p r28_c (vals g ins t') ∧ (∀ j, blk r28_p = some j → w.heap.size ≤ j) ∧ Grow w w27 ∧ k5 + t' = g.length)
          (∀ (n29 : Nat) (w30 : World), New (.cells #[.bool false] 4) w' n29 w30 → 
          ∃ w31 : World, ∃ r32_p : Option Addr, ∃ r32_n : Nat, ∃ r32_c : Nat, (Builtin.append_ #[28, 28] 28 #[.slice po no co, .slice (some (Addr.mk n29 0 none)) 1 1]).run Try.prog w30 = .ok (.slice r32_p r32_n r32_c) w31 ∧ 
          ∃ k5 : Nat, k5 < z ∧ ∃ t' : Nat, r32_n = t' ∧ ((cntIn g no + 1 : Nat) : Int) = cntIn g t' ∧ ((no + 1 : Nat) : Int) = t' ∧ t' ≤ g.length ∧ OwB ty_bool w31 r32_p r32_c (vals g ins t') ∧ (∀ j, blk r32_p = some j → w.heap.size ≤ j) ∧ Grow w w31 ∧ k5 + t' = g.length))
        (∃ x33 : Int, w'.cell? ((Addr.mk n13 0 none).add 0) = some (.int .i64 x33) ∧ 
          Calls Try.prog aig_Value.id #[.slice po no co, .int .i64 x33] w' fun e w34 => ∃ r35 : Bool, e = .returned (.bool r35) ∧ 
          cnd r35
          (∃ x36 : Int, w34.cell? ((Addr.mk n13 0 none).add 1) = some (.int .i64 x36) ∧ 
          Calls Try.prog aig_Value.id #[.slice po no co, .int .i64 x36] w34 fun e w37 => ∃ r38 : Bool, e = .returned (.bool r38) ∧ 
          ∀ (n39 : Nat) (w40 : World), New (.cells #[.bool r38] 4) w37 n39 w40 → 
          ∃ w41 : World, ∃ r42_p : Option Addr, ∃ r42_n : Nat, ∃ r42_c : Nat, (Builtin.append_ #[28, 28] 28 #[.slice po no co, .slice (some (Addr.mk n39 0 none)) 1 1]).run Try.prog w40 = .ok (.slice r42_p r42_n r42_c) w41 ∧ 
          ∃ k5 : Nat, k5 < z ∧ ∃ t' : Nat, r42_n = t' ∧ (cntIn g no : Int) = cntIn g t' ∧ ((no + 1 : Nat) : Int) = t' ∧ t' ≤ g.length ∧ OwB ty_bool w41 r42_p r42_c (vals g ins t') ∧ (∀ j, blk r42_p = some j → w.heap.size ≤ j) ∧ Grow w w41 ∧ k5 + t' = g.length)
          (∀ (n43 : Nat) (w44 : World), New (.cells #[.bool false] 4) w34 n43 w44 → 
          ∃ w45 : World, ∃ r46_p : Option Addr, ∃ r46_n : Nat, ∃ r46_c : Nat, (Builtin.append_ #[28, 28] 28 #[.slice po no co, .slice (some (Addr.mk n43 0 none)) 1 1]).run Try.prog w44 = .ok (.slice r46_p r46_n r46_c) w45 ∧ 
          ∃ k5 : Nat, k5 < z ∧ ∃ t' : Nat, r46_n = t' ∧ (cntIn g no : Int) = cntIn g t' ∧ ((no + 1 : Nat) : Int) = t' ∧ t' ≤ g.length ∧ OwB ty_bool w45 r46_p r46_c (vals g ins t') ∧ (∀ j, blk r46_p = some j → w.heap.size ≤ j) ∧ Grow w w45 ∧ k5 + t' = g.length)) := by
      intro w' gg H
      refine cnd_i (fun s => ?_) (fun s => ?_)
      · have s : A = -1 ∧ B = -1 := by simpa using s
        obtain ⟨rfl, rfl⟩ := s
        rw [if_neg (by decide)] at vs_
        rw [if_pos (by decide)] at cs_
        refine cnd_i (fun s2 => ?_) (fun s2 => ?_) <;> simp only [decide_eq_true_eq, decide_eq_false_iff_not] at s2
        · refine (hi.grow (G.trans gg)).ix false (by omega) rfl s2 fun a e => ⟨_, e, ?_⟩
          rw [Int.toNat_natCast]
          exact push w' _ gg vs_ _ (by rw [cs_])
        · have : ins.getD (cntIn g no) false = false := by simp [List.getD, show ins.length ≤ cntIn g no by omega]
          rw [this] at vs_
          exact push w' _ gg vs_ _ (by rw [cs_])
      · have hA : 0 ≤ A := by
          simp only [okG, Bool.or_eq_true, decide_eq_true_eq] at hok
          rcases hok with hok | hok
          · simp only [Prod.mk.injEq] at hok
            obtain ⟨rfl, rfl⟩ := hok
            simp at s
          · exact hok.1
        have hb := okG_and hok hA
        simp only at hb
        rw [if_pos hA] at vs_
        rw [if_neg (by omega), Nat.add_zero] at cs_
        refine ⟨_, cell_add H rfl, (aigValue_ok (O.grow gg).vw vl.symm (l := A) (by omega) (by omega)).mono ?_⟩
        rintro e w34 ⟨rfl, g34⟩
        rw [valueP_vals hA (by omega)]
        have gg2 := gg.trans g34
        refine ⟨_, rfl, cnd_i (fun s2 => ?_) (fun s2 => ?_)⟩
        · refine ⟨_, cell_add (H.grow g34) rfl, (aigValue_ok (O.grow gg2).vw vl.symm (l := B) (by omega) (by omega)).mono ?_⟩
          rintro e w37 ⟨rfl, g37⟩
          rw [valueP_vals hb.1 (by omega)]
          refine ⟨_, rfl, ?_⟩
          rw [s2, Bool.true_and] at vs_
          exact push w37 _ (gg2.trans g37) vs_ _ (by rw [cs_]; rfl)
        · rw [s2, Bool.false_and] at vs_
          exact push w34 _ gg2 vs_ _ (by rw [cs_]; rfl)
    refine ⟨?_, ?_⟩
    · refine ⟨_, _, ⟨cell_add h15.drew rfl, cell_add h15.drew rfl, trivial⟩, (aigInput_ok _).mono ?_⟩
      rintro e w18 ⟨rfl, g18⟩
      exact ⟨_, _, rfl, _, _, run_eql2 gate_eq _ _ _ _ _ _ _, rest _ (g15.drew.trans g18) (h15.drew.grow g18)⟩
    · refine (aigInput_ok _).mono ?_
      rintro e w18 ⟨rfl, g18⟩
      have h18 := h15.drew.grow g18
      exact ⟨_, _, rfl, _, _, ⟨cell_add h18 rfl, cell_add h18 rfl, trivial⟩, _, _, run_eql2 gate_eq _ _ _ _ _ _ _, rest _ (g15.drew.trans g18) h18⟩
  · have : no = g.length := by omega
    subst this
    exact ⟨⟨po, co, rfl, O, fr⟩, G⟩

theorem asked1_ok {b : Nat} {p : Option Addr} {n c : Nat} {v : List Bool} {w : World} (H : Has w b #[.slice p n c]) (h : Vw Value.bool w p v) (hn : n = v.length) {l : Int} (h1 : -1073741824 ≤ l) (h2 : l ≤ 1073741824) :
    Calls Try.prog tseitin_Asked_1.id #[.int .i64 l, .pointer (some ⟨b, 0, none⟩)] w fun e w' => e = .returned (.bool (valueP v l)) ∧ Grow w w' := by
  refine tseitin_Asked_1.calls ?_
  refine ⟨_, _, _, cell_of H rfl, (aigValue_ok h hn h1 h2).mono ?_⟩
  rintro e w2 ⟨rfl, g⟩
  exact ⟨_, rfl, rfl, g⟩
theorem asked1_ent : entB Try.prog tseitin_Asked_1.id = true := by kernel_rfl

theorem tsAsked_ok {w : World} {p q r : Option Addr} {g : List (Int × Int)} {n c m d k b : Nat} {hs : List Sl} {cs : List (List Int)} {ins : List Bool} (hn : n = g.length) (hg : n ≤ 4194304) (h : Vr 2 gateV w p g) (hc : V2 (Value.int .i64) w q hs cs) (hm : m = cs.length) (hx : m ≤ maxLen) (hi : Vw Value.bool w r ins) (hk : k = ins.length) (hkx : k ≤ maxLen) (hmay : mayG g = false ∨ mayT g cs = true) :
    Calls Try.prog tseitin_Asked.id #[.slice p n c, .slice q m d, .slice r k b] w fun e w' => e = .returned (.bool (mayG g && askedP g cs ins)) ∧ Grow w w' := by
  subst hm
  unfold maxLen at hx
  refine tseitin_Asked.calls ?_
  refine (aigCheck_ok h hn (by unfold maxLen; omega)).mono ?_
  rintro e w1 ⟨rfl, g1⟩
  rcases hmay with hf | ht
  · rw [hf]
    exact ⟨_, rfl, cnd_t rfl ⟨rfl, g1⟩⟩
  have hgm := mayT_g ht
  rw [hgm, Bool.true_and]
  refine ⟨_, rfl, cnd_f rfl ((aigEval_ok hn hg (h.grow g1) (hi.grow g1) hk hkx hgm).mono ?_)⟩
  rintro e w3 ⟨⟨po, co, rfl, O, _⟩, g3⟩
  refine ⟨_, _, _, rfl, ?_⟩
  intro n5 w6 h5
  refine store_i h5.has rfl rfl fun w7 h7 m7 => ?_
  have g7 : Grow w3 w7 := h5.mod.fresh m7 (by have := h5.num; omega)
  have G7 := (g1.trans g3).trans g7
  have O7 := O.grow g7
  refine ⟨fun v w' z => ∃ t : Nat, v = t ∧ t ≤ cs.length ∧ ((cs.take t).all fun c => c.any (truth g ins)) = true ∧ Grow w7 w' ∧ z + t = cs.length, ⟨_, 0, rfl, Nat.zero_le _, rfl, Mod.refl _, rfl⟩, ?_⟩
  rintro v w12 z _ ⟨t, rfl, htt, ha, G, hz⟩
  have G12 := G7.trans G
  refine cnd_i (fun s => ?_) (fun s => ?_) <;> simp only [decide_eq_true_eq, decide_eq_false_iff_not] at s
  · have ht' : t < cs.length := by omega
    have hb := mayT_bd ht t ht'
    have hnn : ∀ x ∈ cs.getD t [], 0 ≤ x := by
      intro x hx
      obtain ⟨j, hj⟩ := List.getElem?_of_mem hx
      have hjl := (List.getElem?_eq_some_iff.1 hj).1
      have := mayT_l ht ht' hjl
      rw [show (cs.getD t []).getD j 0 = x by simp only [List.getD_eq_getElem?_getD] at hj ⊢; rw [hj]; rfl] at this
      exact this.1
    refine rowIx (hc.grow G12) rfl ht' fun a sl e _ hsn hsm hv => ⟨_, _, _, e, (containsFunc_ok hv hsn hsm asked1_ent (truth g ins) fun x hx w' g' => ?_).mono ?_⟩
    · rw [args2]
      have e1 : truth g ins x = valueP (vals g ins g.length) x := by
        rw [valueP_vals (hnn x hx) (hb x hx).2]; rfl
      rw [e1]
      have := hb x hx
      exact asked1_ok ((h7.grow G).grow g') ((O7.grow G).grow g').vw (vals_len _ _ _).symm (by omega) (by omega)
    · rintro e w15 ⟨rfl, g15⟩
      refine ⟨_, rfl, cnd_i (fun s2 => ⟨?_, G12.trans g15⟩) (fun s2 => ⟨z - 1, by omega, t + 1, by rw [wrap64_of (by omega) (by omega)]; omega, ht', all_take_succ (d := []) ht' ha (by simpa using s2), G.trans g15, by omega⟩)⟩
      have : askedP g cs ins = false := all_false (d := []) ht' (by simpa using s2)
      rw [this]
  · have : t = cs.length := by omega
    subst this
    rw [List.take_length] at ha
    refine ⟨?_, G12⟩
    unfold askedP
    rw [ha]
end Go.Proofs.Ytambabpklfeaoaa.W
