/- Layer 1: Given, by the program and by the document. -/
import Derived.Test.YtlpmapeojecenaaLit7
namespace Go.Proofs.Ytlpmapeojecenaa.W
open Go Go.Fw Go.RowKit Go.SoP Go.LiP
variable {w : World} {p q : Option Addr} {n c : Nat} {l : List Int}

theorem foot_nil {b : Nat} : ¬ OV.foot none [] b := by
  rintro (hb | ⟨s, hs, _⟩)
  · simp [blk] at hb
  · simp at hs
theorem givP_nil {x : Int} {cs : List (List Int)} : givP x (cs.take 0) = [] := by
  unfold givP; simp
/-- A clause is copied, and a literal deleted of the copy. -/
theorem cd_ok {W0 : World} {nb : Nat} {k : Int} {P : Option Addr} {C : Nat} {hs : List Sl} {rows : List (List Int)} {nl : Nat} {x : Int} (t : Out W0 w nb k P C hs rows) (hx : -9223372036854775808 ≤ x ∧ x < 9223372036854775808) (hb : Has w nl #[.int .i64 x])
    (h : Vw (Value.int .i64) w p l) (hn : n = l.length) (hm : n ≤ 1000000) {K : Ending → World → Prop}
    (hK : ∀ w1 q d, Out W0 w1 nb k P C hs rows → OwI ty_int w1 q d l → Grow w w1 → (∀ b, blk q = some b → w.heap.size ≤ b) →
      (Calls Try.prog slices_DeleteFunc_int_int.id #[.slice q l.length d, .func (.func lit_Given_1.id) #[] #[.pointer (some ⟨nl, 0, none⟩)]] w1 (fun e w2 => ∃ row : List Int, row = (l.filter fun y => !(litB x && (y == -x))) ∧ e = .returned (.slice q row.length d) ∧ Out W0 w2 nb k P C hs rows ∧ OwI ty_int w2 q d row ∧ Grow w w2 ∧
        (∀ b, blk q = some b → W0.heap.size ≤ b ∧ b ≠ nb ∧ ¬ OV.foot P hs b) ∧ row.length ≤ maxLen)) → K (.returned (.slice q l.length d)) w1) :
    Calls Try.prog slices_Clone_int_int.id #[.slice p n c] w K := by
  refine (clone_ok h hn hm).mono ?_
  rintro e w1 ⟨q, d, rfl, o1, g1, f1⟩
  have t1 := t.grow g1
  have ft := t.o.lt
  have nbl := t.H.lt
  have sz := t.G.size
  refine hK w1 q d t1 o1 g1 f1 ?_
  have hnl := hb.lt
  refine (delete_ok o1 rfl (by omega) given1_ent (fun y => litB x && (y == -x)) fun y _ w' m' => ?_).mono ?_
  · rw [args2w]
    exact given1_ok hx ((hb.grow g1).keep m' fun e => by have := f1 nl e; omega) y
  · rintro e w2 ⟨rfl, o2, m2⟩
    have hlen : (l.filter fun y => !(litB x && (y == -x))).length ≤ l.length := List.length_filter_le _ _
    refine ⟨_, rfl, rfl, ⟨t1.o.keep m2 fun b hb e => ?_, t1.H.keep m2 fun e => ?_, t1.G.then m2 fun b hb e => ?_, t1.f, t1.nb⟩, o2, g1.then m2 fun b hb e => ?_, fun b hb => ?_, by unfold maxLen; omega⟩
    · have := f1 b e; have := ft b hb; omega
    · have := f1 nb e; omega
    · have := f1 b e; omega
    · have := f1 b e; omega
    · have := f1 b hb
      exact ⟨by omega, by omega, fun h => by have := ft b h; omega⟩

theorem litGiven_ok {k : Int} {hs0 : List Sl} {cs : List (List Int)} {m d : Nat} (hc : V2 (Value.int .i64) w q hs0 cs) (hm : m = cs.length) {x : Int} (hx : -9223372036854775808 ≤ x ∧ x < 9223372036854775808) :
    Calls Try.prog lit_Given.id #[.agg #[.int .i64 k, .slice q m d], .int .i64 x] w fun e w' => ∃ (P : Option Addr) (C : Nat) (hs : List Sl) (rows : List (List Int)) (k' : Int), e = .returned (.agg #[.int .i64 k', .slice P rows.length C]) ∧ V2 (Value.int .i64) w' P hs rows ∧ Grow w w' ∧ rows.length ≤ maxLen ∧
      (if cnfB k cs then k' = k ∧ rows = givP x cs else k' = 0 ∧ rows = []) := by
  refine lit_Given.calls ?_
  intro n1 w1 h1 n3 w3 h3 n5 w5 h5
  have e1 := h1.num; have e3 := h3.num; have e5 := h5.num
  have z1 := h1.size; have z3 := h3.size; have z5 := h5.size
  have G5 := (h1.mod.trans h3.mod).trans h5.mod
  have H1 := (h1.has.old h3).old h5
  have H3 := h3.has.old h5
  have H5 := h5.has
  refine ⟨_, _, _, _, cnfCells H1, (checkCnf_ok (hc.grow G5) hm).mono ?_⟩
  rintro e w6 ⟨rfl, g6⟩
  have z6 := g6.size
  have G6 := G5.trans g6
  cases hcn : cnfB k cs with
  | false =>
    refine ⟨_, rfl, cnd_t rfl ?_⟩
    refine store_i (H5.grow g6) rfl rfl fun w7 H7 m7 => ⟨_, _, _, _, cnfCells H7, none, 0, [], [], 0, rfl, V2.nil, G6.then m7 fun b hb e => by omega, Nat.zero_le _, by simp⟩
  | true =>
  have hcl : cs.length ≤ 262144 ∧ ∀ c ∈ cs, clB c = true := by
    unfold cnfB at hcn
    simp only [Bool.and_eq_true, decide_eq_true_eq, List.all_eq_true] at hcn
    exact ⟨hcn.1.2.2, fun c hc => (hcn.2 c hc).1⟩
  refine ⟨_, rfl, cnd_f rfl ⟨_, cell_add (H1.grow g6) rfl, ?_⟩⟩
  intro n15 w15 h15
  have e15 := h15.num
  refine store_i h15.has rfl rfl fun w17 H17 m17 => ?_
  have z17 := m17.size
  have z15 := h15.size
  have g17 : Grow w6 w17 := h15.mod.fresh m17 (by omega)
  refine ⟨_, _, _, cell_add ((H1.grow g6).grow g17) rfl, ?_⟩
  have t17 : Out w6 w17 n15 k none 0 [] [] := ⟨OV.nil, H17, g17, fun b hb => absurd hb foot_nil, by omega⟩
  refine ⟨fun I w' k2 => ∃ (t : Nat) (P : Option Addr) (C : Nat) (hs : List Sl), I = t ∧ t ≤ cs.length ∧ k2 = cs.length - t ∧ Out w6 w' n15 k P C hs (givP x (cs.take t)), ⟨_, 0, none, 0, [], rfl, Nat.zero_le _, rfl, by rw [givP_nil]; exact t17⟩, ?_⟩
  rintro I w23 k2 _ ⟨t, P, C, hs, rfl, ht, rfl, T⟩
  have hh : hs.length = (givP x (cs.take t)).length := T.o.v.n
  have hgl := givP_len x (cs.take t)
  rw [List.length_take] at hgl
  have H3' : ∀ {w' : World}, Grow w6 w' → Has w' n3 #[.int .i64 x] := fun g => (H3.grow g6).grow g
  refine cnd_i (fun s => ?_) (fun s => ?_)
  · have s : t < cs.length := by simp at s; omega
    have gs := givP_succ (l := x) s
    refine row_ix (hc.grow (G6.trans T.G)) hm s fun a y e y1 y2 v _ => ⟨_, _, _, e, ?_⟩
    have hcc := hcl.2 (cs.getD t []) (by simp [List.getD, s])
    have hy := (clB_all hcc).2
    -- the copy, and what follows it
    have br : ∀ W : World, Grow w23 W → (litB x && decide (x ∈ cs.getD t [])) = false → ∀ (R : World → Prop), (∀ w', (∃ k21, k21 < cs.length - t ∧ ∃ (t2 : Nat) (P : Option Addr) (C : Nat) (hs : List Sl), IntKind.i64.wrap ((t : Int) + 1) = t2 ∧ t2 ≤ cs.length ∧ k21 = cs.length - t2 ∧ Out w6 w' n15 k P C hs (givP x (cs.take t2))) → R w') →
        (∃ x32_p : Option Addr, ∃ x32_n : Nat, ∃ x32_c : Nat, W.cell? ((Addr.mk n15 0 none).add 1) = some (.slice x32_p x32_n x32_c) ∧
          Calls Try.prog slices_Clone_int_int.id #[.slice y.p y.n y.c] W fun e w33 => ∃ r34_p : Option Addr, ∃ r34_n : Nat, ∃ r34_c : Nat, e = .returned (.slice r34_p r34_n r34_c) ∧
          Calls Try.prog slices_DeleteFunc_int_int.id #[.slice r34_p r34_n r34_c, .func (.func lit_Given_1.id) #[] #[.pointer (some (Addr.mk n3 0 none))]] w33 fun e w35 => ∃ r36_p : Option Addr, ∃ r36_n : Nat, ∃ r36_c : Nat, e = .returned (.slice r36_p r36_n r36_c) ∧
          ∀ (n37 : Nat) (w38 : World), New (.cells #[.slice r36_p r36_n r36_c] ty_sl_int) w35 n37 w38 →
          ∃ w39 : World, ∃ r40_p : Option Addr, ∃ r40_n : Nat, ∃ r40_c : Nat, (Builtin.append_ #[ty_sl_sl_int, ty_sl_sl_int] ty_sl_sl_int #[.slice x32_p x32_n x32_c, .slice (some (Addr.mk n37 0 none)) 1 1]).run Try.prog w38 = .ok (.slice r40_p r40_n r40_c) w39 ∧
          ∃ w41 : World, StoreAt ((Addr.mk n15 0 none).add 1) 0 [.slice r40_p r40_n r40_c] w39 w41 ∧ R w41) ∧
        (Calls Try.prog slices_Clone_int_int.id #[.slice y.p y.n y.c] W fun e w42 => ∃ r43_p : Option Addr, ∃ r43_n : Nat, ∃ r43_c : Nat, e = .returned (.slice r43_p r43_n r43_c) ∧
          (∃ x44_p : Option Addr, ∃ x44_n : Nat, ∃ x44_c : Nat, w42.cell? ((Addr.mk n15 0 none).add 1) = some (.slice x44_p x44_n x44_c) ∧
          Calls Try.prog slices_DeleteFunc_int_int.id #[.slice r43_p r43_n r43_c, .func (.func lit_Given_1.id) #[] #[.pointer (some (Addr.mk n3 0 none))]] w42 fun e w45 => ∃ r46_p : Option Addr, ∃ r46_n : Nat, ∃ r46_c : Nat, e = .returned (.slice r46_p r46_n r46_c) ∧
          ∀ (n47 : Nat) (w48 : World), New (.cells #[.slice r46_p r46_n r46_c] ty_sl_int) w45 n47 w48 →
          ∃ w49 : World, ∃ r50_p : Option Addr, ∃ r50_n : Nat, ∃ r50_c : Nat, (Builtin.append_ #[ty_sl_sl_int, ty_sl_sl_int] ty_sl_sl_int #[.slice x44_p x44_n x44_c, .slice (some (Addr.mk n47 0 none)) 1 1]).run Try.prog w48 = .ok (.slice r50_p r50_n r50_c) w49 ∧
          ∃ w51 : World, StoreAt ((Addr.mk n15 0 none).add 1) 0 [.slice r50_p r50_n r50_c] w49 w51 ∧ R w51) ∧
        (Calls Try.prog slices_DeleteFunc_int_int.id #[.slice r43_p r43_n r43_c, .func (.func lit_Given_1.id) #[] #[.pointer (some (Addr.mk n3 0 none))]] w42 fun e w52 => ∃ r53_p : Option Addr, ∃ r53_n : Nat, ∃ r53_c : Nat, e = .returned (.slice r53_p r53_n r53_c) ∧
          (∃ x54_p : Option Addr, ∃ x54_n : Nat, ∃ x54_c : Nat, w52.cell? ((Addr.mk n15 0 none).add 1) = some (.slice x54_p x54_n x54_c) ∧
          ∀ (n55 : Nat) (w56 : World), New (.cells #[.slice r53_p r53_n r53_c] ty_sl_int) w52 n55 w56 →
          ∃ w57 : World, ∃ r58_p : Option Addr, ∃ r58_n : Nat, ∃ r58_c : Nat, (Builtin.append_ #[ty_sl_sl_int, ty_sl_sl_int] ty_sl_sl_int #[.slice x54_p x54_n x54_c, .slice (some (Addr.mk n55 0 none)) 1 1]).run Try.prog w56 = .ok (.slice r58_p r58_n r58_c) w57 ∧
          ∃ w59 : World, StoreAt ((Addr.mk n15 0 none).add 1) 0 [.slice r58_p r58_n r58_c] w57 w59 ∧ R w59) ∧
        (∀ (n60 : Nat) (w61 : World), New (.cells #[.slice r53_p r53_n r53_c] ty_sl_int) w52 n60 w61 →
          ∃ x62_p : Option Addr, ∃ x62_n : Nat, ∃ x62_c : Nat, w61.cell? ((Addr.mk n15 0 none).add 1) = some (.slice x62_p x62_n x62_c) ∧
          ∃ w63 : World, ∃ r64_p : Option Addr, ∃ r64_n : Nat, ∃ r64_c : Nat, (Builtin.append_ #[ty_sl_sl_int, ty_sl_sl_int] ty_sl_sl_int #[.slice x62_p x62_n x62_c, .slice (some (Addr.mk n60 0 none)) 1 1]).run Try.prog w61 = .ok (.slice r64_p r64_n r64_c) w63 ∧
          ∃ w65 : World, StoreAt ((Addr.mk n15 0 none).add 1) 0 [.slice r64_p r64_n r64_c] w63 w65 ∧ R w65))) := by
      intro W gW hgo R hR
      have TW := T.grow gW
      rw [if_neg (by rw [hgo]; exact Bool.false_ne_true)] at gs
      have put : ∀ {w2 : World} {qq : Option Addr} {dd : Nat} {row : List Int}, row = ((cs.getD t []).filter fun y => !(litB x && (y == -x))) → Out w6 w2 n15 k P C hs (givP x (cs.take t)) → OwI ty_int w2 qq dd row → (∀ b, blk qq = some b → w6.heap.size ≤ b ∧ b ≠ n15 ∧ ¬ OV.foot P hs b) → row.length ≤ maxLen →
          ∀ (n1 : Nat) (w1 : World), New (.cells #[.slice qq row.length dd] ty_sl_int) w2 n1 w1 → ∃ w2 : World, ∃ (P' : Option Addr) (N' C' : Nat), (Builtin.append_ #[ty_sl_sl_int, ty_sl_sl_int] ty_sl_sl_int #[.slice P hs.length C, .slice (some (Addr.mk n1 0 none)) 1 1]).run Try.prog w1 = .ok (.slice P' N' C') w2 ∧
            ∃ w3 : World, StoreAt ((Addr.mk n15 0 none).add 1) 0 [.slice P' N' C'] w2 w3 ∧ R w3 := by
        intro w2 qq dd row hrow t2 r2 rq2 hl2
        refine t2.put r2 rq2 (by omega) hl2 fun w' P' C' hs' t' _ => hR w' ⟨_, ?_, t + 1, P', C', hs', wN (by omega) (by omega), by omega, rfl, ?_⟩
        · omega
        · rw [gs, ← hrow]; exact t'
      have cd := fun (K : Ending → World → Prop) => cd_ok (K := K) TW hx (H3' TW.G) (v.grow gW) y1 (c := y.c) (by omega)
      refine ⟨⟨_, _, _, cell_add TW.H rfl, cd _ fun w1 qq dd t1 o1 g1 f1 D => ⟨_, _, _, rfl, D.mono ?_⟩⟩, cd _ fun w1 qq dd t1 o1 g1 f1 D => ⟨_, _, _, rfl, ⟨_, _, _, cell_add t1.H rfl, D.mono ?_⟩, D.mono ?_⟩⟩
      · rintro e w2 ⟨row, hrow, rfl, t2, r2, g2, rq2, hl2⟩
        exact ⟨_, _, _, rfl, put hrow t2 r2 rq2 hl2⟩
      · rintro e w2 ⟨row, hrow, rfl, t2, r2, g2, rq2, hl2⟩
        exact ⟨_, _, _, rfl, put hrow t2 r2 rq2 hl2⟩
      · rintro e w2 ⟨row, hrow, rfl, t2, r2, g2, rq2, hl2⟩
        exact ⟨_, _, _, rfl, ⟨_, _, _, cell_add t2.H rfl, put hrow t2 r2 rq2 hl2⟩, fun n1 w1 h1 => ⟨_, _, _, cell_add (t2.H.grow h1.mod) rfl, put hrow t2 r2 rq2 hl2 n1 w1 h1⟩⟩
    refine ⟨_, cell_of (H3' T.G) rfl, (is_ok1 x w23).mono ?_⟩
    rintro e w27 ⟨rfl, g27⟩
    have T27 := T.grow g27
    refine ⟨_, rfl, cnd_i (fun r => ?_) (fun r => ?_)⟩
    · refine ⟨_, cell_of (H3' T27.G) rfl, (contains_ok (v.grow g27) y1 (by unfold maxLen; omega) x).mono ?_⟩
      rintro e w30 ⟨rfl, g30⟩
      refine ⟨_, rfl, cnd_i (fun r2 => ⟨_, ?_, t + 1, P, C, hs, wN (by omega) (by omega), by omega, rfl, ?_⟩) (fun r2 => br w30.drew (g27.trans g30).drew (by rw [r2]; simp) _ fun w' h => h)⟩
      · omega
      · rw [gs, r, r2]
        simp only [Bool.and_self, if_true, List.append_nil]
        exact T27.grow g30
    · exact br w27.drew g27.drew (by rw [r]; rfl) _ fun w' h => h
  · have s : t = cs.length := by simp at s; omega
    subst s
    rw [List.take_length] at T hh hgl
    refine ⟨_, _, _, _, cnfCells T.H, ?_⟩
    have h5w : Has w23 n5 #[.int .i64 0, .slice none 0 0] := (H5.grow g6).grow T.G
    refine store_i h5w rfl rfl fun w24 H24 m24 => ⟨_, _, _, _, cnfCells H24, P, C, hs, givP x cs, k, by rw [hh], ?_, ?_, by unfold maxLen; omega, ?_⟩
    · exact (T.o.keep m24 fun b hb e => by have := (T.f b hb).1; omega).v2
    · exact (G6.trans T.G).then m24 fun b hb e => by omega
    · exact ⟨rfl, rfl⟩

theorem refGiven_ok {k : Int} {hs0 : List Sl} {cs : List (List Int)} {m d : Nat} (hc : V2 (Value.int .i64) w q hs0 cs) (hm : m = cs.length) (hcn : cnfB k cs = true) {x : Int} (hx : litB x = true) :
    Calls Try.prog fathomref01_Given.id #[.agg #[.int .i64 k, .slice q m d], .int .i64 x] w fun e w' => ∃ (P : Option Addr) (C : Nat) (hs : List Sl), e = .returned (.agg #[.int .i64 k, .slice P (givP x cs).length C]) ∧ V2 (Value.int .i64) w' P hs (givP x cs) ∧ Grow w w' := by
  refine fathomref01_Given.calls ?_
  have hcl : cs.length ≤ 262144 ∧ ∀ c ∈ cs, clB c = true := by
    unfold cnfB at hcn
    simp only [Bool.and_eq_true, decide_eq_true_eq, List.all_eq_true] at hcn
    exact ⟨hcn.1.2.2, fun c hc => (hcn.2 c hc).1⟩
  have hxb := litB_bd hx
  have ew : IntKind.i64.wrap (0 - x) = -x := by rw [wrap64_of (by omega) (by omega)]; omega
  intro n1 w1 h1 n3 w3 h3
  have e1 := h1.num; have e3 := h3.num
  have z1 := h1.size; have z3 := h3.size
  have G3 := h1.mod.trans h3.mod
  have H1 := h1.has.old h3
  have H3 := h3.has
  refine ⟨_, cell_add H1 rfl, ?_⟩
  intro n15 w15 h15
  have e15 := h15.num
  refine store_i h15.has rfl rfl fun w17 H17 m17 => ?_
  have z17 := m17.size
  have z15 := h15.size
  have g17 : Grow w3 w17 := h15.mod.fresh m17 (by omega)
  have t17 : Out w3 w17 n15 k none 0 [] [] := ⟨OV.nil, H17, g17, fun b hb => absurd hb foot_nil, by omega⟩
  refine ⟨fun I w' k2 => ∃ (t : Nat) (P : Option Addr) (C : Nat) (hs : List Sl), I = t ∧ t ≤ cs.length ∧ k2 = cs.length - t ∧ Out w3 w' n15 k P C hs (givP x (cs.take t)), ⟨_, 0, none, 0, [], rfl, Nat.zero_le _, rfl, by rw [givP_nil]; exact t17⟩, ?_⟩
  rintro I w23 k2 _ ⟨t, P, C, hs, rfl, ht, rfl, T⟩
  have hh : hs.length = (givP x (cs.take t)).length := T.o.v.n
  have hgl := givP_len x (cs.take t)
  rw [List.length_take] at hgl
  have H1' : ∀ {w' : World}, Grow w3 w' → Has w' n1 #[.int .i64 k, .slice q m d] := fun g => H1.grow g
  refine ⟨_, _, _, cell_add (H1' T.G) rfl, cnd_i (fun s => ?_) (fun s => ?_)⟩
  · have s : t < cs.length := by simp at s; omega
    have gs := givP_succ (l := x) s
    refine ⟨_, _, _, cell_add (H1' T.G) rfl, row_ix (hc.grow (G3.trans T.G)) hm s fun a y e y1 y2 v _ => ⟨_, _, _, e, ?_⟩⟩
    have hcc := hcl.2 (cs.getD t []) (by simp [List.getD, s])
    have hy := (clB_all hcc).2
    refine (has_ok v y1 y2 x).mono ?_
    rintro e w24 ⟨rfl, g24⟩
    have T24 := T.grow g24
    refine ⟨_, rfl, cnd_i (fun r => ?_) (fun r => ⟨_, ?_, t + 1, P, C, hs, wN (by omega) (by omega), by omega, rfl, ?_⟩)⟩
    · have r : decide (x ∈ cs.getD t []) = false := by simpa using r
      rw [r, Bool.and_false, if_neg Bool.false_ne_true] at gs
      have hwo : wo (cs.getD t []) (-x) = (cs.getD t []).filter fun y => !(litB x && (y == -x)) := by
        unfold wo
        congr 1
        funext y
        rw [hx, Bool.true_and]; rfl
      have TW := T24.grow ((Mod.refl w24).drew)
      refine ⟨_, _, _, cell_add (H1' TW.G) rfl, row_ix (hc.grow (G3.trans TW.G)) hm s fun a y e y1 y2 v _ => ⟨_, _, _, e, ?_⟩⟩
      rw [ew]
      have ft := TW.o.lt
      have nbl := TW.H.lt
      have szg := TW.G.size
      have put : ∀ {w2 : World} {qq : Option Addr} {dd : Nat}, OwI ty_int w2 qq dd (wo (cs.getD t []) (-x)) → Grow w24.drew w2 → (∀ b, blk qq = some b → w24.drew.heap.size ≤ b) →
          ∀ (n1 : Nat) (w1 : World), New (.cells #[.slice qq (wo (cs.getD t []) (-x)).length dd] ty_sl_int) w2 n1 w1 → ∃ w2 : World, ∃ (P' : Option Addr) (N' C' : Nat), (Builtin.append_ #[ty_sl_sl_int, ty_sl_sl_int] ty_sl_sl_int #[.slice P hs.length C, .slice (some (Addr.mk n1 0 none)) 1 1]).run Try.prog w1 = .ok (.slice P' N' C') w2 ∧
            ∃ w3_1 : World, StoreAt ((Addr.mk n15 0 none).add 1) 0 [.slice P' N' C'] w2 w3_1 ∧ ∃ k11, k11 < cs.length - t ∧ ∃ (t2 : Nat) (P : Option Addr) (C : Nat) (hs : List Sl), IntKind.i64.wrap ((t : Int) + 1) = t2 ∧ t2 ≤ cs.length ∧ k11 = cs.length - t2 ∧ Out w3 w3_1 n15 k P C hs (givP x (cs.take t2)) := by
        intro w2 qq dd r2 g2 f2
        refine (TW.grow g2).put r2 (fun b hb => ?_) (by omega) (by have := wo_len (l := cs.getD t []) (x := -x); unfold maxLen; omega) fun w' P' C' hs' t' _ => ⟨_, ?_, t + 1, P', C', hs', wN (by omega) (by omega), by omega, rfl, ?_⟩
        · have := f2 b hb
          exact ⟨by omega, by omega, fun h => by have := ft b h; omega⟩
        · omega
        · rw [gs, ← hwo]; exact t'
      refine ⟨⟨_, _, _, cell_add TW.H rfl, (without_ok v y1 (by omega) (-x)).mono ?_⟩, (without_ok v y1 (by omega) (-x)).mono ?_⟩
      · rintro e w2 ⟨qq, dd, rfl, o2, g2, f2⟩
        exact ⟨_, _, _, rfl, put o2 g2 f2⟩
      · rintro e w2 ⟨qq, dd, rfl, o2, g2, f2⟩
        exact ⟨_, _, _, rfl, ⟨_, _, _, cell_add (TW.grow g2).H rfl, put o2 g2 f2⟩, fun n1 w1 h1 => ⟨_, _, _, cell_add ((TW.grow g2).H.grow h1.mod) rfl, put o2 g2 f2 n1 w1 h1⟩⟩
    · omega
    · have r : decide (x ∈ cs.getD t []) = true := by simpa using r
      rw [gs, hx, r]
      simp only [Bool.and_self, if_true, List.append_nil]
      exact T24
  · have s : t = cs.length := by simp at s; omega
    subst s
    rw [List.take_length] at T hh hgl
    refine ⟨_, _, _, _, cnfCells T.H, ?_⟩
    refine store_i (H3.grow T.G) rfl rfl fun w24 H24 m24 => ⟨_, _, _, _, cnfCells H24, P, C, hs, by rw [hh], ?_, ?_⟩
    · exact (T.o.keep m24 fun b hb e => by have := (T.f b hb).1; omega).v2
    · exact (G3.trans T.G).then m24 fun b hb e => by omega
end Go.Proofs.Ytlpmapeojecenaa.W
