/- Layers 16 and 17: sums of words, and how many literals are true. -/
import Derived.Test.YtambabpklfeaoaaVec1
namespace Go.Proofs.Ytambabpklfeaoaa.W
open Go Go.Fw Go.RowKit Go.TsP Go.AgP Go.Luby
variable {w w' w2 : World} {b : Nat} {x y z : AG} {p q : Option Addr} {n m c d : Nat}

theorem vec1_ok {k : Nat} (h : AM w b x) (H : Has w k #[ptr b]) (l : Int) :
    Calls Try.prog vec_Check_1.id #[.int .i64 l, .pointer (some ⟨k, 0, none⟩)] w fun e w' => e = .returned (.bool (!isL x.g.length l)) ∧ Grow w w' := by
  refine vec_Check_1.calls ?_
  refine ⟨_, cell_of H rfl, (aigIs_ok h.a h.len l).mono ?_⟩
  rintro e w2 ⟨rfl, g⟩
  exact ⟨_, rfl, rfl, g⟩
theorem vec1_ent : entB Try.prog vec_Check_1.id = true := by kernel_rfl
theorem card1_ok {k : Nat} (h : AM w b x) (H : Has w k #[ptr b]) (l : Int) :
    Calls Try.prog card_may_1.id #[.int .i64 l, .pointer (some ⟨k, 0, none⟩)] w fun e w' => e = .returned (.bool (!isL x.g.length l)) ∧ Grow w w' := by
  refine card_may_1.calls ?_
  refine ⟨_, cell_of H rfl, (aigIs_ok h.a h.len l).mono ?_⟩
  rintro e w2 ⟨rfl, g⟩
  exact ⟨_, rfl, rfl, g⟩
theorem card1_ent : entB Try.prog card_may_1.id = true := by kernel_rfl
theorem allL_all {N : Nat} {A : List Int} (h : allL N A) : A.all (isL N) = true := List.all_eq_true.2 h

theorem vecCheck_ok (h : AM w b x) {A : List Int} (hA : Vw (Value.int .i64) w p A) (la : n = A.length) (h1 : 1 ≤ A.length) (h2 : A.length ≤ 16) (aA : allL x.g.length A) :
    Calls Try.prog vec_Check.id #[ptr b, .slice p n c] w fun e w' => e = .returned (.int .i64 0) ∧ Grow w w' := by
  refine vec_Check.calls ?_
  intro n1 w2 h2'
  have G := h2'.mod
  refine cnd_f (decide_eq_false (by omega)) (cnd_f (decide_eq_false (by omega)) ?_)
  refine (containsFunc_ok (hA.grow G) la (by unfold maxLen; omega) vec1_ent (fun l => !isL x.g.length l) fun l _ w' g' => ?_).mono ?_
  · rw [argsR]
    exact vec1_ok ((h.grow G).grow g') (h2'.has.grow g') l
  · rintro e w3 ⟨rfl, g3⟩
    rw [any_nisR, allL_all aA]
    exact ⟨_, rfl, rfl, G.trans g3⟩

theorem pair_ok (h : AM w b x) {A B : List Int} (hA : Vw (Value.int .i64) w p A) (hB : Vw (Value.int .i64) w q B) (la : n = A.length) (lb : m = B.length) (hlen : A.length = B.length) (h1 : 1 ≤ A.length) (h2 : A.length ≤ 16) (aA : allL x.g.length A) (aB : allL x.g.length B) :
    Calls Try.prog vec_pair.id #[ptr b, .slice p n c, .slice q m d] w fun e w' => e = .returned (.bool true) ∧ Grow w w' := by
  refine vec_pair.calls ?_
  refine cnd_t (beq_iff_eq.2 (by omega)) ((vecCheck_ok h hA la h1 h2 aA).mono ?_)
  rintro e w1 ⟨rfl, g1⟩
  refine ⟨_, rfl, cnd_t rfl ((vecCheck_ok (h.grow g1) (hB.grow g1) lb (by omega) (by omega) aB).mono ?_)⟩
  rintro e w3 ⟨rfl, g3⟩
  exact ⟨_, rfl, rfl, g1.trans g3⟩

theorem whole_ok {A : List Int} (hA : Vw (Value.int .i64) w p A) (la : n = A.length) (hx : n ≤ maxLen) {N : Nat} (aA : allL N A) :
    Calls Try.prog vec_whole.id #[.slice p n c] w fun e w' => e = .returned (.slice p n c) ∧ Grow w w' := by
  refine vec_whole.calls ?_
  refine (contains_ok hA la hx (-1)).mono ?_
  rintro e w1 ⟨rfl, g1⟩
  refine ⟨_, rfl, cnd_f (decide_eq_false fun e => ?_) ⟨rfl, g1⟩⟩
  have := isL_bd (aA _ e)
  omega

/-- What made a word. -/
structure WordR (w : World) (b : Nat) (x : AG) (k : Nat) (u : World) (y : AG) (P : Option Addr) (D : Nat) (out : List Int) : Prop where
  aft : Aft w u b x y
  e : Ext x.g y.g k
  o : OwI ty_int u P D out
  fr : ∀ j, blk P = some j → w.heap.size ≤ j ∧ ¬ y.fm b j
  all : allL y.g.length out
theorem WordR.sp {k D : Nat} {u : World} {P : Option Addr} {out : List Int} (h : WordR w b x k u y P D out) : Sp u b y P := fun j hj => ⟨(h.fr j hj).2, h.o.lt j hj⟩
theorem WordR.grow {k D : Nat} {u u' : World} {P : Option Addr} {out : List Int} (h : WordR w b x k u y P D out) (g : Grow u u') : WordR w b x k u' y P D out := ⟨h.aft.grow g, h.e, h.o.grow g, h.fr, h.all⟩
theorem WordR.pre {w0 : World} {k D : Nat} {u : World} {P : Option Addr} {out : List Int} (g : Grow w0 w) (h : WordR w b x k u y P D out) : WordR w0 b x k u y P D out := ⟨h.aft.pre g, h.e, h.o, fun j hj => ⟨Nat.le_trans g.size (h.fr j hj).1, (h.fr j hj).2⟩, h.all⟩

theorem vecAdd_ok (h : AM w b x) {A B : List Int} (hA : Vw (Value.int .i64) w p A) (hB : Vw (Value.int .i64) w q B) (sa : Sp w b x p) (sb : Sp w b x q) (la : n = A.length) (lb : m = B.length) (hlen : A.length = B.length) (h1 : 1 ≤ A.length) (h2 : A.length ≤ 16)
    (hb : x.g.length + 144 ≤ 1048576) (aA : allL x.g.length A) (aB : allL x.g.length B) :
    Calls Try.prog vec_Add.id #[ptr b, .slice p n c, .slice q m d] w fun e w' => ∃ (P : Option Addr) (D : Nat) (out : List Int) (y : AG), e = .returned (.slice P out.length D) ∧ WordR w b x 144 w' y P D out ∧ out.length = A.length ∧
      ∀ ins, numL x.g ins A + numL x.g ins B < 2 ^ A.length → numL y.g ins out = numL x.g ins A + numL x.g ins B := by
  refine vec_Add.calls ?_
  refine (pair_ok h hA hB la lb hlen h1 h2 aA aB).mono ?_
  rintro e w1 ⟨rfl, g1⟩
  refine ⟨_, rfl, cnd_f rfl ((sum_ok (h.grow g1) (hA.grow g1) (hB.grow g1) (sa.grow g1) (sb.grow g1) la lb hlen (by omega) aA aB (c0 := 0) (isL_of (by omega) (by omega))).mono ?_)⟩
  rintro e w3 ⟨P, D, out, c', y, rfl, S⟩
  refine ⟨_, _, _, _, rfl, (whole_ok S.o.vw rfl (by have := S.len; unfold maxLen; omega) S.all).mono ?_⟩
  rintro e w6 ⟨rfl, g6⟩
  refine ⟨_, _, _, rfl, P, D, out, y, rfl, ⟨(S.aft.pre g1).grow g6, S.e.mono (by omega), S.o.grow g6, fun j hj => ⟨Nat.le_trans g1.size (S.fr j hj).1, (S.fr j hj).2⟩, S.all⟩, S.len, fun ins hlt => ?_⟩
  have hn := S.num ins
  rw [List.take_length, hlen, List.take_length, ← hlen, truth_lt (l := 0) (by omega)] at hn
  have h0 : ((0 : Int) == 1).toNat = 0 := rfl
  rw [h0] at hn
  cases ht : truth y.g ins c' with
  | false => rw [ht] at hn; simp at hn; omega
  | true => rw [ht] at hn; simp at hn; omega

theorem enough_ok (n : Nat) (hn : n ≤ 64) (w : World) : Calls Try.prog card_Enough.id #[.int .i64 n] w fun e w' => e = .returned (.int .i64 (enuf n)) ∧ Grow w w' := by
  refine card_Enough.calls ?_
  refine cnd_f (decide_eq_false (by omega)) (cnd_f (decide_eq_false (by omega)) ?_)
  rw [wrapU64_of (by omega) (by omega)]
  refine (len_spec n (by omega) w).mono ?_
  rintro e w1 ⟨rfl, g1⟩
  refine ⟨_, rfl, ?_, g1.mod⟩
  unfold imax enuf
  congr 2
  by_cases e : bl n ≤ 1
  · rw [if_pos e, if_neg (by omega)]; rfl
  · rw [if_neg e, if_pos (by omega)]

theorem wide_ok {A : List Int} (o : OwI ty_int w p c A) (k : Nat) (hk : A.length ≤ k) (hx : k ≤ 64) :
    Calls Try.prog card_wide.id #[.slice p A.length c, .int .i64 k] w fun e w' => ∃ (P : Option Addr) (D : Nat), e = .returned (.slice P (A ++ List.replicate (k - A.length) 0).length D) ∧ OwI ty_int w' P D (A ++ List.replicate (k - A.length) 0) ∧ (∀ j, blk P = some j → blk p = some j ∨ w.heap.size ≤ j) ∧ Mod (fun j => blk p = some j) w w' := by
  refine card_wide.calls ?_
  refine ⟨fun P N D u z => ∃ t : Nat, t ≤ k - A.length ∧ z = k - A.length - t ∧ N = (A ++ List.replicate t 0).length ∧ OwI ty_int u P D (A ++ List.replicate t 0) ∧ (∀ j, blk P = some j → blk p = some j ∨ w.heap.size ≤ j) ∧ Mod (fun j => blk p = some j) w u, ⟨_, 0, Nat.zero_le _, rfl, by simp, by simpa using o, fun j hj => .inl hj, Mod.refl w⟩, ?_⟩
  rintro P N D u z _ ⟨t, ht, rfl, rfl, O, f, M⟩
  have hl : (A ++ List.replicate t (0 : Int)).length = A.length + t := by simp
  refine cnd_i (fun r => ?_) (fun r => ?_)
  · have r : t < k - A.length := by rw [hl] at r; simp at r; omega
    intro n6 w7 h7
    have s7 := h7.size
    have sw := M.size
    refine (O.grow h7.mod).app1 sl_int 0 h7.has rfl rfl oneInt (by omega) fun w8 p' c' o' m' hp' hs' => ?_
    have er : A ++ List.replicate (t + 1) (0 : Int) = (A ++ List.replicate t 0) ++ [0] := by rw [List.replicate_succ', List.append_assoc]
    refine ⟨_, ?_, t + 1, by omega, rfl, by rw [er, List.length_append (bs := [_])]; rfl, by rw [er]; exact o', fun j hj => ?_, (M.grow h7.mod).then m' fun j hj e => ?_⟩
    · omega
    · rcases hp' with rfl | rfl
      · exact f j hj
      · have := blk_some hj; right; omega
    · rcases f j e with e | e
      · exact e
      · omega
  · have r : t = k - A.length := by rw [hl] at r; simp at r; omega
    subst r
    exact ⟨_, _, rfl, O, f, M⟩

theorem numL_zeros (g : List Gt) (ins : List Bool) (A : List Int) : ∀ t, numL g ins (A ++ List.replicate t 0) = numL g ins A
  | 0 => by simp
  | t + 1 => by rw [List.replicate_succ', ← List.append_assoc, numL_zero, numL_zeros g ins A t]
theorem allL_zeros {N : Nat} (t : Nat) : allL N (List.replicate t 0) := fun l hl => by rw [(List.mem_replicate.1 hl).2]; exact isL_of (by omega) (by omega)

theorem count_ok : ∀ (N : Nat) {w : World} {x : AG} {p : Option Addr} {n c : Nat} {L : List Int}, L.length = N → AM w b x → Vw (Value.int .i64) w p L → Sp w b x p → n = L.length → n ≤ c → L.length ≤ 64 → x.g.length + 144 * L.length ≤ 1048576 → allL x.g.length L →
    Calls Try.prog card_count.id #[ptr b, .slice p n c] w fun e w' => ∃ (P : Option Addr) (D : Nat) (out : List Int) (y : AG), e = .returned (.slice P out.length D) ∧ WordR w b x (144 * (L.length - 1)) w' y P D out ∧ out.length = enuf L.length ∧ ∀ ins, numL y.g ins out = cntT x.g ins L := by
  intro N
  induction N using Nat.strongRecOn with
  | _ N ih =>
  intro w x p n c L hN h hL sp hn hc hl hb aL
  subst hN
  refine card_count.calls ?_
  have one : ∀ {l : Int} {n1 : Nat} {w2 : World}, New (.cells #[.int .i64 l] 3) w n1 w2 → isL x.g.length l = true → WordR w b x (144 * (L.length - 1)) w2 x (some ⟨n1, 0, none⟩) 1 [l] := fun {l n1 w2} h2 hl => by
    have e2 := h2.num
    refine ⟨.refl h h2.mod, .refl _ _, New.ow h2 rfl (by unfold maxLen; simp), fun j hj => ?_, allL.one hl⟩
    have := blk_some hj
    refine ⟨by omega, fun e => ?_⟩
    have := h.lt j e
    omega
  refine cnd_i (fun r => ?_) (fun r => cnd_i (fun r2 => ?_) (fun r2 => ?_))
  · have r : L = [] := List.eq_nil_of_length_eq_zero (by have := beq_iff_eq.1 r; omega)
    intro n1 w2 h2
    refine ⟨_, _, [0], x, rfl, one h2 (isL_of (by omega) (by omega)), by rw [r]; rfl, fun ins => ?_⟩
    rw [r]
    simp [numL, cntT, truth_lt]
  · have r2 : L.length = 1 := by have := beq_iff_eq.1 r2; omega
    refine hL.ix 0 (by omega) hn (by omega) fun a e => ⟨_, e, fun n5 w6 h6 => ?_⟩
    obtain ⟨l, rfl⟩ : ∃ l, L = [l] := by
      match L, r2 with
      | [l], _ => exact ⟨l, rfl⟩
    refine ⟨_, _, [l], x, rfl, one h6 (aL l (by simp)), rfl, fun ins => ?_⟩
    cases ht : truth x.g ins l <;> simp [numL, cntT, ht]
  · have r : L.length ≠ 0 := by have := beq_eq_false_iff_ne.1 r; omega
    have r2 : L.length ≠ 1 := by have := beq_eq_false_iff_ne.1 r2; omega
    rw [hn]
    refine (enough_ok L.length hl w).mono ?_
    rintro e w7 ⟨rfl, g7⟩
    have et : IntKind.i64.wrap (((L.length : Nat) : Int).tdiv 2) = ((L.length / 2 : Nat) : Int) := by
      rw [Int.tdiv_eq_ediv_of_nonneg (by omega), wrap64_of (by omega) (by omega)]; omega
    rw [et]
    generalize hh : L.length / 2 = k
    have G7 : Grow w w7.drew := g7.trans (Mod.refl w7).drew
    have ltk : (L.take k).length = k := by rw [List.length_take]; omega
    have ldk : (L.drop k).length = L.length - k := List.length_drop
    refine ⟨_, rfl, by decide, slK_i 0 k c rfl rfl rfl (Nat.le_refl _) (by omega) (Nat.zero_le _) ?_⟩
    have e0 : (if c = 0 then p else p.map (·.add (0 * 1))) = p := by
      have : p.map (·.add (0 * 1)) = p := by cases p <;> simp [Addr.add]
      rw [this, ite_self]
    rw [e0]
    have V7 := hL.grow G7
    have vt : Vw (Value.int .i64) w7.drew p (L.take k) := by
      have := V7.part (i := 0) (m := k) (by omega)
      rwa [show p.map (·.add (0 * 1)) = p by cases p <;> simp [Addr.add], List.drop_zero] at this
    refine (ih k (by omega) ltk (h.grow G7) vt (sp.grow G7) (n := k - 0) (c := c - 0) (by omega) (by omega) (by omega) (by omega) aL.take).mono ?_
    rintro e w10 ⟨P1, D1, o1, y1, rfl, W1, l1, num1⟩
    refine ⟨_, _, _, rfl, slK_i k L.length c rfl rfl rfl (Nat.le_refl _) (by omega) (by omega) ?_⟩
    have A1 := W1.aft.pre G7
    have sp1 : Sp w10 b y1 p := (sp.grow G7).aft W1.aft
    have n1 := W1.e.len
    have vd : Vw (Value.int .i64) w10 (if c = k then p else p.map (·.add (k * 1))) (L.drop k) := by
      by_cases e : c = k
      · have : L.drop k = [] := List.eq_nil_of_length_eq_zero (by omega)
        rw [this]; exact Vw.nil
      · rw [if_neg e]
        have := (Vw.aft V7 (sp.grow G7) W1.aft).part (i := k) (m := L.length - k) (by omega)
        rwa [List.take_of_length_le (by omega)] at this
    have spd : Sp w10 b y1 (if c = k then p else p.map (·.add (k * 1))) := by
      split
      · exact sp1
      · intro j hj
        refine sp1 j ?_
        cases p with
        | none => simp [blk] at hj
        | some a => simpa [blk, add_block] using hj
    rw [ltk] at W1
    have aLd : allL y1.g.length (L.drop k) := (aL.mono n1.1).drop
    refine (ih (L.length - k) (by omega) ldk A1.am vd spd ldk.symm (by omega) (by omega) (by rw [ldk]; have := W1.e.len; omega) aLd).mono ?_
    rintro e w13 ⟨P2, D2, o2, y2, rfl, W2, l2, num2⟩
    have n2 := W2.e.len
    rw [ldk] at W2 l2
    rw [ltk] at l1
    have spo1 := W1.sp
    have O1 := Ow.aft W1.o spo1 W2.aft
    have spo1' := spo1.aft W2.aft
    have hne1 : P1.isNone = false := by
      rcases W1.o.un with ⟨_, _, e⟩ | ⟨g, cur, e, _⟩
      · have := enuf_pos k
        rw [e] at l1; simp at l1; omega
      · rw [e]; rfl
    have hne2 : P2.isNone = false := by
      rcases W2.o.un with ⟨_, _, e⟩ | ⟨g, cur, e, _⟩
      · have := enuf_pos (L.length - k)
        rw [e] at l2; simp at l2; omega
      · rw [e]; rfl
    refine ⟨_, _, _, rfl, cnd_f hne1 (cnd_f hne2 ?_)⟩
    have em1 : enuf k ≤ enuf L.length := enuf_mono (by omega)
    have em2 : enuf (L.length - k) ≤ enuf L.length := enuf_mono (by omega)
    have en := enuf_le hl
    have en1 := enuf_pos L.length
    have z7 := G7.size
    have z1 := W1.aft.mod.size
    have z2 := W2.aft.mod.size
    have A2 := A1.trans W2.aft
    have b1 : ∀ j, blk P1 = some j → j < w10.heap.size := W1.o.lt
    have b2 : ∀ j, blk P2 = some j → w10.heap.size ≤ j ∧ j < w13.heap.size := fun j hj => ⟨(W2.fr j hj).1, W2.o.lt j hj⟩
    have f1 : ∀ j, blk P1 = some j → w.heap.size ≤ j ∧ ¬ y2.fm b j := fun j hj => ⟨by have := (W1.fr j hj).1; omega, (spo1' j hj).1⟩
    have f2 : ∀ j, blk P2 = some j → w.heap.size ≤ j ∧ ¬ y2.fm b j := fun j hj => ⟨by have := (W2.fr j hj).1; omega, (W2.fr j hj).2⟩
    refine (wide_ok O1 (enuf L.length) (by omega) (by omega)).mono ?_
    rintro e w15 ⟨R1, C1, rfl, OR1, fr1, m15⟩
    have A3 := A2.fresh m15 f1
    have O2 := W2.o.keep m15 fun j hj e => by have := b1 j e; have := (b2 j hj).1; omega
    refine ⟨_, _, _, rfl, (wide_ok O2 (enuf L.length) (by omega) (by omega)).mono ?_⟩
    rintro e w17 ⟨R2, C2, rfl, OR2, fr2, m17⟩
    have A4 := A3.fresh m17 f2
    have z15 := m15.size
    have z17 := m17.size
    have OR1' := OR1.keep m17 fun j hj e => by
      have := b2 j e
      rcases fr1 j hj with e1 | e1
      · have := b1 j e1; omega
      · omega
    have fresh : ∀ j, w13.heap.size ≤ j → ¬ y2.fm b j := fun j hj e => by have := W2.aft.am.lt j e; omega
    have s1 : Sp w17 b y2 R1 := fun j hj => ⟨by
      rcases fr1 j hj with e1 | e1
      · exact (f1 j e1).2
      · exact fresh j e1, OR1'.lt j hj⟩
    have s2 : Sp w17 b y2 R2 := fun j hj => ⟨by
      rcases fr2 j hj with e1 | e1
      · exact (f2 j e1).2
      · exact fresh j (by omega), OR2.lt j hj⟩
    have lr1 : (o1 ++ List.replicate (enuf L.length - o1.length) (0 : Int)).length = enuf L.length := by simp; omega
    have lr2 : (o2 ++ List.replicate (enuf L.length - o2.length) (0 : Int)).length = enuf L.length := by simp; omega
    refine ⟨_, _, _, rfl, (vecAdd_ok A4.am OR1'.vw OR2.vw s1 s2 rfl rfl (by omega) (by omega) (by omega) (by omega) ((W1.all.mono n2.1).app (allL_zeros _)) (W2.all.app (allL_zeros _))).mono ?_⟩
    rintro e w19 ⟨P3, D3, o3, y3, rfl, W3, l3, num3⟩
    refine ⟨_, _, _, rfl, P3, D3, o3, y3, rfl, ⟨A4.trans W3.aft, ((W1.e.trans W2.e).trans W3.e).mono (by omega), W3.o, fun j hj => ⟨by have := (W3.fr j hj).1; omega, (W3.fr j hj).2⟩, W3.all⟩, by omega, fun ins => ?_⟩
    have q1 : numL y2.g ins (o1 ++ List.replicate (enuf L.length - o1.length) 0) = cntT x.g ins (L.take k) := by rw [numL_zeros, numL_ext W2.e W1.all, num1 ins]
    have q2 : numL y2.g ins (o2 ++ List.replicate (enuf L.length - o2.length) 0) = cntT x.g ins (L.drop k) := by rw [numL_zeros, num2 ins, cntT_ext W1.e aL.drop]
    have q3 := cntT_half x.g ins L k
    have q4 := cntT_le x.g ins L
    have q5 := enuf_lt L.length
    have q6 := num3 ins
    rw [q1, q2, q3, lr1] at q6
    exact q6 (by omega)

theorem cardCount_ok {L : List Int} (h : AM w b x) (hL : Vw (Value.int .i64) w p L) (sp : Sp w b x p) (hn : n = L.length) (hc : n ≤ c) (hl : L.length ≤ 64) (hb : x.g.length + 144 * L.length ≤ 1048576) (aL : allL x.g.length L) :
    Calls Try.prog card_Count.id #[ptr b, .slice p n c] w fun e w' => ∃ (P : Option Addr) (D : Nat) (out : List Int) (y : AG), e = .returned (.slice P out.length D) ∧ WordR w b x (144 * (L.length - 1)) w' y P D out ∧ out.length = enuf L.length ∧ ∀ ins, numL y.g ins out = cntT x.g ins L := by
  refine card_Count.calls ?_
  have may : Calls Try.prog card_may.id #[ptr b, .slice p n c] w fun e w' => e = .returned (.bool true) ∧ Grow w w' := by
    refine card_may.calls ?_
    intro n1 w2 h2
    have G := h2.mod
    refine ⟨_, cell_of h2.has rfl, (aigIs_ok (h.grow G).a h.len 0).mono ?_⟩
    rintro e w4 ⟨rfl, g4⟩
    have G4 := G.trans g4
    refine ⟨_, rfl, cnd_t (decide_eq_true (by omega)) (cnd_t (decide_eq_true (by omega)) ?_)⟩
    refine (containsFunc_ok (hL.grow G4) hn (by unfold maxLen; omega) card1_ent (fun l => !isL x.g.length l) fun l _ w' g' => ?_).mono ?_
    · rw [argsR]
      exact card1_ok ((h.grow G4).grow g') ((h2.has.grow g4).grow g') l
    · rintro e w6 ⟨rfl, g6⟩
      rw [any_nisR, allL_all aL]
      exact ⟨_, rfl, rfl, G4.trans g6⟩
  refine may.mono ?_
  rintro e w1 ⟨rfl, g1⟩
  refine ⟨_, rfl, cnd_f rfl ((count_ok _ rfl (h.grow g1) (hL.grow g1) (sp.grow g1) hn hc hl hb aL).mono ?_)⟩
  rintro e w3 ⟨P, D, out, y, rfl, W, l, num⟩
  exact ⟨_, _, _, rfl, P, D, out, y, rfl, W.pre g1, l, num⟩
end Go.Proofs.Ytambabpklfeaoaa.W
