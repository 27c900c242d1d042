/- Layer 13: which learned clauses stay, and in which order they are. -/
import Derived.Test.YtlpmapeojecenaaSort5
import Derived.Test.YtlpmapeojecenaaRedPure
import Derived.Test.YtlpmapeojecenaaFwSq
import Derived.Test.YtlpmapeojecenaaFwRows
import Derived.Test.YtlpmapeojecenaaFwOv
namespace Go.Proofs.Ytlpmapeojecenaa.W
open Go Go.Fw Go.RowKit Go.SoP Go.RedP

abbrev lrV (x : Lr) : List Value := [.int .i64 x.1, .int .i64 x.2.1, .bool x.2.2]
theorem lrE : Enc 3 lrV := ⟨fun _ => rfl, by decide, fun x v hv => by simp [lrV] at hv; rcases hv with rfl | rfl | rfl <;> rfl⟩
theorem sl_int : slOk Try.prog ty_sl_int ty_int 8 = true := by kernel_rfl
theorem sl_bool : slOk Try.prog ty_sl_bool ty_bool 1 = true := by kernel_rfl
theorem int_zero : (Try.prog.info? ty_int).bind (·.zero) = some (.int .i64 0) := by kernel_rfl
theorem bool_zero : (Try.prog.info? ty_bool).bind (·.zero) = some (.bool false) := by kernel_rfl

variable {w : World} {p : Option Addr} {n c : Nat} {l : List Lr}

/-- One learned clause is looked at. -/
theorem lIx (h : Vr 3 lrV w p l) (hn : n = l.length) {X : Int} {x : Int} (e : X = x) (h0 : 0 ≤ x) (h1 : x < l.length) {K : Addr → Prop}
    (hk : ∀ a, CellsAt w a 0 (lrV (nth l x)) → K a) : ixK p n X 3 K := by
  subst e
  exact h.ix (0, 0, false) h0 hn (by omega) hk
theorem lcells {a : Addr} {x : Lr} (h : CellsAt w a 0 (lrV x)) : w.cell? (a.add 0) = some (.int .i64 x.1) ∧ w.cell? (a.add 1) = some (.int .i64 x.2.1) ∧ w.cell? (a.add 2) = some (.bool x.2.2) := ⟨h.1, h.2.1, h.2.2.1⟩

theorem Must13_ok (x : Lr) (w : World) : Calls Try.prog fathomref13_Must.id #[.agg #[.int .i64 x.1, .int .i64 x.2.1, .bool x.2.2]] w fun e w' => e = .returned (.bool (must x)) ∧ Grow w w' := by
  refine fathomref13_Must.calls ?_
  intro n1 w2 h1
  refine ⟨_, cell_add h1.has rfl, cnd_i (fun q => ⟨?_, h1.mod⟩) (fun q => ⟨_, cell_add h1.has rfl, ?_, h1.mod⟩)⟩
  · unfold must; rw [q]; rfl
  · unfold must; rw [q]; rfl
theorem must_ok (x : Lr) (w : World) : Calls Try.prog reduce_must.id #[.agg #[.int .i64 x.1, .int .i64 x.2.1, .bool x.2.2]] w fun e w' => e = .returned (.bool (must x)) ∧ Grow w w' := by
  refine reduce_must.calls ?_
  intro n1 w2 h1
  refine ⟨_, cell_add h1.has rfl, cnd_i (fun q => ⟨?_, h1.mod⟩) (fun q => ⟨_, cell_add h1.has rfl, ?_, h1.mod⟩)⟩
  · unfold must; rw [q]; rfl
  · unfold must; rw [q]; rfl

theorem all_take {f : Lr → Bool} {t : Nat} (h : (l.take t).all f = true) (ht : t < l.length) (hx : f (nth l t) = true) : (l.take (t + 1)).all f = true := by
  rw [List.take_add_one, List.all_append, h]
  have : l[t]? = some (nth l t) := by simp [nth, List.getD, ht]
  rw [this]; simpa using hx
theorem all_bad {f : Lr → Bool} {t : Nat} (ht : t < l.length) (hx : f (nth l t) = false) : l.all f = false := by
  cases h : l.all f with
  | false => rfl
  | true =>
    have := List.all_eq_true.1 h (nth l t) (by simp [nth, List.getD, ht])
    rw [hx] at this; cases this

theorem May13_ok (h : Vr 3 lrV w p l) (hn : n = l.length) (hm : n ≤ maxLen) : Calls Try.prog fathomref13_May.id #[.slice p n c] w fun e w' => e = .returned (.bool (l.all okL)) ∧ Grow w w' := by
  refine fathomref13_May.calls ?_
  unfold maxLen at hm
  refine ⟨fun I w' k => ∃ t : Nat, I = t ∧ t ≤ l.length ∧ k = l.length - t ∧ (l.take t).all okL = true ∧ Grow w w', ⟨_, 0, rfl, Nat.zero_le _, rfl, rfl, Mod.refl w⟩, ?_⟩
  rintro I w1 k _ ⟨t, rfl, ht, rfl, ha, G⟩
  refine cnd_i (fun q => ?_) (fun q => ⟨?_, G⟩)
  · have q : t < l.length := by simp at q; omega
    have H := (h.grow G).drew
    have bad : okL (nth l t) = false → (Ending.returned (.bool false) = .returned (.bool (l.all okL)) ∧ Grow w w1.drew) := fun hb => by rw [all_bad q hb]; exact ⟨rfl, G.drew⟩
    unfold okL at bad
    refine lIx H hn (x := t) rfl (by omega) (by omega) fun a C => ⟨_, (lcells C).2.1, cnd_i (fun s => bad (by simp at s; simp; omega)) (fun s1 => ?_)⟩
    refine lIx H hn (x := t) rfl (by omega) (by omega) fun a C => ⟨_, (lcells C).2.1, cnd_i (fun s => bad (by simp at s; simp; omega)) (fun s2 => ?_)⟩
    refine lIx H hn (x := t) rfl (by omega) (by omega) fun a C => ⟨_, (lcells C).1, cnd_i (fun s => bad (by simp at s; simp; omega)) (fun s3 => ?_)⟩
    refine lIx H hn (x := t) rfl (by omega) (by omega) fun a C => ⟨_, (lcells C).1, ?_⟩
    refine lIx H hn (x := t) rfl (by omega) (by omega) fun a C => ⟨_, (lcells C).2.1, cnd_i (fun s => bad (by simp at s; simp; omega)) (fun s4 => ?_)⟩
    refine ⟨_, ?_, t + 1, ?_, by omega, rfl, all_take ha q ?_, G.drew⟩
    · omega
    · rw [wrap64_of (by omega) (by omega)]; omega
    · unfold okL
      simp only [decide_eq_false_iff_not] at s1 s2 s3 s4
      exact decide_eq_true (by omega)
  · have : t = l.length := by simp at q; omega
    subst this
    rw [List.take_length] at ha
    rw [ha]

theorem redCheck_ok (h : Vr 3 lrV w p l) (hn : n = l.length) (hm : n ≤ maxLen) : Calls Try.prog reduce_Check.id #[.slice p n c] w fun e w' => e = .returned (.int .i64 (if l.all okL then 0 else 1)) ∧ Grow w w' := by
  refine reduce_Check.calls ?_
  unfold maxLen at hm
  refine ⟨fun I w' k => ∃ t : Nat, I = t ∧ t ≤ l.length ∧ k = l.length - t ∧ (l.take t).all okL = true ∧ Grow w w', ⟨_, 0, rfl, Nat.zero_le _, rfl, rfl, Mod.refl w⟩, ?_⟩
  rintro I w1 k _ ⟨t, rfl, ht, rfl, ha, G⟩
  refine cnd_i (fun q => ?_) (fun q => ⟨?_, G⟩)
  · have q : t < l.length := by simp at q; omega
    have H := h.grow G
    refine lIx H hn (x := t) rfl (by omega) (by omega) fun a C => ⟨_, _, _, C, ?_⟩
    intro n1 w2 h2
    refine store_i h2.has rfl rfl fun w3 h3 m3 => ?_
    have g3 : Grow w w3 := G.trans (h2.mod.fresh m3 (by have := h2.num; omega))
    have h3 : Has w3 n1 #[.int .i64 (nth l t).1, .int .i64 (nth l t).2.1, .bool (nth l t).2.2] := h3
    have bad : okL (nth l t) = false → (Ending.returned (.int .i64 1) = .returned (.int .i64 (if l.all okL then 0 else 1)) ∧ Grow w w3) := fun hb => by rw [all_bad q hb]; exact ⟨rfl, g3⟩
    unfold okL at bad
    refine ⟨_, cell_add h3 rfl, cnd_i (fun s => bad (by simp at s; simp; omega)) (fun s1 => ?_)⟩
    refine ⟨_, cell_add h3 rfl, cnd_i (fun s => bad (by simp at s; simp; omega)) (fun s2 => ?_)⟩
    refine ⟨_, cell_add h3 rfl, cnd_i (fun s => bad (by simp at s; simp; omega)) (fun s3 => ?_)⟩
    refine ⟨_, cell_add h3 rfl, _, cell_add h3 rfl, cnd_i (fun s => bad (by simp at s; simp; omega)) (fun s4 => ?_)⟩
    refine ⟨_, ?_, t + 1, ?_, by omega, rfl, all_take ha q ?_, g3⟩
    · omega
    · rw [wrap64_of (by omega) (by omega)]; omega
    · unfold okL
      simp only [decide_eq_false_iff_not] at s1 s2 s3 s4
      exact decide_eq_true (by omega)
  · have : t = l.length := by simp at q; omega
    subst this
    rw [List.take_length] at ha
    rw [ha]; rfl

theorem Better_ok (h : Vr 3 lrV w p l) (hn : n = l.length) {x y : Int} (hx : 0 ≤ x ∧ x < l.length) (hy : 0 ≤ y ∧ y < l.length) :
    Calls Try.prog fathomref13_Better.id #[.slice p n c, .int .i64 x, .int .i64 y] w fun e w' => e = .returned (.bool (better l x y)) ∧ Grow w w' := by
  refine fathomref13_Better.calls ?_
  have G : Grow w w.drew := (Mod.refl w).drew
  refine lIx h.drew hn rfl hx.1 hx.2 fun a C => ⟨_, (lcells C).1, lIx h.drew hn rfl hy.1 hy.2 fun a D => ⟨_, (lcells D).1, cnd_i (fun q => ?_) (fun q => ?_)⟩⟩
  · have q : (nth l x).1 ≠ (nth l y).1 := by simpa using q
    refine lIx h.drew.drew hn rfl hx.1 hx.2 fun a C => ⟨_, (lcells C).1, lIx h.drew.drew hn rfl hy.1 hy.2 fun a D => ⟨_, (lcells D).1, ?_, G.drew⟩⟩
    unfold better
    rw [if_pos q]
  · have q : ¬ (nth l x).1 ≠ (nth l y).1 := by simpa using q
    refine lIx h.drew.drew hn rfl hx.1 hx.2 fun a C => ⟨_, (lcells C).2.1, lIx h.drew.drew hn rfl hy.1 hy.2 fun a D => ⟨_, (lcells D).2.1, cnd_i (fun q2 => ?_) (fun q2 => ⟨?_, G.drew⟩)⟩⟩
    · have q2 : (nth l x).2.1 ≠ (nth l y).2.1 := by simpa using q2
      refine lIx h.drew.drew.drew hn rfl hx.1 hx.2 fun a C => ⟨_, (lcells C).2.1, lIx h.drew.drew.drew hn rfl hy.1 hy.2 fun a D => ⟨_, (lcells D).2.1, ?_, G.drew.drew⟩⟩
      unfold better
      rw [if_neg q, if_pos q2]
    · have q2 : ¬ (nth l x).2.1 ≠ (nth l y).2.1 := by simpa using q2
      unfold better
      rw [if_neg q, if_neg q2]

theorem nth_ok (hl : l.all okL = true) {x : Int} (hx : 0 ≤ x ∧ x < l.length) : 0 ≤ (nth l x).2.1 ∧ (nth l x).2.1 ≤ 4096 ∧ 0 ≤ (nth l x).1 ∧ (nth l x).1 ≤ (nth l x).2.1 := by
  have := List.all_eq_true.1 hl (nth l x) (by simp [nth, List.getD, show x.toNat < l.length by omega])
  unfold okL at this
  exact of_decide_eq_true this

theorem lr_lt (h : Vr 3 lrV w p l) (hl : 0 < l.length) : ∀ b, blk p = some b → b < w.heap.size := by
  intro b hb
  obtain ⟨a, rfl, C⟩ := h 0 hl
  have := World.block_lt_of_cell? w _ C.1
  rw [add_block, add_block] at this
  simp [blk] at hb
  omega
/-- The comparison of an order. -/
theorem order1_ok (h : Vr 3 lrV w p l) (hn : n = l.length) (hm : n ≤ maxLen) (hl : l.all okL = true) {nb : Nat} (hb : Has w nb #[.slice p n c]) {x y : Int} (hx : 0 ≤ x ∧ x < l.length) (hy : 0 ≤ y ∧ y < l.length) :
    Calls Try.prog reduce_Order_1.id #[.int .i64 x, .int .i64 y, .pointer (some ⟨nb, 0, none⟩)] w fun e w' => e = .returned (.int .i64 (cmp l x y)) ∧ Grow w w' := by
  refine reduce_Order_1.calls ?_
  unfold maxLen at hm
  have G : Grow w w.drew := (Mod.refl w).drew
  have ox := nth_ok hl hx
  have oy := nth_ok hl hy
  refine ⟨_, _, _, cell_of hb.drew rfl, lIx h.drew hn rfl hx.1 hx.2 fun a C => ⟨_, (lcells C).1, _, _, _, cell_of hb.drew rfl, lIx h.drew hn rfl hy.1 hy.2 fun a D => ⟨_, (lcells D).1, cnd_i (fun q => ?_) (fun q => ?_)⟩⟩⟩
  · have q : (nth l x).1 ≠ (nth l y).1 := by simpa using q
    refine ⟨_, _, _, cell_of hb.drew.drew rfl, lIx h.drew.drew hn rfl hx.1 hx.2 fun a C => ⟨_, (lcells C).1, _, _, _, cell_of hb.drew.drew rfl, lIx h.drew.drew hn rfl hy.1 hy.2 fun a D => ⟨_, (lcells D).1, ?_, G.drew⟩⟩⟩
    unfold cmp
    rw [if_pos q, wrap64_of (by omega) (by omega)]
  · have q : ¬ (nth l x).1 ≠ (nth l y).1 := by simpa using q
    refine ⟨_, _, _, cell_of hb.drew.drew rfl, lIx h.drew.drew hn rfl hx.1 hx.2 fun a C => ⟨_, (lcells C).2.1, _, _, _, cell_of hb.drew.drew rfl, lIx h.drew.drew hn rfl hy.1 hy.2 fun a D => ⟨_, (lcells D).2.1, cnd_i (fun q2 => ?_) (fun q2 => ⟨?_, G.drew⟩)⟩⟩⟩
    · have q2 : (nth l x).2.1 ≠ (nth l y).2.1 := by simpa using q2
      refine ⟨_, _, _, cell_of hb.drew.drew.drew rfl, lIx h.drew.drew.drew hn rfl hx.1 hx.2 fun a C => ⟨_, (lcells C).2.1, _, _, _, cell_of hb.drew.drew.drew rfl, lIx h.drew.drew.drew hn rfl hy.1 hy.2 fun a D => ⟨_, (lcells D).2.1, ?_, G.drew.drew⟩⟩⟩
      unfold cmp
      rw [if_neg q, if_pos q2, wrap64_of (by omega) (by omega)]
    · have q2 : ¬ (nth l x).2.1 ≠ (nth l y).2.1 := by simpa using q2
      unfold cmp
      rw [if_neg q, if_neg q2, wrap64_of (by omega) (by omega)]
theorem order1_ent : entB Try.prog reduce_Order_1.id = true := by kernel_rfl

theorem args2c (u v z : Value) : (#[] ++ #[u, v] ++ #[z] : Array Value) = #[u, v, z] := by simp

theorem mapTo_idx {t m : Nat} : (List.range t).map Int.ofNat ++ List.replicate (m - t) (0 : Int) = (List.range t).map Int.ofNat ++ List.replicate (m - t) 0 := rfl
def upTo (t m : Nat) : List Int := (List.range t).map Int.ofNat ++ List.replicate (m - t) 0
theorem upTo_len {t m : Nat} (h : t ≤ m) : (upTo t m).length = m := by simp [upTo]; omega
theorem upTo_all (m : Nat) : upTo m m = idx m := by simp [upTo, idx]
theorem upTo_set {t m : Nat} (h : t < m) : (upTo t m).set t (t : Int) = upTo (t + 1) m := by
  unfold upTo
  rw [List.set_append, if_neg (by simp), List.length_map, List.length_range, Nat.sub_self, List.range_succ, List.map_append, List.append_assoc]
  congr 1
  rw [show m - t = (m - (t + 1)) + 1 by omega, List.replicate_succ]
  rfl

/-- What Order answers. -/
theorem order_ok (h : Vr 3 lrV w p l) (hn : n = l.length) (hm : n ≤ 100) : Calls Try.prog reduce_Order.id #[.slice p n c] w fun e w' => ∃ (q : Option Addr) (d : Nat) (o : List Int), e = .returned (.slice q o.length d) ∧ Grow w w' ∧ OwI ty_int w' q d o ∧ (if l.all okL then IsO l o else o = []) ∧ (∀ b, blk q = some b → w.heap.size ≤ b) := by
  refine reduce_Order.calls ?_
  intro nb w1 h1
  have g1 : Grow w w1 := h1.mod
  have sz1 := h1.num
  refine ⟨_, _, _, cell_of h1.has rfl, (redCheck_ok (h.grow g1) hn (by unfold maxLen; omega)).mono ?_⟩
  rintro e w2 ⟨rfl, g2⟩
  have b2 := h1.has.grow g2
  cases hl : l.all okL with
  | false =>
    refine ⟨_, rfl, cnd_t rfl ⟨none, 0, [], rfl, g1.trans g2, Ow.nil _ _ _, by simp, fun b hb => by simp [blk] at hb⟩⟩
  | true =>
    refine ⟨_, rfl, cnd_f rfl ⟨_, _, _, cell_of b2 rfl, ?_⟩⟩
    have sz2 := g2.size
    have s1 := h1.size
    refine make_i sl_int int_zero (x := (0 : Int)) rfl n rfl (by omega) fun w3 o3 g3 z3 => ?_
    have b3 := b2.grow g3
    refine ⟨_, _, _, cell_of b3 rfl, ?_⟩
    have hq : ∀ b, blk (some (⟨w2.heap.size, 0, none⟩ : Addr)) = some b → b = w2.heap.size := fun b hb => by simp [blk] at hb; exact hb.symm
    refine ⟨fun I w' k => ∃ t : Nat, I = t ∧ t ≤ n ∧ k = n - t ∧ OwI ty_int w' (some ⟨w2.heap.size, 0, none⟩) n (upTo t n) ∧ Mod (fun b => b = w2.heap.size) w2 w', ⟨_, 0, rfl, Nat.zero_le _, rfl, by simpa [upTo] using o3, g3.mono fun _ _ => False.elim⟩, ?_⟩
    rintro I w4 k _ ⟨t, rfl, ht, rfl, o4, m4⟩
    have ho4 := upTo_len ht
    refine cnd_i (fun q => ?_) (fun q => ?_)
    · have q : t < n := by simpa using q
      refine o4.st (t : Int) rfl rfl (by omega) ho4.symm (by omega) fun w5 o5 m5 => ?_
      rw [Int.toNat_natCast, upTo_set q] at o5
      refine ⟨_, ?_, t + 1, wN (by omega) (by omega), by omega, rfl, o5, m4.then m5 fun b _ hb => hq b hb⟩
      omega
    · have q : t = n := by simp at q; omega
      subst q
      have G4 : Grow w2 w4 := m4.mono fun b hb e => by omega
      have B4 := b2.grow G4
      have H4 := ((h.grow g1).grow g2).grow G4
      rw [upTo_all] at o4
      have hne : nb ≠ w2.heap.size := by have := b2.lt; omega
      have X : Cx w4 (some ⟨w2.heap.size, 0, none⟩) t (idx t) reduce_Order_1.id #[.pointer (some ⟨nb, 0, none⟩)] (cmp l) := by
        refine ⟨(idx_len t).symm, by omega, order1_ent, fun x hx y hy w' m' => ?_, cmp_ord l⟩
        rw [args2c]
        have hx := idx_mem.1 hx
        have hy := idx_mem.1 hy
        refine order1_ok (H4.keep m' fun b hb e => ?_) hn (by unfold maxLen; omega) hl (B4.keep m' fun e => hne (hq _ e)) (by omega) (by omega)
        have e := hq _ e
        have := lr_lt h (by omega) b hb
        have := g1.size
        have := g2.size
        omega
      refine (sort_ok X o4).mono ?_
      rintro e w5 ⟨rfl, l5, o5, m5, p5, s5⟩
      refine ⟨rfl, _, _, l5, ?_, ?_, o5, ?_, ?_⟩
      · rw [p5.length_eq, idx_len]
      · exact (g1.trans g2).then (m4.then (S := fun b => b = w2.heap.size) m5 fun b _ hb => hq b hb) fun b hb e => by omega
      · rw [if_pos rfl]
        rw [hn] at p5
        exact ⟨p5, s5⟩
      · intro b hb
        have := hq b hb
        omega
end Go.Proofs.Ytlpmapeojecenaa.W
