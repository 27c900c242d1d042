/- Layers 15 and 19: graphs, as far as orders ask of them; squares. -/
import Derived.Test.YtambabpklfeaoaaAig0
import Derived.Test.YtambabpklfeaoaaFwMore
namespace Go.Proofs.Ytambabpklfeaoaa.W
open Go Go.Fw Go.RowKit

/-- A graph's rows, and its nodes. -/
structure AG where
  pg : Option Addr
  cg : Nat
  bm : Nat
  g : List (Int × Int)

def AG.foot (x : AG) (b : Nat) (k : Nat) : Prop := k = b ∨ blk x.pg = some k
structure ARep (w : World) (b : Nat) (x : AG) : Prop where
  me : Has w b #[.slice x.pg x.g.length x.cg, .map (some x.bm)]
  hg : Row 2 gateV ty_api_Gate w x.pg x.cg x.g
  bg : blk x.pg ≠ some b

theorem ARep.keep {w w' : World} {b : Nat} {x : AG} {S : Nat → Prop} (h : ARep w b x) (m : Mod S w w') (hS : ∀ k, x.foot b k → ¬ S k) : ARep w' b x :=
  ⟨h.me.keep m (hS b (.inl rfl)), h.hg.keep m fun k hk => hS k (.inr hk), h.bg⟩
theorem ARep.grow {w w' : World} {b : Nat} {x : AG} (h : ARep w b x) (m : Grow w w') : ARep w' b x := h.keep m fun _ _ => id
theorem ARep.lt {w : World} {b : Nat} {x : AG} (h : ARep w b x) : ∀ k, x.foot b k → k < w.heap.size := by
  rintro k (rfl | hk)
  · exact h.me.lt
  · exact h.hg.lt k hk

theorem aigNew_ok (w : World) : Calls Try.prog aig_New.id #[] w fun e w' => ∃ b x, e = .returned (ptr b) ∧ ARep w' b x ∧ x.g = [] ∧ (∀ k, x.foot b k → w.heap.size ≤ k) ∧ Grow w w' := by
  refine aig_New.calls ?_
  intro n1 w2 h1 n3 w4 h3
  have s1 := h1.num; have s3 := h3.num; have z1 := h1.mod.size
  refine ⟨n3, ⟨none, 0, n1, []⟩, rfl, ⟨h3.has, Row.nil _ _ _ _, by simp [blk]⟩, rfl, ?_, h1.mod.trans h3.mod⟩
  rintro k (rfl | hk)
  · omega
  · simp [blk] at hk

theorem aigLen_ok {w : World} {b : Nat} {x : AG} (h : ARep w b x) : Calls Try.prog aig_Aig_Len.id #[ptr b] w fun e w' => e = .returned (.int .i64 x.g.length) ∧ Grow w w' := by
  refine aig_Aig_Len.calls ?_
  exact cnd_f rfl ⟨_, rfl, _, _, _, cell_add h.me rfl, rfl, Mod.refl w⟩

theorem aigIs_ok {w : World} {b : Nat} {x : AG} (h : ARep w b x) (hb : x.g.length ≤ 1048576) (l : Int) : Calls Try.prog aig_Aig_Is.id #[ptr b, .int .i64 l] w fun e w' => e = .returned (.bool (decide (0 ≤ l ∧ l ≤ 2 * x.g.length + 1))) ∧ Grow w w' := by
  refine aig_Aig_Is.calls ?_
  refine cnd_t rfl ⟨_, rfl, _, cell_add h.me rfl, _, _, map_neq ty_map_api_Gate_int.und _ _ _ _, cnd_t rfl (cnd_i (fun q => ⟨_, rfl, _, _, _, cell_add h.me rfl, ?_, Mod.refl w⟩) (fun q => ⟨?_, Mod.refl w⟩))⟩ <;> simp only [decide_eq_true_eq, decide_eq_false_iff_not, ge_iff_le] at q
  · rw [wrap64_of (x := 2 * (x.g.length : Int)) (by omega) (by omega), wrap64_of (by omega) (by omega)]
    congr 2
    exact decide_eq_decide.2 (by omega)
  · congr 2
    exact (decide_eq_false (by omega)).symm



/-- A node more. -/
structure More (w : World) (b : Nat) (x y : AG) (n : Int × Int) : Prop where
  g : y.g = x.g ++ [n]
  bm : y.bm = x.bm
  foot : ∀ k, y.foot b k → x.foot b k ∨ w.heap.size ≤ k

theorem aigAdd_ok {w : World} {b : Nat} {x : AG} (h : ARep w b x) (hb : x.g.length < 1048576) (n0 n1 : Int) : Calls Try.prog aig_Aig_add.id #[ptr b, .agg #[.int .i64 n0, .int .i64 n1]] w fun e w' =>
    e = .returned (.int .i64 (2 * (x.g.length + 1 : Nat))) ∧ ∃ y, ARep w' b y ∧ More w b x y (n0, n1) ∧ Mod (x.foot b) w w' := by
  refine aig_Aig_add.calls ?_
  intro m1 w2 h1
  have s1 := h1.num
  have h2 := h.grow h1.mod
  have hlt := h.lt
  refine ⟨_, rfl, _, _, _, cell_add h2.me rfl, cnd_f (decide_eq_false (by omega)) ⟨_, rfl, _, _, ⟨cell_add h1.has rfl, cell_add h1.has rfl, trivial⟩, ?_⟩⟩
  have fin : ∀ (w10 : World) (n9 : Nat), Grow w w10 → ARep w10 b x → Has w10 n9 #[.int .i64 n0, .int .i64 n1] → w.heap.size ≤ n9 →
      ∃ w11 : World, ∃ r12_p : Option Addr, ∃ r12_n : Nat, ∃ r12_c : Nat, (Builtin.append_ #[ty_sl_api_Gate, ty_sl_api_Gate] ty_sl_api_Gate #[.slice x.pg x.g.length x.cg, .slice (some (Addr.mk n9 0 none)) 1 1]).run Try.prog w10 = .ok (.slice r12_p r12_n r12_c) w11 ∧ 
        ∃ a13 : Addr, (some (⟨b, 0, none⟩ : Addr)) = some a13 ∧ ∃ w14 : World, StoreAt (a13.add 0) 0 [.slice r12_p r12_n r12_c] w11 w14 ∧ 
        ∃ a15 : Addr, (some (⟨b, 0, none⟩ : Addr)) = some a15 ∧ ∃ x16_p : Option Addr, ∃ x16_n : Nat, ∃ x16_c : Nat, w14.cell? (a15.add 0) = some (.slice x16_p x16_n x16_c) ∧ 
        (Ending.returned (.int .i64 (IntKind.i64.wrap ((2 : Int) * (x16_n : Int)))) = .returned (.int .i64 (2 * (x.g.length + 1 : Nat))) ∧ ∃ y, ARep w14 b y ∧ More w b x y (n0, n1) ∧ Mod (x.foot b) w w14) := by
    intro w10 n9 G h10 H9 hn9
    have l10 := h10.lt
    refine h10.hg.app gateE sl_gate (news := [(n0, n1)]) (fun j hj => ?_) rfl rfl (by simp; omega) fun w11 p' c' o m hp hsz => ?_
    · have : j = 0 := by simpa using hj
      subst this
      exact ⟨_, rfl, cell_add H9 rfl, cell_add H9 rfl, trivial⟩
    have hme := h10.me.keep m h10.bg
    refine ⟨_, rfl, store_f hme rfl rfl fun w14 o14 m14 => ⟨_, rfl, _, _, _, cell_add o14 rfl, ?_, ⟨p', c', x.bm, x.g ++ [(n0, n1)]⟩, ?_, ⟨rfl, rfl, ?_⟩, ?_⟩⟩
    · rw [show (x.g ++ [(n0, n1)]).length = x.g.length + 1 by simp, wrap64_of (by omega) (by omega)]
    · have pb : blk p' ≠ some b := fun e => by
        rcases hp with rfl | rfl
        · exact h10.bg e
        · simp [blk] at e
          have := l10 b (.inl rfl); omega
      exact ⟨o14, o.keep m14 fun k hk e => pb (e ▸ hk), pb⟩
    · rintro k (e | e)
      · exact .inl (.inl e)
      · rcases hp with rfl | rfl
        · exact .inl (.inr e)
        · right; simp [blk] at e; have := G.size; omega
    · exact ((G.mono fun _ _ h => h.elim).trans (m.mono fun k _ hk => .inr hk)).trans (m14.mono fun k _ hk => .inl hk)
  have G2 : Grow w w2.drew := h1.mod.drew
  have h2' : ARep w2.drew b x := h2.grow (Mod.refl w2).drew
  refine ⟨⟨_, _, _, cell_add h2'.me rfl, ?_⟩, ?_⟩
  · intro n9 w10 h9
    have s9 := h9.num
    have := G2.size
    exact fin w10 n9 (G2.trans h9.mod) (h2'.grow h9.mod) h9.has (by omega)
  · intro n9 w10 h9
    have s9 := h9.num
    have := G2.size
    exact ⟨_, _, _, cell_add (h2'.grow h9.mod).me rfl, fin w10 n9 (G2.trans h9.mod) (h2'.grow h9.mod) h9.has (by omega)⟩

theorem aigIn_ok {w : World} {b : Nat} {x : AG} (h : ARep w b x) (hb : x.g.length < 1048576) : Calls Try.prog aig_Aig_In.id #[ptr b] w fun e w' =>
    e = .returned (.int .i64 (2 * (x.g.length + 1 : Nat))) ∧ ∃ y, ARep w' b y ∧ More w b x y (-1, -1) ∧ Mod (x.foot b) w w' := by
  refine aig_Aig_In.calls ?_
  refine cnd_f rfl ⟨_, rfl, _, cell_add h.me rfl, _, _, map_eql ty_map_api_Gate_int.und _ _ _ _, cnd_f rfl ((aigInput_ok w).mono ?_)⟩
  rintro e w5 ⟨rfl, g5⟩
  refine ⟨_, _, rfl, (aigAdd_ok (h.grow g5) hb (-1) (-1)).mono ?_⟩
  rintro e w8 ⟨rfl, y, hy, my, m⟩
  refine ⟨_, rfl, rfl, y, hy, ⟨my.g, my.bm, fun k hk => (my.foot k hk).imp id fun e => Nat.le_trans g5.size e⟩, ?_⟩
  exact (g5.mono fun _ _ h => h.elim).trans (m.mono fun _ _ h => h)

theorem room_ok {w : World} {b : Nat} {x : AG} (h : ARep w b x) (hb : x.g.length ≤ 1048576) (n : Int) : Calls Try.prog rank_room.id #[ptr b, .int .i64 n] w fun e w' => e = .returned (.bool (decide (n ≤ 1048576 - x.g.length))) ∧ Grow w w' := by
  refine rank_room.calls ?_
  refine (aigIs_ok h hb 0).mono ?_
  rintro e w1 ⟨rfl, g1⟩
  refine ⟨_, rfl, cnd_t (by simp; omega) ((aigLen_ok (h.grow g1)).mono ?_)⟩
  rintro e w3 ⟨rfl, g3⟩
  refine ⟨_, rfl, ?_, g1.trans g3⟩
  rw [wrap64_of (by omega) (by omega)]

/-- A square of numbers that are nought. -/
theorem square_ok (n : Nat) (hn : n ≤ 40) (w : World) : Calls Try.prog rank_square.id #[.int .i64 n] w fun e w' => ∃ p c hs, e = .returned (.slice p n c) ∧ Own2 (Value.int .i64) ty_sl_int ty_int w' p c hs (List.replicate n (List.replicate n 0)) ∧ (∀ k, foot2 p hs k → w.heap.size ≤ k) ∧ Grow w w' := by
  refine rank_square.calls ?_
  refine ⟨fun p m c v w' k => ∃ t hs, v = (t : Nat) ∧ t = m ∧ t ≤ n ∧ k + t = n ∧ Own2 (Value.int .i64) ty_sl_int ty_int w' p c hs (List.replicate t (List.replicate n 0)) ∧ (∀ k, foot2 p hs k → w.heap.size ≤ k) ∧ Grow w w', ⟨n, 0, [], rfl, rfl, by omega, rfl, ⟨Ow.nil _ _ _, rfl, fun j hj => by simp at hj, fun j k hj => by simp at hj, fun i j k hi => by simp at hi⟩, fun k hk => ?_, Mod.refl w⟩, ?_⟩
  · rcases hk with e | ⟨_, h, _⟩
    · simp [blk] at e
    · simp at h
  rintro p m c v w6 k _ ⟨t, hs, rfl, rfl, ht, hk, o, hf, G⟩
  refine cnd_i (fun q => ?_) (fun q => ?_) <;> simp only [decide_eq_true_eq, decide_eq_false_iff_not] at q
  · refine make_i sl_int int_zero (f := Value.int .i64) (x := 0) rfl n rfl (by omega) fun w7 o7 g7 z7 => ?_
    intro n9 w10 h9
    have s9 := h9.num
    have olt := o.lt
    have z6 := G.size
    have o10 := (o.grow g7).grow h9.mod
    have G10 := (G.trans g7).trans h9.mod
    refine o10.app1 sl_sl_int (s := ⟨some ⟨w6.heap.size, 0, none⟩, n, n⟩) h9.has (by simp) (o7.grow h9.mod) (by simp) (fun k hk e => ?_) (by simp; omega) fun w11 p' c' o' m' hp hsz => ?_
    · simp [blk] at hk
      have := olt k e; omega
    rw [List.length_replicate]
    have hf' : ∀ k, foot2 p' (hs ++ [⟨some ⟨w6.heap.size, 0, none⟩, n, n⟩]) k → w.heap.size ≤ k := by
      rintro k (e | ⟨s, hs', e⟩)
      · rcases hp with rfl | rfl
        · exact hf k (.inl e)
        · simp [blk] at e; have := G10.size; omega
      · rcases List.mem_append.1 hs' with hs' | hs'
        · exact hf k (.inr ⟨s, hs', e⟩)
        · simp at hs'; subst hs'
          simp [blk] at e; omega
    refine ⟨k - 1, by omega, t + 1, _, ?_, rfl, by omega, by omega, by rw [List.replicate_succ']; exact o', hf', G10.then m' fun k hk e => by have := hf k (.inl e); omega⟩
    rw [wrap64_of (by omega) (by omega)]; omega
  · have : t = n := by omega
    subst this
    exact ⟨p, c, hs, rfl, o, hf, G⟩
end Go.Proofs.Ytambabpklfeaoaa.W
