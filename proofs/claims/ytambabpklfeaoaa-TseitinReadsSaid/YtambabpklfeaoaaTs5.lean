/- Layer 18: literals and clauses of a formula. -/
import Derived.Test.YtambabpklfeaoaaTs4
import Derived.Test.YtambabpklfeaoaaRank2
namespace Go.Proofs.Ytambabpklfeaoaa.W
open Go Go.Fw Go.RowKit Go.TsP

def small (v : List Int) : Prop := ∀ x ∈ v, -1073741824 ≤ x ∧ x ≤ 1073741824

theorem code_ok' {w : World} {a : Int} {p1 : Option Addr} {n1 c1 : Nat} {pv : Option Addr} {nv cv : Nat} {v : List Int} (hv : Vw (Value.int .i64) w pv v) (hn : nv = v.length) (hs : small v) {l : Int} (h1 : -1073741824 ≤ l) (h2 : l ≤ 1073741824) :
    Calls Try.prog tseitin_Code.id #[.agg #[.int .i64 a, .slice p1 n1 c1, .slice pv nv cv], .int .i64 l] w fun e w' => e = .returned (.int .i64 (codeP v l)) ∧ Grow w w' := by
  refine tseitin_Code.calls ?_
  intro n1 w2 hw2
  have H := hw2.has
  unfold codeP
  refine cnd_i (fun q => ⟨?_, hw2.mod⟩) (fun q => ?_) <;> simp only [decide_eq_true_eq, decide_eq_false_iff_not] at q
  · rw [if_pos (.inl q)]
  · have hd : l.tdiv 2 = l / 2 := Int.tdiv_eq_ediv_of_nonneg (by omega)
    have e1 : IntKind.i64.wrap (l.tdiv 2) = l.tdiv 2 := wrap64_of (by omega) (by omega)
    have e2 : IntKind.i64.wrap (l.tdiv 2 - 1) = l.tdiv 2 - 1 := wrap64_of (by omega) (by omega)
    rw [e1, e2]
    refine ⟨by decide, _, _, _, cell_add H rfl, cnd_i (fun q2 => ⟨?_, hw2.mod⟩) (fun q2 => ?_)⟩ <;> simp only [decide_eq_true_eq, decide_eq_false_iff_not] at q2
    · rw [if_pos (.inr (by omega))]
    · rw [if_neg (by omega)]
      refine ⟨_, _, _, cell_add H rfl, by decide, (hv.grow hw2.mod).ix 0 (by omega) hn (by omega) fun a5 e5 => ⟨_, e5, by decide, cnd_i (fun q3 => ⟨?_, hw2.mod⟩) (fun q3 => ⟨?_, hw2.mod⟩)⟩⟩ <;> simp only [beq_iff_eq, beq_eq_false_iff_ne] at q3
      · rw [if_pos q3]
        have := hs _ (getD_mem (l := v) (t := (l.tdiv 2 - 1).toNat) (by omega) 0)
        rw [wrap64_of (by omega) (by omega)]
        congr 2; omega
      · rw [if_neg q3]


/-- A builder in memory. -/
structure Bd where
  k : Int
  pc : Option Addr
  cc : Nat
  hs : List Sl
  cl : List (List Int)
  pv : Option Addr
  cv : Nat
  v : List Int
abbrev Bd.row (x : Bd) : Array Value := #[.int .i64 x.k, .slice x.pc x.cl.length x.cc, .slice x.pv x.v.length x.cv]
structure BRep (w : World) (b : Nat) (x : Bd) : Prop where
  me : Has w b x.row
  c : OV (Value.int .i64) ty_sl_int w x.pc x.cc x.hs x.cl
  v : OwI ty_int w x.pv x.cv x.v
  bc : ¬ OV.foot x.pc x.hs b
  bv : blk x.pv ≠ some b
  cv : ∀ k, blk x.pv = some k → ¬ OV.foot x.pc x.hs k
def Bd.foot (x : Bd) (b k : Nat) : Prop := k = b ∨ OV.foot x.pc x.hs k ∨ blk x.pv = some k
theorem BRep.keep {w w' : World} {b : Nat} {x : Bd} {S : Nat → Prop} (h : BRep w b x) (m : Mod S w w') (hS : ∀ k, x.foot b k → ¬ S k) : BRep w' b x :=
  ⟨h.me.keep m (hS b (.inl rfl)), h.c.keep m fun k hk => hS k (.inr (.inl hk)), h.v.keep m fun k hk => hS k (.inr (.inr hk)), h.bc, h.bv, h.cv⟩
theorem BRep.grow {w w' : World} {b : Nat} {x : Bd} (h : BRep w b x) (m : Grow w w') : BRep w' b x := h.keep m fun _ _ => id
theorem BRep.lt {w : World} {b : Nat} {x : Bd} (h : BRep w b x) : ∀ k, x.foot b k → k < w.heap.size := by
  rintro k (rfl | hk | hk)
  · exact h.me.lt
  · exact h.c.lt k hk
  · exact h.v.lt k hk

theorem sl_sl : slOk Try.prog ty_sl_sl_int ty_sl_int 24 = true := sl_sl_int

theorem getD_one {s : Sl} : [s].getD 0 Sl.nil = s := rfl

/-- A clause more in a builder's row. -/
theorem BRep.app {w : World} {b : Nat} {x : Bd} (h : BRep w b x) (hlen : x.cl.length ≤ 1000000) {s : Sl} {l : List Int} {n : Nat} (hb : Has w n #[s.v]) (hl : Vw (Value.int .i64) w s.p l) (hn : s.n = l.length) (hm : s.n ≤ maxLen) (hd : ∀ k, rfoot [s] k → ¬ x.foot b k) {K : World → Option Addr → Nat → Nat → Prop}
    (hk : ∀ w' p' c', OV (Value.int .i64) ty_sl_int w' p' c' (x.hs ++ [s]) (x.cl ++ [l]) → (∀ k, OV.foot p' (x.hs ++ [s]) k → OV.foot x.pc x.hs k ∨ rfoot [s] k ∨ w.heap.size ≤ k) → Mod (fun k => blk x.pc = some k) w w' → K w' p' (x.cl.length + 1) c') :
    ∃ w', ∃ p' n' c', (Builtin.append_ #[34, 34] 34 #[.slice x.pc x.cl.length x.cc, .slice (some ⟨n, 0, none⟩) 1 1]).run Try.prog w = .ok (.slice p' n' c') w' ∧ K w' p' n' c' := by
  have hv : Vw Sl.v w (some ⟨n, 0, none⟩) [s] := by
    intro j hj
    have : j = 0 := by simpa using hj
    subst this
    exact ⟨_, rfl, cell_add hb rfl⟩
  have hr : VR (Value.int .i64) w [s] [l] := VR.one hl hn hm
  have hx := h.c.v.n
  refine h.c.app sl_sl hv hr (by omega) rfl (fun k hk e => hd k hk (.inr (.inl (.inl e)))) (by simp; omega) fun w' p' c' o m hp hz => ?_
  have e : (x.hs ++ [s]).length = x.cl.length + 1 := by simp [hx]
  rw [e]
  refine hk w' p' c' o (fun k hk => ?_) m
  rcases hk with hk | hk
  · rcases hp with rfl | rfl
    · exact .inl (.inl hk)
    · have := blk_some hk; exact .inr (.inr (by omega))
  · rcases rfoot_app.1 hk with hk | hk
    · exact .inl (.inr hk)
    · exact .inr (.inl hk)

theorem add_ok {w : World} {b : Nat} {x : Bd} (h : BRep w b x) (hs : small x.v) (hlen : x.cl.length ≤ 1000000) {p : Option Addr} {n c : Nat} {l : List Int} (hl : Vw (Value.int .i64) w p l) (hn : n = l.length) (hb : ∀ y ∈ l, -1073741824 ≤ y ∧ y ≤ 1073741824) (hll : n ≤ 1000000) :
    Calls Try.prog tseitin_builder_add.id #[ptr b, .slice p n c] w fun e w' => e = .returned (.tuple #[]) ∧ ∃ x', BRep w' b x' ∧ x'.k = x.k ∧ x'.v = x.v ∧ x'.cl = x.cl ++ (clP x.v l).toList ∧ (∀ k, x'.foot b k → x.foot b k ∨ w.heap.size ≤ k) ∧ Mod (x.foot b) w w' := by
  subst hn
  refine tseitin_builder_add.calls ?_
  refine ⟨fun pc nc cc v w' k => ∃ (t : Nat) (o : List Int), nc = o.length ∧ v = t ∧ t ≤ l.length ∧ clP x.v (l.take t) = some o ∧ o.length ≤ t ∧ OwI ty_int w' pc cc o ∧ (∀ k, blk pc = some k → w.heap.size ≤ k) ∧ Grow w w' ∧ k + t = l.length, ⟨_, 0, [], rfl, rfl, Nat.zero_le _, rfl, Nat.zero_le _, Ow.nil _ _ _, by simp [blk], Mod.refl w, rfl⟩, ?_⟩
  rintro pc nc cc v w6 k _ ⟨t, o, rfl, rfl, ht, ho, hol, O, fr, G, hk⟩
  have h6 := h.grow G
  refine cnd_i (fun q => ?_) (fun q => ?_) <;> simp only [decide_eq_true_eq, decide_eq_false_iff_not] at q
  · have ht' : t < l.length := by omega
    have hbl := hb _ (getD_mem ht' 0)
    have ct := clP_take ht' ho
    refine (hl.grow G).ix 0 (by omega) rfl q fun a e => ⟨_, e, ?_⟩
    rw [Int.toNat_natCast]
    refine cnd_i (fun q1 => ?_) (fun q1 => cnd_i (fun q2 => ?_) (fun q2 => ?_)) <;> simp only [beq_iff_eq, beq_eq_false_iff_ne] at *
    · refine ⟨trivial, x, h6, rfl, rfl, ?_, fun k => .inl, G.mono fun _ _ => False.elim⟩
      rw [clP_one ht' q1]; simp
    · rw [if_neg q1, if_pos q2] at ct
      exact ⟨k - 1, by omega, t + 1, o, rfl, by rw [wrap64_of (by omega) (by omega)]; omega, ht', ct, by omega, O, fr, G, by omega⟩
    · rw [if_neg q1, if_neg q2] at ct
      have e0 : (Addr.mk b 0 none).add 0 = ⟨b, 0, none⟩ := by rw [add_at]
      refine ⟨_, rfl, _, _, _, _, _, _, _, by rw [e0]; exact cells3 h6.me, (code_ok' h6.v.vw rfl hs hbl.1 hbl.2).mono ?_⟩
      rintro e w13 ⟨rfl, g13⟩
      refine ⟨_, rfl, ?_⟩
      intro n15 w16 h15
      refine ((O.grow g13).grow h15.mod).app1 sl_int _ h15.has rfl rfl oneInt (by omega) fun w17 p17 c17 O17 m17 hp17 z17 => ?_
      have g16 := (G.trans g13).trans h15.mod
      refine ⟨k - 1, by omega, t + 1, _, by simp, by rw [wrap64_of (by omega) (by omega)]; omega, ht', ct, by simp; omega, O17, fun j hj => ?_, g16.then m17 fun j hj e => by have := fr j e; omega, by omega⟩
      rcases hp17 with rfl | rfl
      · exact fr j hj
      · have := blk_some hj; have := g16.size; omega
  · have : t = l.length := by omega
    subst this
    rw [List.take_length] at ho
    refine ⟨_, rfl, _, _, _, cell_add3 h6.me rfl, ?_⟩
    intro n21 w22 h21
    have h22 := h6.grow h21.mod
    have O22 := O.grow h21.mod
    have hlt := h.lt
    have hxb := h.lt b (.inl rfl)
    refine h22.app hlen (s := ⟨pc, o.length, cc⟩) (l := o) h21.has O22.vw rfl (by unfold maxLen; simp only; omega) (fun k hk e => ?_) fun w23 p23 c23 o23 f23 m23 => ?_
    · obtain ⟨s, hm, h0, hk⟩ := hk
      simp at hm; subst hm
      have := fr k hk
      have := hlt k e; omega
    · have me23 := h22.me.keep m23 fun e => h.bc (.inl e)
      refine ⟨_, rfl, store_f3 me23 rfl rfl fun w26 h26 m26 => ⟨rfl, ⟨x.k, p23, c23, x.hs ++ [⟨pc, o.length, cc⟩], x.cl ++ [o], x.pv, x.cv, x.v⟩, ?_, rfl, rfl, by rw [ho]; rfl, ?_, ?_⟩⟩
      · have z22 := (G.trans h21.mod).size
        have rf : ∀ k, rfoot [(⟨pc, o.length, cc⟩ : Sl)] k → w.heap.size ≤ k := fun k ⟨s, hm, h0, hk⟩ => by
          simp at hm; subst hm
          exact fr k hk
        have nb : ¬ OV.foot p23 (x.hs ++ [⟨pc, o.length, cc⟩]) b := fun e => by
          rcases f23 b e with e | e | e
          · exact h.bc e
          · have := rf b e; omega
          · omega
        refine ⟨?_, o23.keep m26 fun k hk e => nb (by rw [← e]; exact hk), (h22.v.keep m23 fun k hk e => h.cv k hk (.inl e)).keep m26 fun k hk e => h.bv (by rw [hk, e]), nb, h.bv, fun k hk e => ?_⟩
        · have : (x.cl ++ [o]).length = x.cl.length + 1 := by simp
          show Has w26 b #[_, .slice p23 (x.cl ++ [o]).length c23, _]
          rw [this]
          exact h26
        · have := hlt k (.inr (.inr hk))
          rcases f23 k e with e | e | e
          · exact h.cv k hk e
          · have := rf k e; omega
          · omega
      · have z22 := (G.trans h21.mod).size
        rintro k (rfl | hk | hk)
        · exact .inl (.inl rfl)
        · rcases f23 k hk with e | ⟨s, hm, h0, hk⟩ | e
          · exact .inl (.inr (.inl e))
          · simp at hm; subst hm
            exact .inr (fr k hk)
          · exact .inr (by omega)
        · exact .inl (.inr (.inr hk))
      · exact (((G.trans h21.mod).mono fun _ _ => False.elim).then m23 fun k _ e => .inr (.inl (.inl e))).then m26 fun k _ e => .inl e

theorem refNot_ok {l : Int} (h0 : 0 ≤ l) (h1 : l ≤ 1073741824) (w : World) : Calls Try.prog fathomref15_Not.id #[.int .i64 l] w fun e w' => e = .returned (.int .i64 (flipL l)) ∧ Grow w w' := by
  refine fathomref15_Not.calls ?_
  unfold flipL
  refine cnd_f (decide_eq_false (by omega)) ⟨by decide, ?_⟩
  rw [Int.tmod_eq_emod_of_nonneg h0]
  refine cnd_i (fun q => ⟨?_, Mod.refl w⟩) (fun q => ⟨?_, Mod.refl w⟩) <;> simp only [beq_iff_eq, beq_eq_false_iff_ne] at q
  · rw [if_pos q, wrap64_of (by omega) (by omega)]
  · rw [if_neg q, wrap64_of (by omega) (by omega)]

theorem refClause_ok {w : World} {pv : Option Addr} {nv cv : Nat} {v : List Int} (hv : Vw (Value.int .i64) w pv v) (hnv : nv = v.length) (hnl : v.length ≤ 4194304) (hs : small v) {p : Option Addr} {n c : Nat} {l : List Int} (hl : Vw (Value.int .i64) w p l) (hn : n = l.length) (hb : ∀ y ∈ l, 0 ≤ y ∧ y ≤ 2 * v.length + 1) (hll : n ≤ 1000000) :
    Calls Try.prog fathomref18_clause.id #[.slice pv nv cv, .slice p n c] w fun e w' => ((∃ o q cq, clP v l = some o ∧ e = .returned (.tuple #[.slice q o.length cq, .bool true]) ∧ OwI ty_int w' q cq o ∧ ∀ k, blk q = some k → w.heap.size ≤ k) ∨ (clP v l = none ∧ e = .returned (.tuple #[.slice none 0 0, .bool false]))) ∧ Grow w w' := by
  subst hn hnv
  refine fathomref18_clause.calls ?_
  intro n1 w2 h2
  have e1 := h2.num
  have O2 : OwI ty_int w2 (some ⟨n1, 0, none⟩) 0 [] := Ow.of_some h2.at (Nat.le_refl _) (Nat.zero_le _) rfl rfl
  refine ⟨fun pc nc cc i w' k => ∃ (t : Nat) (o : List Int), nc = o.length ∧ i = t ∧ t ≤ l.length ∧ clP v (l.take t) = some o ∧ o.length ≤ t ∧ OwI ty_int w' pc cc o ∧ (∀ k, blk pc = some k → w.heap.size ≤ k) ∧ Grow w w' ∧ k + t = l.length, ⟨_, 0, [], rfl, rfl, Nat.zero_le _, rfl, Nat.zero_le _, O2, fun k hk => by have := blk_some hk; omega, h2.mod, rfl⟩, ?_⟩
  clear O2
  rintro pc nc cc i w6 k _ ⟨t, o, rfl, rfl, ht, ho, hol, O, fr, G, hk⟩
  refine cnd_i (fun q => ?_) (fun q => ?_) <;> simp only [decide_eq_true_eq, decide_eq_false_iff_not] at q
  · have ht' : t < l.length := by omega
    have hbl := hb _ (getD_mem ht' 0)
    have ct := clP_take ht' ho
    have ix : ∀ {K : Addr → Prop}, (∀ a, w6.cell? a = some (.int .i64 (l.getD t 0)) → K a) → ixK p l.length (t : Int) 1 K := fun hk => (hl.grow G).ix 0 (by omega) rfl q fun a e => hk a (by rw [Int.toNat_natCast] at e; exact e)
    generalize l.getD t 0 = y at *
    refine ix fun a e => ⟨_, e, cnd_i (fun q1 => ?_) (fun q1 => ix fun a e => ⟨_, e, cnd_i (fun q2 => ?_) (fun q2 => ?_)⟩)⟩ <;> simp only [beq_iff_eq, beq_eq_false_iff_ne, decide_eq_true_eq, decide_eq_false_iff_not] at *
    · refine ⟨.inr ⟨?_, trivial⟩, G⟩
      rw [if_pos q1] at ct
      have hne : clP v l = none := by
        cases hh : clP v l with
        | none => rfl
        | some o' =>
          have := clP_pre hh (t := t + 1)
          rw [ct] at this
          obtain ⟨_, h⟩ := this
          cases h
      exact hne
    · rw [if_neg q1, if_neg (by omega)] at ct
      have hd : y.tdiv 2 = y / 2 := Int.tdiv_eq_ediv_of_nonneg (by omega)
      have w1 : IntKind.i64.wrap (y.tdiv 2) = y.tdiv 2 := wrap64_of (by omega) (by omega)
      have w2' : IntKind.i64.wrap (y.tdiv 2 - 1) = y.tdiv 2 - 1 := wrap64_of (by omega) (by omega)
      have cp : codeP v y = if y.tmod 2 = 1 then - v.getD (y.tdiv 2 - 1).toNat 0 else v.getD (y.tdiv 2 - 1).toNat 0 := by
        unfold codeP; rw [if_neg (by omega)]
      have sm := hs _ (getD_mem (l := v) (t := (y.tdiv 2 - 1).toNat) (by omega) 0)
      have next : ∀ (z : Int), z = codeP v y → ∀ (n19 : Nat) (w20 : World), New (.cells #[.int .i64 z] 3) w6 n19 w20 → 
            ∃ w21 : World, ∃ r22_p : Option Addr, ∃ r22_n : Nat, ∃ r22_c : Nat, (Builtin.append_ #[24, 24] 24 #[.slice pc o.length cc, .slice (some (Addr.mk n19 0 none)) 1 1]).run Try.prog w20 = .ok (.slice r22_p r22_n r22_c) w21 ∧ 
            ∃ k5 : Nat, k5 < k ∧ ∃ (t' : Nat) (o : List Int), r22_n = o.length ∧ IntKind.i64.wrap ((t : Int) + 1) = t' ∧ t' ≤ l.length ∧ clP v (l.take t') = some o ∧ o.length ≤ t' ∧ OwI ty_int w21 r22_p r22_c o ∧ (∀ k, blk r22_p = some k → w.heap.size ≤ k) ∧ Grow w w21 ∧ k5 + t' = l.length := by
        rintro z rfl n19 w20 h19
        refine (O.grow h19.mod).app1 sl_int _ h19.has rfl rfl oneInt (by omega) fun w17 p17 c17 O17 m17 hp17 z17 => ?_
        have g16 := G.trans h19.mod
        refine ⟨k - 1, by omega, t + 1, _, by simp, by rw [wrap64_of (by omega) (by omega)]; omega, ht', ct, by simp; omega, O17, fun j hj => ?_, g16.then m17 fun j hj e => by have := fr j e; omega, by omega⟩
        rcases hp17 with h1 | h1 <;> rw [h1] at hj
        · exact fr j hj
        · have := blk_some hj; have := g16.size; omega
      refine ix fun a e => ⟨_, e, by decide, ?_⟩
      rw [w1, w2']
      refine (hv.grow G).ix 0 (by omega) rfl (by omega) fun a15 e15 => ⟨_, e15, ix fun a e => ⟨_, e, by decide, cnd_i (fun q3 => next _ ?_) (fun q3 => next _ ?_)⟩⟩ <;> simp only [beq_iff_eq, beq_eq_false_iff_ne] at q3
      · rw [cp, if_pos q3, wrap64_of (by omega) (by omega)]; omega
      · rw [cp, if_neg q3]
    · have : y = 0 := by omega
      rw [if_neg q1, if_pos this] at ct
      exact ⟨k - 1, by omega, t + 1, o, rfl, by rw [wrap64_of (by omega) (by omega)]; omega, ht', ct, by omega, O, fr, G, by omega⟩
  · have : t = l.length := by omega
    subst this
    rw [List.take_length] at ho
    exact ⟨.inl ⟨o, pc, cc, ho, rfl, O, fr⟩, G⟩
end Go.Proofs.Ytambabpklfeaoaa.W
