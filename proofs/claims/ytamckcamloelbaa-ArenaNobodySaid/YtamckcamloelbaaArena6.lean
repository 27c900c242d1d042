/- Layer 2: the document's arena in memory; what is looked at. -/
import Derived.Test.YtamckcamloelbaaArena5
namespace Go.Proofs.Ytamckcamloelbaa.W
open Go Go.Fw Go.RowKit Go.ArP

abbrev Hd := Sl × Bool
abbrev hd0 : Hd := (Sl.nil, true)
abbrev hv (h : Hd) : List Value := [h.1.v, .bool h.2]
theorem hvE : Enc 2 hv := ⟨fun _ => rfl, by decide, fun x v hm => by simp [hv] at hm; rcases hm with rfl | rfl <;> rfl⟩
theorem sl_item : slOkN Try.prog ty_sl_fathomref02_Item ty_fathomref02_Item 2 32 = true := by kernel_rfl

def RFoot (q : Option Addr) (hs : List Hd) (k : Nat) : Prop := (hs ≠ [] ∧ blk q = some k) ∨ ∃ h ∈ hs, 0 < h.1.n ∧ blk h.1.p = some k

/-- The document's items in memory. -/
structure RR (w : World) (q : Option Addr) (hs : List Hd) (l : List It) : Prop where
  v : Vr 2 hv w q hs
  n : hs.length = l.length
  r : ∀ j, j < l.length → (hs.getD j hd0).1.n = (l.getD j ([], true)).1.length ∧ Vw (Value.int .i64) w (hs.getD j hd0).1.p (l.getD j ([], true)).1 ∧ (hs.getD j hd0).2 = (l.getD j ([], true)).2

theorem mem_hd {hs : List Hd} {j : Nat} (h : j < hs.length) : hs.getD j hd0 ∈ hs := by simp [List.getD, h]
theorem hd_mem {hs : List Hd} {h : Hd} (hm : h ∈ hs) : ∃ j, j < hs.length ∧ hs.getD j hd0 = h := by
  obtain ⟨j, hj⟩ := List.getElem?_of_mem hm
  have hl := (List.getElem?_eq_some_iff.1 hj).1
  exact ⟨j, hl, by simp [List.getD, hj]⟩

theorem RR.keep {w w' : World} {q : Option Addr} {hs : List Hd} {l : List It} {S : Nat → Prop} (h : RR w q hs l) (m : Mod S w w') (hS : ∀ k, RFoot q hs k → ¬ S k) : RR w' q hs l := by
  refine ⟨?_, h.n, fun j hj => ?_⟩
  · by_cases e : hs = []
    · subst e; exact Vr.nil
    · exact h.v.keep m fun k hk => hS k (.inl ⟨e, hk⟩)
  · obtain ⟨h1, h2, h3⟩ := h.r j hj
    refine ⟨h1, Vw.keep' h2 m fun hne k hk => hS k (.inr ⟨_, mem_hd (by rw [h.n]; exact hj), ?_, hk⟩), h3⟩
    rw [h1]; exact List.length_pos_iff.2 hne
theorem RR.grow {w w' : World} {q : Option Addr} {hs : List Hd} {l : List It} (h : RR w q hs l) (m : Grow w w') : RR w' q hs l := h.keep m fun _ _ => id
theorem RR.drew {w : World} {q : Option Addr} {hs : List Hd} {l : List It} (h : RR w q hs l) : RR w.drew q hs l := h.grow (Mod.refl w).drew
theorem RR.lt {w : World} {q : Option Addr} {hs : List Hd} {l : List It} (h : RR w q hs l) : ∀ k, RFoot q hs k → k < w.heap.size := by
  rintro k (⟨hne, hk⟩ | ⟨hh, hm, h0, hk⟩)
  · obtain ⟨a, rfl, hc⟩ := h.v 0 (List.length_pos_iff.2 hne)
    have := World.block_lt_of_cell? w _ hc.1
    rw [add_block, add_block] at this
    simp [blk] at hk
    omega
  · obtain ⟨j, hj, rfl⟩ := hd_mem hm
    obtain ⟨h1, h2, h3⟩ := h.r j (by rw [← h.n]; exact hj)
    exact h2.lt (List.length_pos_iff.1 (by rw [← h1]; exact h0)) k hk

theorem cells1 {w : World} {b : Nat} {x : Value} (h : Has w b #[x]) : CellsAt w ⟨b, 0, none⟩ 0 [x] := ⟨cell_add h rfl, trivial⟩

/-- An item is looked at. -/
theorem RR.ix {w : World} {q : Option Addr} {hs : List Hd} {l : List It} (h : RR w q hs l) {t : Nat} {n : Nat} (hn : n = l.length) (ht : t < l.length) {K : Addr → Prop} (hk : ∀ a, w.cell? (a.add 0) = some (hs.getD t hd0).1.v → w.cell? (a.add 1) = some (.bool (l.getD t ([], true)).2) → K a) : ixK q n (t : Int) 2 K := by
  refine h.v.ix hd0 (by omega) (by rw [hn, h.n]) (by omega) fun a e => ?_
  rw [Int.toNat_natCast] at e
  exact hk a e.1 (by rw [← (h.r t ht).2.2]; exact e.2.1)

theorem New.size {o : Obj} {w w' : World} {n : Nat} (h : New o w n w') : w'.heap.size = w.heap.size + 1 := by rw [h.eq]; simp

def idI (l : List It) (a : Int) : Int → Prop := fun r => (∃ i : Nat, At l a i ∧ r = i) ∨ (r = -1 ∧ ∀ i, ¬ At l a i)

theorem refAt_ok {w : World} {q : Option Addr} {hs : List Hd} {l : List It} {n c : Nat} (h : RR w q hs l) (hn : n = l.length) (hw : (wds l).length ≤ 4194304) (a : Int) :
    Calls Try.prog fathomref02_at.id #[.agg #[.slice q n c], .int .i64 a] w fun e w' => (∃ r, e = .returned (.int .i64 r) ∧ idI l a r) ∧ Grow w w' := by
  subst hn
  refine fathomref02_at.calls ?_
  intro n1 w2 h2
  have H := h2.has
  have hll := len_le l
  refine ⟨fun m i w' k => ∃ t : Nat, i = t ∧ m = off l t ∧ t ≤ l.length ∧ (∀ j, j < t → ¬ At l a j) ∧ Grow w2 w' ∧ k + t = l.length, ⟨l.length, 0, rfl, by rw [off_zero]; rfl, Nat.zero_le _, fun j hj => by omega, Mod.refl _, rfl⟩, ?_⟩
  rintro m i w8 k _ ⟨t, rfl, rfl, ht, no, g, hk⟩
  have G := h2.mod.trans g
  have hr := h.grow G
  have H8 := H.grow g
  refine ⟨_, _, _, cell_add H8 rfl, cnd_i (fun qq => ?_) (fun qq => ?_)⟩ <;> simp only [decide_eq_true_eq, decide_eq_false_iff_not] at qq
  · have ht' : t < l.length := by omega
    have he := off_end ht'
    have hrn := (hr.r t ht').1
    have e2 : IntKind.i64.wrap (IntKind.i64.wrap ((off l t : Int) + 2) + ((hs.getD t hd0).1.n : Int)) = (off l (t + 1) : Int) := by
      rw [wrap64_of (x := (off l t : Int) + 2) (by omega) (by omega), hrn, wrap64_of (by omega) (by omega), off_next ht']
      omega
    have next : ¬ At l a t → ∃ k5 : Nat, k5 < k ∧ ∃ t' : Nat, IntKind.i64.wrap ((t : Int) + 1) = t' ∧ IntKind.i64.wrap (IntKind.i64.wrap ((off l t : Int) + 2) + ((hs.getD t hd0).1.n : Int)) = off l t' ∧ t' ≤ l.length ∧ (∀ j, j < t' → ¬ At l a j) ∧ Grow w2 w8 ∧ k5 + t' = l.length := fun hna =>
      ⟨k - 1, by omega, t + 1, by rw [wrap64_of (by omega) (by omega)]; omega, e2, ht', fun j hj => by
        rcases Nat.lt_or_ge j t with c | c
        · exact no j c
        · have : j = t := by omega
          subst this; exact hna, g, by omega⟩
    refine cnd_i (fun q2 => ?_) (fun q2 => ?_) <;> simp only [beq_iff_eq, beq_eq_false_iff_ne] at q2
    · refine ⟨_, _, _, cell_add H8 rfl, hr.ix rfl ht' fun a11 x0 x1 => ⟨_, x1, cnd_i (fun q3 => ?_) (fun q3 => ?_)⟩⟩ <;> simp only [Bool.not_eq_true', Bool.not_eq_false'] at q3
      · exact ⟨⟨_, rfl, .inl ⟨t, ⟨ht', q2, q3⟩, rfl⟩⟩, G⟩
      · exact ⟨_, _, _, cell_add H8 rfl, hr.ix rfl ht' fun a14 y0 y1 => ⟨_, _, _, y0, next fun e => by rw [e.2.2] at q3; cases q3⟩⟩
    · exact ⟨_, _, _, cell_add H8 rfl, hr.ix rfl ht' fun a14 y0 y1 => ⟨_, _, _, y0, next fun e => q2 e.2.1⟩⟩
  · have : t = l.length := by omega
    subst this
    exact ⟨⟨_, rfl, .inr ⟨rfl, fun i hi => no i hi.1 hi⟩⟩, G⟩

theorem refWords_ok {w : World} {q : Option Addr} {hs : List Hd} {l : List It} {n c : Nat} (h : RR w q hs l) (hn : n = l.length) (hw : (wds l).length ≤ 4194304) :
    Calls Try.prog fathomref02_Words.id #[.agg #[.slice q n c]] w fun e w' => e = .returned (.int .i64 ((wds l).length : Int)) ∧ Grow w w' := by
  subst hn
  refine fathomref02_Words.calls ?_
  intro n1 w2 h2
  have H := h2.has
  have hll := len_le l
  refine ⟨fun m i w' k => ∃ t : Nat, i = t ∧ m = off l t ∧ t ≤ l.length ∧ Grow w2 w' ∧ k + t = l.length, ⟨l.length, 0, rfl, by rw [off_zero]; rfl, Nat.zero_le _, Mod.refl _, rfl⟩, ?_⟩
  rintro m i w8 k _ ⟨t, rfl, rfl, ht, g, hk⟩
  have G := h2.mod.trans g
  have hr := h.grow G
  have H8 := H.grow g
  refine ⟨_, _, _, cell_add H8 rfl, cnd_i (fun qq => ?_) (fun qq => ?_)⟩ <;> simp only [decide_eq_true_eq, decide_eq_false_iff_not] at qq
  · have ht' : t < l.length := by omega
    have he := off_end ht'
    have hrn := (hr.r t ht').1
    have e2 : IntKind.i64.wrap (IntKind.i64.wrap ((off l t : Int) + 2) + ((hs.getD t hd0).1.n : Int)) = (off l (t + 1) : Int) := by
      rw [wrap64_of (x := (off l t : Int) + 2) (by omega) (by omega), hrn, wrap64_of (by omega) (by omega), off_next ht']
      omega
    exact ⟨_, _, _, cell_add H8 rfl, hr.ix rfl ht' fun a14 y0 y1 => ⟨_, _, _, y0, k - 1, by omega, t + 1, by rw [wrap64_of (by omega) (by omega)]; omega, e2, ht', g, by omega⟩⟩
  · have : t = l.length := by omega
    subst this
    rw [off_len]
    exact ⟨rfl, G⟩

theorem wst_take {l : List It} {t : Nat} (h : t < l.length) : wst (l.take (t + 1)) = wst (l.take t) + (if (l.getD t ([], true)).2 then (l.getD t ([], true)).1.length + 2 else 0) := by
  rw [List.take_add_one, wst_app]
  simp [List.getD, h, wst]
theorem wst_take_le (l : List It) (t : Nat) : wst (l.take t) ≤ (wds l).length := by
  have h1 := wst_le (l.take t)
  have h2 : (wds (l.take t)).length ≤ (wds l).length := by
    conv => rhs; rw [← List.take_append_drop t l, wds_app, List.length_append]
    omega
  omega

theorem refWaste_ok {w : World} {q : Option Addr} {hs : List Hd} {l : List It} {n c : Nat} (h : RR w q hs l) (hn : n = l.length) (hw : (wds l).length ≤ 4194304) :
    Calls Try.prog fathomref02_Waste.id #[.agg #[.slice q n c]] w fun e w' => e = .returned (.int .i64 (wst l : Int)) ∧ Grow w w' := by
  subst hn
  refine fathomref02_Waste.calls ?_
  intro n1 w2 h2
  have H := h2.has
  have hll := len_le l
  refine ⟨fun m i w' k => ∃ t : Nat, i = t ∧ m = wst (l.take t) ∧ t ≤ l.length ∧ Grow w2 w' ∧ k + t = l.length, ⟨l.length, 0, rfl, rfl, Nat.zero_le _, Mod.refl _, rfl⟩, ?_⟩
  rintro m i w8 k _ ⟨t, rfl, rfl, ht, g, hk⟩
  have G := h2.mod.trans g
  have hr := h.grow G
  have H8 := H.grow g
  refine ⟨_, _, _, cell_add H8 rfl, cnd_i (fun qq => ?_) (fun qq => ?_)⟩ <;> simp only [decide_eq_true_eq, decide_eq_false_iff_not] at qq
  · have ht' : t < l.length := by omega
    have he := off_end ht'
    have hrn := (hr.r t ht').1
    have hwt := wst_take ht'
    have hwl := wst_take_le l t
    refine ⟨_, _, _, cell_add H8 rfl, hr.ix rfl ht' fun a14 y0 y1 => ⟨_, y1, cnd_i (fun q2 => ?_) (fun q2 => ?_)⟩⟩
    · rw [q2, if_pos rfl] at hwt
      refine ⟨_, _, _, cell_add H8 rfl, hr.ix rfl ht' fun a z0 z1 => ⟨_, _, _, z0, k - 1, by omega, t + 1, by rw [wrap64_of (by omega) (by omega)]; omega, ?_, ht', g, by omega⟩⟩
      rw [hwt, wrap64_of (x := (wst (l.take t) : Int) + 2) (by omega) (by omega), hrn, wrap64_of (by omega) (by omega)]
      omega
    · rw [q2, if_neg (by simp)] at hwt
      exact ⟨k - 1, by omega, t + 1, by rw [wrap64_of (by omega) (by omega)]; omega, by rw [hwt]; rfl, ht', g, by omega⟩
  · have : t = l.length := by omega
    subst this
    rw [List.take_length]
    exact ⟨rfl, G⟩

theorem refPlaces_ok {w : World} {q : Option Addr} {hs : List Hd} {l : List It} {n c : Nat} (h : RR w q hs l) (hn : n = l.length) (hw : (wds l).length ≤ 4194304) :
    Calls Try.prog fathomref02_Places.id #[.agg #[.slice q n c]] w fun e w' => (∃ p c, e = .returned (.slice p (plc l 0).length c) ∧ OwI ty_int w' p c (plc l 0) ∧ ∀ k, blk p = some k → w.heap.size ≤ k) ∧ Grow w w' := by
  subst hn
  refine fathomref02_Places.calls ?_
  intro n1 w2 h2 n3 w4 h4
  have H := h2.has.old h4
  have hll := len_le l
  have hn3 := h4.num
  have z2 := h2.mod.size
  have o4 : OwI ty_int w4 (some ⟨n3, 0, none⟩) 0 [] := Ow.of_some h4.at (Nat.le_refl _) (Nat.zero_le _) rfl rfl
  refine ⟨fun p m c s i w' k => ∃ t : Nat, m = (plc (l.take t) 0).length ∧ i = t ∧ s = off l t ∧ t ≤ l.length ∧ OwI ty_int w' p c (plc (l.take t) 0) ∧ (∀ j, blk p = some j → w2.heap.size ≤ j) ∧ Mod (fun j => j = n3) w4 w' ∧ k + t = l.length, ⟨l.length, 0, rfl, rfl, by rw [off_zero]; rfl, Nat.zero_le _, o4, fun j hj => by simp [blk] at hj; omega, Mod.refl _, rfl⟩, ?_⟩
  rintro p m c s i w11 k _ ⟨t, rfl, rfl, rfl, ht, o, fr, g, hk⟩
  have G : Grow w w11 := (h2.mod.trans h4.mod).then g fun j hj e => by omega
  have hr := h.grow G
  have H8 := H.keep g (by have := H.lt; have := h2.has.lt; omega)
  have z4 : w4.heap.size = w2.heap.size + 1 := New.size h4
  refine ⟨_, _, _, cell_add H8 rfl, cnd_i (fun qq => ?_) (fun qq => ?_)⟩ <;> simp only [decide_eq_true_eq, decide_eq_false_iff_not] at qq
  · have ht' : t < l.length := by omega
    have he := off_end ht'
    have hrn := (hr.r t ht').1
    have e2 : IntKind.i64.wrap (IntKind.i64.wrap ((off l t : Int) + 2) + ((hs.getD t hd0).1.n : Int)) = (off l (t + 1) : Int) := by
      rw [wrap64_of (x := (off l t : Int) + 2) (by omega) (by omega), hrn, wrap64_of (by omega) (by omega), off_next ht']
      omega
    refine ⟨_, _, _, cell_add H8 rfl, hr.ix rfl ht' fun a14 y0 y1 => ⟨_, y1, cnd_i (fun q2 => ?_) (fun q2 => ?_)⟩⟩ <;> simp only [Bool.not_eq_true', Bool.not_eq_false'] at q2
    · intro n16 w17 h17
      have hpl : (plc (l.take t) 0).length ≤ t := by rw [plc_len]; exact Nat.le_trans (List.length_filter_le _ _) (by simp; omega)
      refine (o.grow h17.mod).app1 sl_int (off l t : Int) h17.has rfl rfl oneInt (by omega) fun w18 p18 c18 o18 m18 hp z18 => ?_
      have hn1 := h2.has.lt
      have g18 : Mod (fun j => blk p = some j) w11 w18 := (h17.mod.mono fun _ _ => False.elim).trans m18
      have H18 := H8.keep g18 (fun e => by have := fr n1 e; have := h2.num; omega)
      have hr18 := hr.keep g18 (fun j hj e => by have := fr j e; have := h.lt j hj; omega)
      refine ⟨_, _, _, cell_add H18 rfl, hr18.ix rfl ht' fun a z0 z1 => ⟨_, _, _, z0, k - 1, by omega, t + 1, ?_, by rw [wrap64_of (by omega) (by omega)]; omega, e2, ht', ?_, fun j hj => ?_, ?_, by omega⟩⟩
      · rw [plc_take ht', q2]; simp
      · rw [plc_take ht', q2]; exact o18
      · rcases hp with rfl | rfl
        · exact fr j hj
        · simp [blk] at hj
          have := g.size
          have := h17.mod.size
          omega
      · exact g.then g18 fun j hj e => by
          have := fr j e
          omega
    · refine ⟨_, _, _, cell_add H8 rfl, hr.ix rfl ht' fun a z0 z1 => ⟨_, _, _, z0, k - 1, by omega, t + 1, ?_, by rw [wrap64_of (by omega) (by omega)]; omega, e2, ht', ?_, fr, g, by omega⟩⟩
      · rw [plc_take ht', q2]; simp
      · rw [plc_take ht', q2]; simpa using o
  · have : t = l.length := by omega
    subst this
    rw [List.take_length] at o ⊢
    exact ⟨⟨p, c, rfl, o, fun j hj => by have := fr j hj; omega⟩, G⟩

theorem refGet_ok {w : World} {q : Option Addr} {hs : List Hd} {l : List It} {n c : Nat} (h : RR w q hs l) (hn : n = l.length) (hw : (wds l).length ≤ 4194304) (a : Int) :
    Calls Try.prog fathomref02_Get.id #[.agg #[.slice q n c], .int .i64 a] w fun e w' => ((∃ i, At l a i ∧ ∃ p c, e = .returned (.tuple #[.slice p (l.getD i ([], true)).1.length c, .bool true]) ∧ Vw (Value.int .i64) w' p (l.getD i ([], true)).1) ∨ ((∀ i, ¬ At l a i) ∧ e = .returned (.tuple #[.slice none 0 0, .bool false]))) ∧ Grow w w' := by
  subst hn
  refine fathomref02_Get.calls ?_
  intro n1 w2 h2
  have H := h2.has
  have hr := h.grow h2.mod
  refine ⟨_, _, _, cells1 H, (refAt_ok hr rfl hw a).mono ?_⟩
  rintro e w4 ⟨⟨r, rfl, hi⟩, g4⟩
  have G := h2.mod.trans g4
  refine ⟨_, rfl, cnd_i (fun t => ?_) (fun t => ?_)⟩ <;> simp only [decide_eq_true_eq, decide_eq_false_iff_not] at t
  · rcases hi with ⟨i, hi, rfl⟩ | ⟨rfl, hi⟩
    · omega
    · exact ⟨.inr ⟨hi, rfl⟩, G⟩
  · rcases hi with ⟨i, hi, rfl⟩ | ⟨rfl, hi⟩
    · have hr4 := hr.grow g4
      obtain ⟨x1, x2, x3⟩ := hr4.r i hi.1
      exact ⟨_, _, _, cell_add (H.grow g4) rfl, hr4.ix rfl hi.1 fun a7 y0 y1 => ⟨_, _, _, y0, .inl ⟨i, hi, _, _, by rw [← x1], x2⟩, G⟩⟩
    · omega
end Go.Proofs.Ytamckcamloelbaa.W
