/- Layer 2: the document's arena in memory; packed. -/
import Derived.Test.YtamckcamloelbaaArena8
namespace Go.Proofs.Ytamckcamloelbaa.W
open Go Go.Fw Go.RowKit Go.ArP

def hlv (hs : List Hd) : List Hd := hs.filter fun h => !h.2

theorem filt {Q : Hd → It → Prop} (hQ : ∀ h x, Q h x → h.2 = x.2) : ∀ (hs : List Hd) (l : List It), hs.length = l.length → (∀ j, j < l.length → Q (hs.getD j hd0) (l.getD j ([], true))) → (hlv hs).length = (liv l).length ∧ ∀ j, j < (liv l).length → Q ((hlv hs).getD j hd0) ((liv l).getD j ([], true))
  | [], [], _, _ => ⟨rfl, fun j hj => by simp [liv] at hj⟩
  | [], _ :: _, h, _ => by simp at h
  | _ :: _, [], h, _ => by simp at h
  | h :: hs, x :: l, hl, hp => by
    have h0 : Q h x := hp 0 (by simp)
    obtain ⟨i1, i2⟩ := filt hQ hs l (by simpa using hl) fun j hj => by simpa using hp (j + 1) (by simpa using hj)
    have e := hQ h x h0
    cases hb : x.2
    · have e1 : hlv (h :: hs) = h :: hlv hs := by simp [hlv, e, hb]
      have e2 : liv (x :: l) = x :: liv l := by simp [liv, hb]
      rw [e1, e2]
      refine ⟨by simp [i1], fun j hj => ?_⟩
      cases j with
      | zero => exact h0
      | succ j => simpa using i2 j (by simpa using hj)
    · have e1 : hlv (h :: hs) = hlv hs := by simp [hlv, e, hb]
      have e2 : liv (x :: l) = liv l := by simp [liv, hb]
      rw [e1, e2]
      exact ⟨i1, i2⟩

theorem RR.liv_ {w : World} {q p : Option Addr} {c : Nat} {hs : List Hd} {l : List It} (h : RR w q hs l) {t : Nat} (ht : t ≤ l.length) (R : HRow w p c (hlv (hs.take t))) : RR w p (hlv (hs.take t)) (liv (l.take t)) := by
  have := filt (Q := fun h x => h.1.n = x.1.length ∧ Vw (Value.int .i64) w h.1.p x.1 ∧ h.2 = x.2) (fun h x q => q.2.2) (hs.take t) (l.take t) (by simp [h.n]) fun j hj => by
    have hj' : j < t := by simp at hj; omega
    have e1 : (hs.take t).getD j hd0 = hs.getD j hd0 := by simp [List.getD, hj']
    have e2 : (l.take t).getD j ([], true) = l.getD j ([], true) := by simp [List.getD, hj']
    rw [e1, e2]
    exact h.r j (by omega)
  exact ⟨R.vr hvE, this.1, this.2⟩

theorem hlv_take {hs : List Hd} {t : Nat} (h : t < hs.length) : hlv (hs.take (t + 1)) = hlv (hs.take t) ++ (if (hs.getD t hd0).2 then [] else [hs.getD t hd0]) := by
  rw [List.take_add_one]
  have : hs.getD t hd0 = hs[t] := by simp [List.getD, h]
  rw [this]
  unfold hlv
  rw [List.filter_append]
  congr 1
  cases hb : hs[t].2 <;> simp [h, hb]
theorem liv_take {l : List It} {t : Nat} (h : t < l.length) : liv (l.take (t + 1)) = liv (l.take t) ++ (if (l.getD t ([], true)).2 then [] else [l.getD t ([], true)]) := by
  rw [List.take_add_one, liv_app, ← liv_one]
  simp [List.getD, h]
theorem liv_pre (l : List It) (t : Nat) : (liv l).take (liv (l.take t)).length = liv (l.take t) := by
  conv => lhs; rw [← List.take_append_drop t l, liv_app]
  rw [List.take_append_of_le_length (by simp), List.take_of_length_le (by simp)]

set_option maxHeartbeats 1000000 in
theorem refPack_ok {w : World} {q : Option Addr} {hs : List Hd} {l : List It} {n c : Nat} (h : RR w q hs l) (hn : n = l.length) (hw : (wds l).length ≤ 4000000) :
    Calls Try.prog fathomref02_Pack.id #[.agg #[.slice q n c]] w fun e w' => (∃ p' n' c' pm cm, e = .returned (.tuple #[.agg #[.slice p' n' c'], .slice pm (mvs l).length cm]) ∧ RUpd w w' q hs (fun _ => False) (liv l) p' n' ∧ Row 2 mvV ty_api_Move w' pm cm (mvs l) ∧ ∀ j, blk pm = some j → w.heap.size ≤ j) ∧ Grow w w' := by
  subst hn
  refine fathomref02_Pack.calls ?_
  intro n1 w2 h2 n3 w4 h4 n5 w6 h6
  have e1 := h2.num
  have e3 := h4.num
  have e5 := h6.num
  have z2 := New.size h2
  have z4 := New.size h4
  have z6 := New.size h6
  have hll := len_le l
  have hhn := h.n
  refine store_i h6.has rfl rfl fun w7 h7 m7 => ?_
  intro n8 w9 h9
  have e8 := h9.num
  have z7 := m7.size
  have z9 := New.size h9
  have g67 : Grow w4 w7 := h6.mod.then m7 fun j hj e => by omega
  have H1 : Has w9 n1 #[.slice q l.length c] := ((h2.has.old h4).grow g67).old h9
  have H3 : Has w9 n3 #[.slice none 0 0] := (h4.has.grow g67).old h9
  have H5 : Has w9 n5 #[.slice none 0 0] := h7.old h9
  have G9 : Grow w w9 := ((h2.mod.trans h4.mod).trans g67).trans h9.mod
  have RL : Row 2 mvV ty_api_Move w9 (some ⟨n8, 0, none⟩) 0 [] := Row.of_some mvE.len h9.at (Nat.le_refl _) (Nat.zero_le _) rfl rfl
  refine ⟨_, _, _, cells1 H1, (refPlaces_ok (h.grow G9) rfl (by omega)).mono ?_⟩
  rintro e w11 ⟨⟨pp, cp, rfl, OP, frP⟩, g11⟩
  refine ⟨_, _, _, rfl, ?_⟩
  replace H1 := H1.grow g11
  replace H3 := H3.grow g11
  replace H5 := H5.grow g11
  replace RL := RL.grow g11
  have G11 := G9.trans g11
  have z11 := g11.size
  have z0 := G11.size
  have hr : RR w11 q hs l := h.grow G11
  clear h2 h4 h6 h7 m7 h9 g67 G9 g11
  have hpl : (plc l 0).length = (liv l).length := plc_len l 0
  have hlvl : (liv l).length ≤ l.length := List.length_filter_le _ _
  have hml : (mvs l).length = (liv l).length := by rw [mvs_len, hpl]
  refine ⟨fun pm nm cm i w' k => ∃ (t : Nat) (po : Option Addr) (co : Nat), i = t ∧ t ≤ l.length ∧ nm = ((mvs l).take (liv (l.take t)).length).length ∧ Row 2 mvV ty_api_Move w' pm cm ((mvs l).take (liv (l.take t)).length) ∧ (∀ j, blk pm = some j → j = n8 ∨ w11.heap.size ≤ j) ∧ Has w' n5 #[.slice po (hlv (hs.take t)).length co] ∧ HRow w' po co (hlv (hs.take t)) ∧ (∀ j, blk po = some j → w11.heap.size ≤ j) ∧ (∀ j, blk po = some j → blk pm ≠ some j) ∧ Mod (fun j => j = n5 ∨ j = n8) w11 w' ∧ k + t = l.length,
    ⟨l.length, 0, none, 0, rfl, Nat.zero_le _, rfl, RL, fun j hj => .inl (blk_some hj), H5, Row.nil _ _ _ _, by simp [blk], by simp [blk], Mod.refl _, rfl⟩, ?_⟩
  clear RL H5
  rintro pm nm cm i w18 k _ ⟨t, po, co, rfl, ht, rfl, RL, frL, H5, RO, frO, dj, G, hk⟩
  replace H1 := H1.keep G (by omega)
  replace H3 := H3.keep G (by omega)
  replace OP := OP.keep G (fun j hj e => by have := frP j hj; omega)
  have hG : ∀ j, RFoot q hs j → ¬ (j = n5 ∨ j = n8) := fun j hj e => by have := h.lt j hj; omega
  replace hr := hr.keep G hG
  have zG := G.size
  have hn8 : n8 < w11.heap.size := by omega
  refine ⟨_, _, _, cell_add H1 rfl, cnd_i (fun qq => ?_) (fun qq => ?_)⟩ <;> simp only [decide_eq_true_eq, decide_eq_false_iff_not] at qq
  · have ht' : t < l.length := by omega
    refine ⟨_, _, _, cell_add H1 rfl, hr.ix rfl ht' fun a21 x0 x1 => ⟨_, x1, cnd_i (fun q2 => ?_) (fun q2 => ?_)⟩⟩ <;> simp only [Bool.not_eq_true', Bool.not_eq_false'] at q2
    · have lt1 := liv_take ht'
      rw [q2, if_neg (by simp)] at lt1
      have hq2 : (hs.getD t hd0).2 = false := by rw [(h.r t ht').2.2, q2]
      have ht2 := hlv_take (hs := hs) (t := t) (by omega)
      rw [hq2, if_neg (by simp)] at ht2
      have hcnt : (hlv (hs.take t)).length = (liv (l.take t)).length := (hr.liv_ ht RO).n
      have hle : (liv (l.take (t + 1))).length ≤ (liv l).length := by
        have := liv_take_le l (i := t + 1) (j := l.length) (by omega)
        rwa [List.take_length] at this
      rw [lt1, List.length_append] at hle
      simp only [List.length_singleton] at hle
      have hmv : (mvs l).take (liv (l.take (t + 1))).length = (mvs l).take (liv (l.take t)).length ++ [((plc l 0).getD (liv (l.take t)).length 0, ((wds (liv (l.take t))).length : Int))] := by
        rw [lt1, List.length_append]
        refine mvs_take (by omega) rfl ?_
        rw [plc_liv l (by omega)]
        unfold off
        rw [liv_pre]
      have hwle : (wds (liv (l.take t))).length ≤ (wds l).length := by
        refine Nat.le_trans (wds_liv_le _) ?_
        conv => rhs; rw [← List.take_append_drop t l, wds_app, List.length_append]
        omega
      have hmt : ((mvs l).take (liv (l.take t)).length).length = (liv (l.take t)).length := by simp; omega
      replace H1 : Has w18.drew n1 _ := H1.drew
      replace H5 : Has w18.drew n5 _ := H5.drew
      replace hr : RR w18.drew q hs l := hr.drew
      replace OP : OwI ty_int w18.drew pp cp (plc l 0) := OP.drew
      replace RL : Row 2 mvV ty_api_Move w18.drew pm cm _ := RL.drew
      replace RO : HRow w18.drew po co _ := RO.drew
      replace G : Mod _ w11 w18.drew := G.drew
      have zc : w11.heap.size ≤ w18.drew.heap.size := zG
      have hlt : ∀ j, RFoot q hs j → j < w.heap.size := h.lt
      clear x0 x1 zG H3
      generalize w18.drew = wc at *
      have e3' : IntKind.i64.wrap ((t : Int) + 1) = ((t + 1 : Nat) : Int) := by rw [wrap64_of (by omega) (by omega)]; omega
      rw [e3']
      have hixn : ((hlv (hs.take t)).length : Int) < (plc l 0).length := by omega
      repeat' first
        | apply And.intro
        | refine ⟨_, _, _, cells1 H5, ?_⟩
        | refine ⟨_, _, _, cell_add H5 rfl, ?_⟩
        | refine ⟨_, _, _, cell_add H1 rfl, ?_⟩
        | (refine OP.ix 0 (by omega) rfl hixn fun a25 e25 => ?_
           rw [Int.toNat_natCast, hcnt] at e25
           try have e25g : ∀ w', Grow wc w' → w'.cell? a25 = some (.int .i64 ((plc l 0).getD (liv (l.take t)).length 0)) := fun w' g => cell_keep g e25 id)
        | refine ⟨_, e25, ?_⟩
        | refine ⟨_, e25g _ (by assumption), ?_⟩
        | (refine (refWords_ok (hr.liv_ ht RO) hcnt (by omega)).mono ?_
           rintro e w27 ⟨rfl, g27⟩
           refine ⟨_, rfl, ?_⟩
           replace H1 := H1.grow g27
           replace H5 := H5.grow g27
           replace hr := hr.grow g27
           replace OP := OP.grow g27
           replace RL := RL.grow g27
           replace RO := RO.grow g27
           replace G := G.grow g27
           replace zc := Nat.le_trans zc g27.size)
        | (intro n29 w30 h30
           replace H1 := H1.old h30
           replace H5 := H5.old h30
           replace hr := hr.grow h30.mod
           replace RL := RL.grow h30.mod
           replace RO := RO.grow h30.mod
           replace G := G.grow h30.mod
           replace zc := Nat.le_trans zc h30.mod.size
           have V1 := Vr.one (f := mvV) (sz := 2) (x := ((plc l 0).getD (liv (l.take t)).length 0, ((wds (liv (l.take t))).length : Int))) h30.has
           clear OP h30)
        | (refine Row.app mvE sl_mv RL V1 rfl rfl (by simp; omega) fun w31 pR cR R31 mR hpR zR => ?_
           have frR : ∀ j, blk pR = some j → j = n8 ∨ w11.heap.size ≤ j := fun j hj => by
             rcases hpR with h1 | h1 <;> rw [h1] at hj
             · exact frL j hj
             · exact .inr (by rw [blk_some hj]; exact zc)
           have djR : ∀ j, blk po = some j → blk pR ≠ some j := fun j hj e => by
             rcases hpR with h1 | h1 <;> rw [h1] at e
             · exact dj j hj e
             · have := blk_some e; have := RO.lt j hj; omega
           replace H1 := (H1.keep mR (fun e => by have := frL _ e; omega)).drew
           replace H5 := (H5.keep mR (fun e => by have := frL _ e; omega)).drew
           replace hr := (hr.keep mR (fun j hj e => by have := frL j e; have := hlt j hj; omega)).drew
           replace RO := (RO.keep mR (fun j hj e => dj j hj e)).drew
           replace G := (G.then mR (fun j hj e => by have := frL j e; omega)).drew
           replace zc : w11.heap.size ≤ w31.drew.heap.size := Nat.le_trans zc mR.size
           replace R31 := R31.drew
           rw [← hmv] at R31
           clear RL V1 mR)
        | (refine hr.ix rfl ht' fun a34 y0 y1 => ?_
           rw [q2] at y1
           refine ⟨_, _, _, _, ⟨y0, y1, trivial⟩, ?_⟩)
        | (refine on_newI (h := ((hs.getD t hd0).1, false)) fun nI w39 I eI mm => ?_
           have neO : blk po ≠ some nI := fun e => by have := RO.lt _ e; omega
           have ne5 : n5 ≠ nI := by have := H5.lt; omega
           replace H5 := H5.grow mm
           replace RO := RO.grow mm
           replace R31 := R31.grow mm
           replace G := G.grow mm
           replace zc := Nat.le_trans zc mm.size
           clear mm)
        | (refine Row.app (news := [((hs.getD t hd0).1, false)]) hvE sl_item RO (Vr.one I) rfl rfl (by simp; omega) fun w40 pN cN RN mN hpN zN => ?_
           have frN : ∀ j, blk pN = some j → w11.heap.size ≤ j := fun j hj => by
             rcases hpN with h1 | h1 <;> rw [h1] at hj
             · exact frO j hj
             · rw [blk_some hj]; exact zc
           have djN : ∀ j, blk pN = some j → blk pR ≠ some j := fun j hj e => by
             rcases hpN with h1 | h1 <;> rw [h1] at hj
             · exact djR j hj e
             · have := blk_some hj; have := R31.lt j e; omega
           replace H5 := H5.keep mN (fun e => by have := frO _ e; omega)
           replace R31 := R31.keep mN (fun j hj e => djR j e hj)
           replace G := G.then mN (fun j hj e => by have := frO j e; omega)
           clear mN)
        | (refine store_f H5 rfl rfl fun w42 h42 m42 => ⟨k - 1, by omega, t + 1, pN, cN, rfl, ht', ?_, R31.keep m42 (fun j hj e => by have := frR j hj; omega), frR, ?_, ?_, frN, djN, G.trans (m42.mono fun j _ e => .inl e), by omega⟩
           · rw [hmv]
           · rw [ht2]
             have : hs.getD t hd0 = ((hs.getD t hd0).1, false) := by rw [← hq2]
             rw [this]
             exact h42
           · rw [ht2]
             have : hs.getD t hd0 = ((hs.getD t hd0).1, false) := by rw [← hq2]
             rw [this]
             exact RN.keep m42 (fun j hj e => by have := frN j hj; omega))
    · have lt1 := liv_take ht'
      rw [q2, if_pos rfl, List.append_nil] at lt1
      have hq2 : (hs.getD t hd0).2 = true := by rw [(h.r t ht').2.2, q2]
      have ht2 := hlv_take (hs := hs) (t := t) (by omega)
      rw [hq2, if_pos rfl, List.append_nil] at ht2
      exact ⟨k - 1, by omega, t + 1, po, co, by rw [wrap64_of (by omega) (by omega)]; omega, ht', by rw [lt1], by rw [lt1]; exact RL, frL, by rw [ht2]; exact H5, by rw [ht2]; exact RO, frO, dj, G, by omega⟩
  · have et : t = l.length := by omega
    subst et
    have RR1 := hr.liv_ ht RO
    rw [List.take_length] at RR1 RL
    have em : (mvs l).take (liv l).length = mvs l := List.take_of_length_le (by omega)
    rw [List.take_length, em]
    rw [em] at RL
    refine ⟨_, _, _, cells1 H5, store_i H3 rfl rfl fun w9 H9 m9 => ⟨_, _, _, cells1 H9, ?_⟩⟩
    have G' : Grow w w9 := (G11.then G fun j hj e => by omega).then m9 fun j hj e => by omega
    have k3 : ∀ j, RFoot po (hlv (hs.take l.length)) j → ¬ j = n3 := by
      rintro j (⟨_, hj⟩ | ⟨hd, hmem, hpos, hj⟩) e
      · have := frO j hj; omega
      · have := h.lt j (.inr ⟨hd, List.mem_of_mem_take (List.mem_filter.1 hmem).1, hpos, hj⟩)
        omega
    refine ⟨⟨_, _, _, _, _, rfl, ⟨_, RR1.keep m9 k3, RR1.n, ?_⟩, RL.keep m9 fun j hj e => (by have := frL j hj; omega), fun j hj => by have := frL j hj; omega⟩, G'⟩
    rintro j (⟨_, hj⟩ | ⟨hd, hmem, hpos, hj⟩)
    · have := frO j hj
      exact .inr (.inr (by omega))
    · exact .inl (.inr ⟨hd, List.mem_of_mem_take (List.mem_filter.1 hmem).1, hpos, hj⟩)
end Go.Proofs.Ytamckcamloelbaa.W
