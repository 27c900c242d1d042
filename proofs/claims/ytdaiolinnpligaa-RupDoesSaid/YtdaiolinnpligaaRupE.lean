/- Layer 7: the document's step. -/
import Derived.Test.YtdaiolinnpligaaRupD
namespace Go.Proofs.Ytdaiolinnpligaa.W
open Go Go.Fw Go.RowKit Go.SoP Go.LiP
variable {w w' w0 w2 w3 u0 u u' : World} {p q : Option Addr} {n m c d : Nat} {k : Int} {hs ks : List Sl} {cs : List (List Int)} {l : List Int}

/-! ## A list of clauses grows, in any order of evaluation -/
structure Dz (u0 u : World) (sl : Sl) (v : Value) (r : Option (Option Addr × Nat × List Sl)) (l c : Option Nat) : Prop where
  g : Grow u0 u
  r : ∀ p d hs, r = some (p, d, hs) → Ow Sl.v ty_sl_int u p d hs ∧ ∀ k, blk p = some k → u0.heap.size ≤ k ∧ l ≠ some k ∧ c ≠ some k
  l : ∀ n, l = some n → Has u n #[.slice sl.p sl.n sl.c] ∧ u0.heap.size ≤ n
  c : ∀ n, c = some n → Has u n #[.int .i64 0, .slice none 0 0] ∧ u0.heap.size ≤ n
variable {sl : Sl} {v : Value} {r : Option (Option Addr × Nat × List Sl)} {ol oc : Option Nat}

theorem Dz.E (D : Dz u0 u sl v none ol oc) {K : Nat → World → Prop} (hk : ∀ n u', Dz u0 u' sl v (some (some ⟨n, 0, none⟩, 0, [])) ol oc → Grow u0 u' → K n u') :
    ∀ (n : Nat) (u' : World), New (.cells #[] ty_sl_int) u n u' → Grow u0 u' ∧ K n u' := by
  intro n u' h
  have G := D.g.trans h.mod
  have e := h.num
  have z := D.g.size
  refine ⟨G, hk n u' ⟨G, fun p d hs e2 => ?_, fun n2 e2 => ⟨(D.l n2 e2).1.grow h.mod, (D.l n2 e2).2⟩, fun n2 e2 => ⟨(D.c n2 e2).1.grow h.mod, (D.c n2 e2).2⟩⟩ G⟩
  simp only [Option.some.injEq, Prod.mk.injEq] at e2
  obtain ⟨rfl, rfl, rfl⟩ := e2
  refine ⟨New.empty h, fun k hk => ?_⟩
  have := blk_some hk
  subst this
  exact ⟨by omega, fun e2 => by have := (D.l _ e2).1.lt; omega, fun e2 => by have := (D.c _ e2).1.lt; omega⟩
theorem Dz.L (D : Dz u0 u sl v r none oc) {K : Nat → World → Prop} (hk : ∀ n u', Dz u0 u' sl v r (some n) oc → Grow u0 u' → K n u') :
    ∀ (n : Nat) (u' : World), New (.cells #[.slice sl.p sl.n sl.c] ty_sl_int) u n u' → Grow u0 u' ∧ K n u' := by
  intro n u' h
  have G := D.g.trans h.mod
  have e := h.num
  have z := D.g.size
  refine ⟨G, hk n u' ⟨G, fun p d hs e2 => ⟨(D.r p d hs e2).1.grow h.mod, fun k hk => ?_⟩, fun n2 e2 => ?_, fun n2 e2 => ⟨(D.c n2 e2).1.grow h.mod, (D.c n2 e2).2⟩⟩ G⟩
  · obtain ⟨a1, a2, a3⟩ := (D.r p d hs e2).2 k hk
    have := (D.r p d hs e2).1.lt k hk
    exact ⟨a1, fun e3 => by injection e3; omega, a3⟩
  · injection e2 with e2
    subst e2
    exact ⟨h.has, by omega⟩
theorem Dz.C (D : Dz u0 u sl v r ol none) {K : Nat → World → Prop} (hk : ∀ n u', Dz u0 u' sl v r ol (some n) → Grow u0 u' → K n u') :
    ∀ (n : Nat) (u' : World), New (.cells #[.int .i64 0, .slice none 0 0] ty_api_Cnf) u n u' → Grow u0 u' ∧ K n u' := by
  intro n u' h
  have G := D.g.trans h.mod
  have e := h.num
  have z := D.g.size
  refine ⟨G, hk n u' ⟨G, fun p d hs e2 => ⟨(D.r p d hs e2).1.grow h.mod, fun k hk => ?_⟩, fun n2 e2 => ⟨(D.l n2 e2).1.grow h.mod, (D.l n2 e2).2⟩, fun n2 e2 => ?_⟩ G⟩
  · obtain ⟨a1, a2, a3⟩ := (D.r p d hs e2).2 k hk
    have := (D.r p d hs e2).1.lt k hk
    exact ⟨a1, a2, fun e3 => by injection e3; omega⟩
  · injection e2 with e2
    subst e2
    exact ⟨h.has, by omega⟩
theorem Dz.app {hs0 news : List Sl} {p0 : Option Addr} {d0 m0 k0 n0 : Nat} (D : Dz u0 u sl v (some (p0, d0, hs0)) ol oc) (hv : Vw Sl.v u q news) (hn : n0 = hs0.length) (hm : m0 = news.length) (hlen : hs0.length + news.length ≤ 100000) {K : World → Option Addr → Nat → Nat → Prop}
    (hk : ∀ u' p' c', Dz u0 u' sl v (some (p', c', hs0 ++ news)) ol oc → Grow u0 u' → K u' p' (hs0 ++ news).length c') :
    ∃ u', ∃ p' n' c', (Builtin.append_ #[ty_sl_sl_int, ty_sl_sl_int] ty_sl_sl_int #[.slice p0 n0 d0, .slice q m0 k0]).run Try.prog u = .ok (.slice p' n' c') u' ∧ K u' p' n' c' := by
  obtain ⟨o, f⟩ := D.r _ _ _ rfl
  have z := D.g.size
  refine o.appV sl_sl_int hv hn hm (fun _ => rfl) (by omega) fun u' p' c' o' m' hp' hz' => ?_
  have G : Grow u0 u' := D.g.then m' fun k hk e => by have := (f k e).1; omega
  refine hk u' p' c' ⟨G, fun p d hs e2 => ?_, fun n2 e2 => ⟨(D.l n2 e2).1.keep m' fun e => (f _ e).2.1 e2, (D.l n2 e2).2⟩, fun n2 e2 => ⟨(D.c n2 e2).1.keep m' fun e => (f _ e).2.2 e2, (D.c n2 e2).2⟩⟩ G
  simp only [Option.some.injEq, Prod.mk.injEq] at e2
  obtain ⟨rfl, rfl, rfl⟩ := e2
  refine ⟨o', fun k hk => ?_⟩
  rcases hp' with rfl | rfl
  · exact f k hk
  · have := blk_some hk
    subst this
    exact ⟨by omega, fun e2 => by have := (D.l _ e2).1.lt; omega, fun e2 => by have := (D.c _ e2).1.lt; omega⟩
theorem Dz.A {n0 : Nat} {d0 : Nat} {p0 : Option Addr} {m0 k0 : Nat} (D : Dz u0 u sl v (some (p0, d0, [])) ol oc) (hv : Vw Sl.v u0 q hs) (hn : n0 = 0) (hm : m0 = hs.length) (hlen : hs.length ≤ 99999) {K : World → Option Addr → Nat → Nat → Prop}
    (hk : ∀ u' p' c', Dz u0 u' sl v (some (p', c', hs)) ol oc → Grow u0 u' → K u' p' hs.length c') :
    ∃ u', ∃ p' n' c', (Builtin.append_ #[ty_sl_sl_int, ty_sl_sl_int] ty_sl_sl_int #[.slice p0 n0 d0, .slice q m0 k0]).run Try.prog u = .ok (.slice p' n' c') u' ∧ Grow u0 u' ∧ K u' p' n' c' :=
  D.app (hs0 := []) (hv.grow D.g) hn hm (by simp; omega) fun u' p' c' D' g => ⟨g, hk u' p' c' D' g⟩
theorem Dz.B {n0 : Nat} {d0 nl k0 : Nat} {p0 : Option Addr} (D : Dz u0 u sl v (some (p0, d0, hs)) (some nl) oc) (hn : n0 = hs.length) (hlen : hs.length ≤ 99999) {K : World → Option Addr → Nat → Nat → Prop}
    (hk : ∀ u' p' c', Dz u0 u' sl v (some (p', c', hs ++ [sl])) (some nl) oc → Grow u0 u' → K u' p' (hs ++ [sl]).length c') :
    ∃ u', ∃ p' n' c', (Builtin.append_ #[ty_sl_sl_int, ty_sl_sl_int] ty_sl_sl_int #[.slice p0 n0 d0, .slice (some (Addr.mk nl 0 none)) 1 k0]).run Try.prog u = .ok (.slice p' n' c') u' ∧ Grow u0 u' ∧ K u' p' n' c' :=
  D.app (news := [sl]) (fun j hj => by
    have : j = 0 := by simpa using hj
    subst this
    exact ⟨_, rfl, cell_add (D.l nl rfl).1 rfl⟩) hn rfl (by simp; omega) fun u' p' c' D' g => ⟨g, hk u' p' c' D' g⟩

/-- The formula with a clause more. -/
def Dn (u0 : World) (k : Int) (hs : List Sl) (a : Addr) (u : World) : Prop := ∃ (n : Nat) (p : Option Addr) (d : Nat), a = ⟨n, 0, none⟩ ∧ Has u n #[.int .i64 k, .slice p hs.length d] ∧ Ow Sl.v ty_sl_int u p d hs ∧ Grow u0 u ∧ u0.heap.size ≤ n ∧ ∀ j, blk p = some j → u0.heap.size ≤ j ∧ j ≠ n
theorem Dz.S {p0 : Option Addr} {d0 n0 nc : Nat} (D : Dz u0 u sl v (some (p0, d0, hs)) ol (some nc)) (hn : n0 = hs.length) (k : Int) {K : World → Prop} (hk : ∀ u', Dn u0 k hs ⟨nc, 0, none⟩ u' → K u') :
    ∃ u', StoreAt (Addr.mk nc 0 none) 0 [.int .i64 k, .slice p0 n0 d0] u u' ∧ K u' := by
  subst hn
  obtain ⟨o, f⟩ := D.r _ _ _ rfl
  obtain ⟨hc, hcz⟩ := D.c _ rfl
  refine store_i hc rfl rfl fun u' b' m' => hk u' ⟨nc, p0, d0, rfl, b', o.keep m' fun j hj e => (f j hj).2.2 (by rw [e]), D.g.then m' fun j hj e => by omega, hcz, fun j hj => ⟨(f j hj).1, fun e => (f j hj).2.2 (by rw [e])⟩⟩

end Go.Proofs.Ytdaiolinnpligaa.W
/- Layer 7: the document's step. -/
namespace Go.Proofs.Ytdaiolinnpligaa.W
open Go Go.Fw Go.RowKit Go.SoP Go.LiP
variable {w w' w0 w2 w3 u0 u u' : World} {p q : Option Addr} {n m c d : Nat} {k : Int} {hs ks : List Sl} {cs : List (List Int)} {l : List Int}

theorem VR.part {α : Type} {f : α → Value} {rows : List (List α)} (h : VR f w hs rows) (i : Nat) (hi : i < rows.length) : VR f w (hs.take i ++ hs.drop (i + 1)) (rows.take i ++ rows.drop (i + 1)) := by
  refine VR.app ⟨by simp [h.n], fun j hj => ?_⟩ ⟨by simp [h.n], fun j hj => ?_⟩
  · rw [List.length_take] at hj
    have e : ∀ {β : Type} (l : List β) (d : β), (l.take i).getD j d = l.getD j d := fun l d => by
      simp only [List.getD_eq_getElem?_getD, List.getElem?_take]; rw [if_pos (by omega)]
    rw [e, e]
    exact h.r j (by omega)
  · rw [List.length_drop] at hj
    have e : ∀ {β : Type} (l : List β) (d : β), (l.drop (i + 1)).getD j d = l.getD (i + 1 + j) d := fun l d => by
      simp only [List.getD_eq_getElem?_getD, List.getElem?_drop]
    rw [e, e]
    exact h.r _ (by omega)
theorem Vw.takeS {α : Type} {f : α → Value} {l : List α} (h : Vw f w p l) {k : Nat} (hk : k ≤ l.length) : Vw f w p (l.take k) := by
  have := h.part (i := 0) (m := k) (by omega)
  rwa [ep0, List.drop_zero] at this
theorem Vw.dropS {α : Type} {f : α → Value} {l : List α} (h : Vw f w p l) {k c : Nat} (hk : k ≤ l.length) (hc : l.length ≤ c) : Vw f w (if c = k then p else p.map (·.add (k * 1))) (l.drop k) := by
  by_cases e : c = k
  · rw [List.drop_eq_nil_of_le (by omega)]; exact Vw.nil
  · rw [if_neg e]
    have := h.part (i := k) (m := l.length - k) (by omega)
    rwa [List.take_of_length_le (by rw [List.length_drop]; omega)] at this

/-- The document's step. -/
theorem refDo7_ok {b : Bool} (hc : V2 (Value.int .i64) w p hs cs) (hn : n = cs.length) (hx : cs.length ≤ 1000) (hd : n ≤ d) (hcs : ∀ c ∈ cs, c.length ≤ 4096 ∧ ∀ x ∈ c, litB x = true) (hl : Vw (Value.int .i64) w q l) (hm : m = l.length) (hcl : clB l = true) :
    Calls Try.prog fathomref07_Do.id #[.agg #[.int .i64 k, .slice p n d], .agg #[.bool b, .slice q m c]] w fun e w' => ∃ (p' : Option Addr) (d' : Nat) (hs' : List Sl), e = .returned (.tuple #[.agg #[.int .i64 (stepV k cs (b, l)), .slice p' (stepC cs (b, l)).length d'], .int .i64 (stepE cs (b, l))]) ∧ V2 (Value.int .i64) w' p' hs' (stepC cs (b, l)) ∧ (stepC cs (b, l)).length ≤ d' ∧ Grow w w' ∧ ∀ j, footN p' hs' j → footN p hs j ∨ rfoot [⟨q, l.length, c⟩] j ∨ w.heap.size ≤ j := by
  subst hn hm
  have hcl' := clB_all hcl
  refine fathomref07_Do.calls ?_
  intro n1 w2 h2 n3 w4 h4 n5 w6 h6
  have e5 := h6.num
  have z2 := h2.mod.size
  have z4 := h4.mod.size
  have G6 : Grow w w6 := (h2.mod.trans h4.mod).trans h6.mod
  have b1 : Has w6 n1 #[.int .i64 k, .slice p cs.length d] := (h2.has.grow h4.mod).grow h6.mod
  have b3 : Has w6 n3 #[.bool b, .slice q l.length c] := h4.has.grow h6.mod
  have b5 : Has w6 n5 _ := h6.has
  refine ⟨_, cell_add b3 rfl, ?_⟩
  cases b with
  | true =>
    obtain ⟨s1, s2, s3⟩ := step_del (cs := cs) (s := ((true, l) : Stp)) (k := k) rfl
    rw [s1, s2, s3]
    refine cnd_t rfl ⟨_, _, _, cell_add b3 rfl, (refOrder_ok (hl.grow G6) rfl (by omega) hcl'.1).mono ?_⟩
    rintro e w9 ⟨qw, dw, rfl, ow, g9⟩
    refine ⟨_, _, _, rfl, ?_⟩
    refine ⟨fun I u z => ∃ i : Nat, I = i ∧ i ≤ cs.length ∧ z = cs.length - i ∧ Grow w9 u ∧ ∀ j, j < i → norm (cs.getD j []) ≠ norm l, ⟨_, 0, rfl, Nat.zero_le _, rfl, Mod.refl _, fun j hj => by omega⟩, ?_⟩
    rintro I u z _ ⟨i, rfl, hi, rfl, gu, hno⟩
    have Gu := g9.trans gu
    refine ⟨_, _, _, cell_add (b1.grow Gu) rfl, cnd_i (fun r => ?_) (fun r => ?_)⟩
    · have r : i < cs.length := by simpa using r
      have hmem := getD_mem2 r
      refine ⟨_, _, _, cell_add (b1.grow Gu) rfl, (hc.grow (G6.trans Gu)).ix (by omega) rfl (by omega) fun a sl k1 k0 k2 k3 k4 => ⟨_, _, _, k1, ?_⟩⟩
      rw [Int.toNat_natCast] at k2 k4
      have hci := hcs _ hmem
      refine (refOrder_ok k4 k2 (by omega) hci.2).mono ?_
      rintro e w20 ⟨q2, d2, rfl, o20, g20⟩
      have nl := norm_len (cs.getD i [])
      have nl2 := norm_len l
      refine ⟨_, _, _, rfl, (refInts_ok o20.vw ((ow.grow gu).grow g20).vw rfl rfl (by unfold maxLen; omega)).mono ?_⟩
      rintro e w22 ⟨rfl, g22⟩
      have G22 : Grow w6 w22 := (Gu.trans g20).trans g22
      refine ⟨_, rfl, cnd_i (fun r2 => ?_) (fun r2 => ?_)⟩
      · have r2 : norm (cs.getD i []) = norm l := by simpa using r2
        rw [delP_at r hno r2]
        intro n24 w25 h25
        have e25 := h25.num
        have G25 := G22.trans h25.mod
        have GG := G6.trans G25
        have vh : Vw Sl.v w p hs := hc.h
        have hln := hc.n
        refine ⟨_, _, _, cell_add (b1.grow G25) rfl, ?_⟩
        refine slK_i 0 i d rfl rfl rfl (by omega) (by omega) (by omega) ?_
        have ei : (if d = 0 then p else p.map (·.add (0 * 1))) = p := by split; rfl; exact ep0 p
        rw [ei, Nat.sub_zero, Nat.sub_zero]
        refine Ow.appV (l := ([] : List Sl)) sl_sl_int (New.empty h25) (Vw.takeS (vh.grow GG) (k := i) (by omega)) rfl (by rw [List.length_take]; omega) (fun _ => rfl) (by simp; omega) fun w28 p28 c28 o28 m28 hp28 hz28 => ?_
        have z6 := G6.size
        have z22 := G22.size
        have f28 : ∀ j, blk p28 = some j → w22.heap.size ≤ j := fun j hj => by
          have z25 := h25.mod.size
          rcases hp28 with rfl | rfl
          · have := blk_some hj; omega
          · have := blk_some hj; omega
        have G28 : Grow w22 w28 := h25.mod.then m28 fun j hj e => by have := blk_some e; omega
        refine ⟨Grow w22, G28.drew, _, fun v g => cell_add (b1.grow (G22.trans g)) rfl, _, _, _, fun v g => cell_add (b1.grow (G22.trans g)) rfl, ?_⟩
        rw [wN (i := i + 1) (by omega) (by omega)]
        refine slK_i (i + 1) cs.length d rfl rfl rfl (by omega) (by omega) (by omega) ?_
        rw [List.nil_append] at o28
        refine Ow.appV sl_sl_int o28.drew (Vw.dropS ((vh.grow ((G6.trans G22).trans G28)).drew) (k := i + 1) (by omega) (by omega)) (by simp) (by rw [List.length_drop]; omega) (fun _ => rfl) (by simp; omega) fun w34 p34 c34 o34 m34 hp34 hz34 => ?_
        have f34 : ∀ j, blk p34 = some j → w22.heap.size ≤ j := fun j hj => by
          have zz : w28.drew.heap.size = w28.heap.size := rfl
          have := G28.size
          rcases hp34 with rfl | rfl
          · exact f28 j hj
          · have := blk_some hj; omega
        have G34 : Grow w22 w34 := G28.drew.then m34 fun j hj e => by have := f28 j e; omega
        have el : (hs.take i ++ hs.drop (i + 1)).length = (cs.eraseIdx i).length := by
          rw [List.length_eraseIdx, if_pos r, List.length_append, List.length_take, List.length_drop]; omega
        rw [el]
        refine ⟨G34, store_i (b5.grow (G22.trans G34)) rfl rfl fun w36 b36 m36 => ⟨_, _, _, _, cells2 b36, p34, c34, hs.take i ++ hs.drop (i + 1), rfl, ?_, ?_, ((G6.trans G22).trans G34).then m36 fun j hj e => by omega, fun j hj => ?_⟩⟩
        · rw [List.eraseIdx_eq_take_drop_succ]
          have GW : Grow w w36 := ((G6.trans G22).trans G34).then m36 fun j hj e => by omega
          have i5 := b5.lt
          have := G22.size
          exact ((VR.part hc.vr i r).grow GW).v2 (o34.keep m36 fun j hj e => by have := f34 j hj; omega).vw
        · rw [← el]
          rcases o34.un with ⟨_, _, e⟩ | ⟨_, _, _, _, h, _⟩
          · rw [e]; exact Nat.zero_le _
          · exact h
        · rcases hj with ⟨_, hj⟩ | ⟨x, hx, h0, hj⟩
          · have := f34 j hj
            have := G22.size
            exact .inr (.inr (by omega))
          · refine .inl (.inr ⟨x, ?_, h0, hj⟩)
            rcases List.mem_append.1 hx with hx | hx
            · exact List.mem_of_mem_take hx
            · exact List.mem_of_mem_drop hx
      · have r2 : norm (cs.getD i []) ≠ norm l := by simpa using r2
        refine ⟨_, by omega, i + 1, wN (by omega) (by omega), r, rfl, (gu.trans g20).trans g22, fun j hj => ?_⟩
        by_cases e : j < i
        · exact hno j e
        · obtain rfl : j = i := by omega
          exact r2
    · have r : i = cs.length := by simp at r; omega
      subst r
      rw [delP_no hno]
      refine ⟨_, _, _, _, cells2 (b1.grow Gu), store_i (b5.grow Gu) rfl rfl fun w41 b41 m41 => ⟨_, _, _, _, cells2 b41, p, d, hs, rfl, hc.grow ((G6.trans Gu).then m41 fun j hj e => by omega), hd, (G6.trans Gu).then m41 fun j hj e => by omega, fun j hj => .inl hj⟩⟩
  | false =>
    refine cnd_f rfl ⟨_, _, _, cell_add b1 rfl, cnd_f (by simp; omega) ?_⟩
    refine ⟨fun u => Grow w6 u ∧ (uB cs l ∨ fB cs l), ⟨_, _, _, cell_add b1 rfl, _, _, _, cell_add b3 rfl, (refUnit7_ok (hc.grow G6) rfl (by omega) (fun c hc => (hcs c hc).2) (hl.grow G6) rfl (by omega) hcl'.1).mono ?_⟩, ?_⟩
    · rintro e w53 ⟨r, rfl, hr, g53⟩
      refine ⟨_, rfl, cnd_i (fun r1 => ?_) (fun r1 => ⟨g53, .inl (hr.1 (by simpa using r1))⟩)⟩
      have r1 : ¬ uB cs l := fun e => by rw [hr.2 e] at r1; cases r1
      refine ⟨_, _, _, cell_add (b1.grow g53) rfl, _, _, _, cell_add (b3.grow g53) rfl, (refFirst7_ok (hc.grow (G6.trans g53)) rfl (by omega) (fun c hc => (hcs c hc).2) (fun c hc => (hcs c hc).1) (hl.grow (G6.trans g53)) rfl (by omega) hcl'.1).mono ?_⟩
      rintro e w57 ⟨r2, rfl, hr2, g57⟩
      have G57 := g53.trans g57
      refine ⟨_, rfl, cnd_i (fun r3 => ?_) (fun r3 => ⟨G57, .inr (hr2.1 (by simpa using r3))⟩)⟩
      have r3 : ¬ fB cs l := fun e => by rw [hr2.2 e] at r3; cases r3
      obtain ⟨s1, s2, s3⟩ := step_bad (cs := cs) (s := ((false, l) : Stp)) (k := k) rfl (fun e => e.elim r1 r3)
      rw [s1, s2, s3]
      exact ⟨_, _, _, _, cells2 (b1.grow G57), store_i (b5.grow G57) rfl rfl fun w61 b61 m61 => ⟨_, _, _, _, cells2 b61, p, d, hs, rfl, hc.grow ((G6.trans G57).then m61 fun j hj e => by omega), hd, (G6.trans G57).then m61 fun j hj e => by omega, fun j hj => .inl hj⟩⟩
    · rintro w64 _ ⟨g64, hok⟩
      obtain ⟨s1, s2, s3⟩ := step_add (cs := cs) (s := ((false, l) : Stp)) (k := k) rfl hok
      rw [s1, s2, s3]
      have vh : Vw Sl.v w64.drew p hs := (hc.h.grow (G6.trans g64)).drew
      have hln := hc.n
      have D0 : Dz w64.drew w64.drew ⟨q, l.length, c⟩ (.bool true) none none none := ⟨Mod.refl _, fun _ _ _ e => (by cases e), fun _ e => (by cases e), fun _ e => (by cases e)⟩
      refine ⟨Dn w64.drew k (hs ++ [⟨q, l.length, c⟩]), ⟨Grow w64.drew, Mod.refl _, _, fun v g => cell_add ((b1.grow g64).drew.grow g) rfl, _, _, _, fun v g => cell_add ((b1.grow g64).drew.grow g) rfl, _, _, _, fun v g => cell_add ((b3.grow g64).drew.grow g) rfl, ?_⟩, ?_⟩
      · repeat' first
          | (with_reducible refine Dz.E (by assumption) fun _ _ _ _ => ?_)
          | (with_reducible refine Dz.L (by assumption) fun _ _ _ _ => ?_)
          | (with_reducible refine Dz.C (by assumption) fun _ _ _ _ => ?_)
          | (with_reducible refine Dz.A (by assumption) vh rfl hln.symm (by omega) fun _ _ _ _ _ => ?_)
          | (with_reducible refine Dz.B (by assumption) rfl (by omega) fun _ _ _ _ _ => ?_)
          | (with_reducible refine Dz.S (by assumption) rfl _ fun _ h => h)
          | with_reducible refine And.intro ?_ ?_
      · rintro _ w190 _ ⟨nc, p', d', rfl, bc, o, gc, hz, hf⟩
        have zd : w64.drew.heap.size = w64.heap.size := rfl
        have G190 : Grow w6 w190 := g64.drew.trans gc
        refine ⟨fun I u z => ∃ i : Nat, I = i ∧ i ≤ l.length ∧ z = l.length - i ∧ Mod (· = nc) w190 u ∧ Has u nc #[.int .i64 (vmx k (l.take i)), .slice p' (hs ++ [(⟨q, l.length, c⟩ : Sl)]).length d'], ⟨_, 0, rfl, Nat.zero_le _, rfl, Mod.refl _, bc⟩, ?_⟩
        rintro I u z _ ⟨i, rfl, hi, rfl, mu, bu⟩
        have z64 := g64.size
        have GU : Grow w6 u := G190.then mu fun j hj e => by omega
        refine ⟨_, _, _, cell_add (b3.grow GU) rfl, cnd_i (fun r => ?_) (fun r => ?_)⟩
        · have r : i < l.length := by simpa using r
          have hb := litB_b2 (hcl'.1 _ (getD_mem' r))
          refine ⟨_, _, _, cell_add (b3.grow GU) rfl, (hl.grow (G6.trans GU)).ix 0 (by omega) rfl (by omega) fun a e => ⟨_, e, ?_⟩⟩
          rw [Int.toNat_natCast]
          refine (refVar_ok (by omega) u (by omega)).mono ?_
          rintro e w200 ⟨rfl, g200⟩
          have b200 := bu.grow g200
          have step : ∀ (W : World), vmx k (l.take (i + 1)) = (if amt (l.getD i 0) > vmx k (l.take i) then amt (l.getD i 0) else vmx k (l.take i)) := fun _ => by
            rw [vmx_succ r]
            unfold imax amt
            repeat' split
            all_goals omega
          have step := step u
          refine ⟨_, rfl, _, cell_add b200 rfl, cnd_i (fun r2 => ?_) (fun r2 => ?_)⟩
          · have r2 : amt (l.getD i 0) > vmx k (l.take i) := by simpa using r2
            rw [if_pos r2] at step
            refine store_f b200 rfl rfl fun w203 b203 m203 => ⟨_, by omega, i + 1, wN (by omega) (by omega), r, rfl, (mu.grow g200).trans m203, by rw [step]; exact b203⟩
          · have r2 : ¬ amt (l.getD i 0) > vmx k (l.take i) := by simpa using r2
            rw [if_neg r2] at step
            exact ⟨_, by omega, i + 1, wN (by omega) (by omega), r, rfl, mu.grow g200, by rw [step]; exact b200⟩
        · have r : i = l.length := by simp at r; omega
          subst r
          rw [List.take_length] at bu
          have i5 := b5.lt
          have GW : Grow w u := G6.trans GU
          have el : (hs ++ [(⟨q, l.length, c⟩ : Sl)]).length = (cs ++ [l]).length := by simp [hln]
          have o2 := o.keep mu fun j hj => (hf j hj).2
          rw [el] at bu
          refine ⟨_, _, _, _, cells2 bu, store_i (b5.grow GU) rfl rfl fun w206 b206 m206 => ⟨_, _, _, _, cells2 b206, p', d', hs ++ [⟨q, l.length, c⟩], rfl, ?_, ?_, GW.then m206 fun j hj e => by omega, fun j hj => ?_⟩⟩
          · have GX : Grow w w206 := GW.then m206 fun j hj e => by omega
            exact ((hc.vr.app (VR.one (s := ⟨q, l.length, c⟩) hl rfl (by show l.length ≤ maxLen; unfold maxLen; omega))).grow GX).v2 (o2.keep m206 fun j hj e => by have := (hf j hj).1; omega).vw
          · rw [← el]
            rcases o2.un with ⟨_, _, e⟩ | ⟨_, _, _, _, h, _⟩
            · rw [e]; exact Nat.zero_le _
            · exact h
          · rcases hj with ⟨_, hj⟩ | hj
            · have := (hf j hj).1
              have := G6.size
              exact .inr (.inr (by omega))
            · rcases rfoot_app.1 hj with hj | hj
              · exact .inl (.inr hj)
              · exact .inr (.inl hj)

end Go.Proofs.Ytdaiolinnpligaa.W
/- Layer 7: where a proof ends, by the document; a short proof proves. -/
namespace Go.Proofs.Ytdaiolinnpligaa.W
open Go Go.Fw Go.RowKit Go.SoP Go.LiP
variable {w w' w0 w2 w3 u0 u u' : World} {p q : Option Addr} {n m c d : Nat} {k : Int} {hs ks : List Sl} {cs : List (List Int)} {l : List Int}

theorem stepC_lits {s : Stp} (hcs : ∀ c ∈ cs, c.length ≤ 4096 ∧ ∀ x ∈ c, litB x = true) (hs : clB s.2 = true) : ∀ c ∈ stepC cs s, c.length ≤ 4096 ∧ ∀ x ∈ c, litB x = true := by
  intro c hc
  cases h : s.1 with
  | true =>
    rw [(step_del (k := 0) h).2.1] at hc
    have : ∀ {cs : List (List Int)}, c ∈ delP s.2 cs → c ∈ cs := by
      intro cs
      induction cs with
      | nil => exact fun h => h
      | cons x l ih =>
        intro h
        unfold delP at h
        split at h
        · exact List.mem_cons_of_mem _ h
        · rcases List.mem_cons.1 h with h | h
          · exact h ▸ List.mem_cons_self ..
          · exact List.mem_cons_of_mem _ (ih h)
    exact hcs c (this hc)
  | false =>
    by_cases h2 : uB cs s.2 ∨ fB cs s.2
    · rw [(step_add (k := 0) h h2).2.1] at hc
      rcases List.mem_append.1 hc with hc | hc
      · exact hcs c hc
      · rw [List.mem_singleton] at hc
        subst hc
        exact ⟨(clB_all hs).2, (clB_all hs).1⟩
    · rw [(step_bad (k := 0) h h2).2.1] at hc
      exact hcs c hc
theorem stepC_len {s : Stp} : (stepC cs s).length ≤ cs.length + 1 := by
  cases h : s.1 with
  | true =>
    rw [(step_del (k := 0) h).2.1]
    have : ∀ {cs : List (List Int)}, (delP s.2 cs).length ≤ cs.length := by
      intro cs
      induction cs with
      | nil => exact Nat.le_refl _
      | cons x l ih =>
        unfold delP
        split
        · simp
        · simpa using ih
    have := this (cs := cs)
    omega
  | false =>
    by_cases h2 : uB cs s.2 ∨ fB cs s.2
    · rw [(step_add (k := 0) h h2).2.1]; simp
    · rw [(step_bad (k := 0) h h2).2.1]; omega

/-- What is known while the document's proof goes. -/
def PI (w : World) (n1 : Nat) (cs : List (List Int)) (al : List Stp) (I : Int) (u : World) (z : Nat) : Prop :=
  ∃ (i : Nat) (ci : List (List Int)) (vi : Int) (pi : Option Addr) (di : Nat) (hi : List Sl), I = i ∧ i ≤ al.length ∧ z = al.length - i ∧ Grow w u ∧ Has u n1 #[.int .i64 vi, .slice pi ci.length di] ∧ V2 (Value.int .i64) u pi hi ci ∧ ci.length ≤ di ∧ (∀ j, footN pi hi j → j ≠ n1) ∧ (∀ c ∈ ci, c.length ≤ 4096 ∧ ∀ x ∈ c, litB x = true) ∧ ci.length ≤ 40 + i ∧ Way cs al i ci

theorem refProves7_ok {al : List Stp} (hc : V2 (Value.int .i64) w p hs cs) (hn : n = cs.length) (h40 : cs.length ≤ 40) (hd : n ≤ d) (hcn : cnfB k cs = true) (hl : SV w q al) (hm : m = al.length) (hm2 : m ≤ 30) (hmy : mayP al = true) :
    Calls Try.prog fathomref07_Proves.id #[.agg #[.int .i64 k, .slice p n d], .slice q m c] w fun e w' => e = .returned (.tuple #[.int .i64 (pvP cs al).1, .int .i64 (pvP cs al).2]) ∧ Grow w w' := by
  subst hn hm
  have hmy' : ∀ x ∈ al, clB x.2 = true := by unfold mayP at hmy; rwa [List.all_eq_true] at hmy
  have gm : ∀ i, i < al.length → al.getD i st0 ∈ al := fun i hi => by simp [List.getD, hi]
  have hL := cnf_lits hcn
  refine fathomref07_Proves.calls ?_
  intro n1 w2 h2
  have e1 := h2.num
  refine ⟨PI w n1 cs al, ⟨_, 0, cs, k, p, d, hs, rfl, Nat.zero_le _, rfl, h2.mod, h2.has, hc.grow h2.mod, hd, fun j hj e => by have := hc.ltN j hj; omega, fun c hc => ⟨(hL c hc).1, fun x hx => ((hL c hc).2 x hx).1⟩, by omega, Way.zero cs al⟩, ?_⟩
  rintro I u z _ ⟨i, ci, vi, pi, di, hi, rfl, hil, rfl, gu, bu, vu, hdi, fo, li, hln, way⟩
  refine cnd_i (fun r => ?_) (fun r => ?_)
  · have r : i < al.length := by simpa using r
    have hmem := gm i r
    have hcl := hmy' _ hmem
    have hsz := gu.size
    have iu := bu.lt
    have gd : Grow u u.drew := (Mod.refl u).drew
    have tail : ∀ (w20 : World) (n18 : Nat) (p' : Option Addr) (d' : Nat) (hs' : List Sl) (sl : Sl), Grow u w20 → u.heap.size ≤ n18 → Has w20 n18 #[.int .i64 (stepV vi ci (al.getD i st0)), .slice p' (stepC ci (al.getD i st0)).length d'] → V2 (Value.int .i64) w20 p' hs' (stepC ci (al.getD i st0)) → (stepC ci (al.getD i st0)).length ≤ d' →
        (∀ j, footN p' hs' j → j ≠ n1) → 
        cnd (stepE ci (al.getD i st0) != (0 : Int))
      ((fun (v : Value) (w' : World) => Ending.returned v = .returned (.tuple #[.int .i64 (pvP cs al).1, .int .i64 (pvP cs al).2]) ∧ Grow w w') (.tuple #[.int .i64 i, .int .i64 (stepE ci (al.getD i st0))]) w20)
      (ixK q al.length i 2 fun a21 =>
        ∃ x22 : Bool, w20.cell? (a21.add 0) = some (.bool x22) ∧ 
        cnd (!x22)
        (ixK q al.length i 2 fun a23 =>
        ∃ x24_p : Option Addr, ∃ x24_n : Nat, ∃ x24_c : Nat, w20.cell? (a23.add 1) = some (.slice x24_p x24_n x24_c) ∧ 
        cnd ((x24_n : Int) == (0 : Int))
        ((fun (v : Value) (w' : World) => Ending.returned v = .returned (.tuple #[.int .i64 (pvP cs al).1, .int .i64 (pvP cs al).2]) ∧ Grow w w') (.tuple #[.int .i64 i, .int .i64 0]) w20)
        (∃ x25 : Int, ∃ x26_p : Option Addr, ∃ x26_n : Nat, ∃ x26_c : Nat, CellsAt w20 (Addr.mk n18 0 none) 0 [.int .i64 x25, .slice x26_p x26_n x26_c] ∧ 
          ∃ w27 : World, StoreAt (Addr.mk n1 0 none) 0 [.int .i64 x25, .slice x26_p x26_n x26_c] w20 w27 ∧ 
          ∃ k5, k5 < al.length - i ∧ PI w n1 cs al (IntKind.i64.wrap (i + (1 : Int))) w27 k5))
        (∃ x28 : Int, ∃ x29_p : Option Addr, ∃ x29_n : Nat, ∃ x29_c : Nat, CellsAt w20 (Addr.mk n18 0 none) 0 [.int .i64 x28, .slice x29_p x29_n x29_c] ∧ 
        ∃ w30 : World, StoreAt (Addr.mk n1 0 none) 0 [.int .i64 x28, .slice x29_p x29_n x29_c] w20 w30 ∧ 
        ∃ k5, k5 < al.length - i ∧ PI w n1 cs al (IntKind.i64.wrap (i + (1 : Int))) w30 k5)) := by
      intro w20 n18 p' d' hs' sl g20 hn18 b18 hv hdl hf
      have Gw := gu.trans g20
      have next : stepE ci (al.getD i st0) = 0 → ¬ ((al.getD i st0).1 = false ∧ (al.getD i st0).2 = []) → ∃ x28 : Int, ∃ x29_p : Option Addr, ∃ x29_n : Nat, ∃ x29_c : Nat, CellsAt w20 (Addr.mk n18 0 none) 0 [.int .i64 x28, .slice x29_p x29_n x29_c] ∧ 
        ∃ w30 : World, StoreAt (Addr.mk n1 0 none) 0 [.int .i64 x28, .slice x29_p x29_n x29_c] w20 w30 ∧ 
        ∃ k5, k5 < al.length - i ∧ PI w n1 cs al (IntKind.i64.wrap (i + (1 : Int))) w30 k5 := fun he hne => by
        have hlen := stepC_len (cs := ci) (s := al.getD i st0)
        exact ⟨_, _, _, _, cells2 b18, store_i (bu.grow g20) rfl rfl fun w30 b30 m30 => ⟨_, by omega, i + 1, _, _, _, _, _, wN (by omega) (by omega), r, rfl, Gw.then m30 fun j hj e => by omega, b30, hv.keepN m30 hf, hdl, hf, stepC_lits li hcl, by omega, way.next r he hne⟩⟩
      refine cnd_i (fun r2 => ?_) (fun r2 => ?_)
      · have r2 : stepE ci (al.getD i st0) ≠ 0 := by simpa using r2
        rw [way.bad r r2]
        exact ⟨rfl, Gw⟩
      · have r2 : stepE ci (al.getD i st0) = 0 := by simpa using r2
        refine hl.ix Gw rfl r fun a s hcA h1 h2' h3 => ⟨_, CellsAt.get (hcA w20 Gw) 0 _ rfl, cnd_i (fun r3 => ?_) (fun r3 => next r2 fun e => by rw [e.1] at r3; cases r3)⟩
        have r3 : (al.getD i st0).1 = false := by simpa using r3
        refine hl.ix Gw rfl r fun a s hcA h1 h2' h3 => ⟨_, _, _, CellsAt.get (hcA w20 Gw) 1 _ rfl, cnd_i (fun r4 => ?_) (fun r4 => next r2 fun e => ?_)⟩
        · have r4 : (al.getD i st0).2 = [] := by
            have : (s.n : Int) = 0 := by simpa using r4
            exact List.eq_nil_of_length_eq_zero (by omega)
          rw [way.fin r r2 ⟨r3, r4⟩]
          exact ⟨rfl, Gw⟩
        · have : (s.n : Int) ≠ 0 := by simpa using r4
          rw [e.2] at h1
          simp at h1
          omega
    refine ⟨Grow u, gd, _, _, _, _, fun v g => cells2 (bu.grow g), hl.ix (gu.trans gd) rfl r fun a s hcA h1 h2' h3 => ⟨_, _, _, _, fun v g => hcA v (gu.trans g), ?_, ?_⟩⟩
    · have G := gu.trans gd
      refine (refDo7_ok (b := (al.getD i st0).1) (vu.grow gd) rfl (by omega) hdi li (h3.grow G) h1 hcl).mono ?_
      rintro e w14 ⟨p', d', hs', rfl, hv, hdl, g14, f14⟩
      refine ⟨_, _, _, _, _, rfl, ?_⟩
      intro n18 w19 h19
      have G19 := (gd.trans g14).trans h19.mod
      have e18 := h19.num
      have zz : u.drew.heap.size = u.heap.size := rfl
      have z14 := g14.size
      refine ⟨G19, store_i h19.has rfl rfl fun w20 b20 m20 => tail w20 n18 p' d' hs' s (G19.then m20 fun j hj e => by omega) (by omega) b20 ((hv.grow h19.mod).keepN m20 fun j hj e => by have := hv.ltN j hj; omega) hdl fun j hj e => ?_⟩
      rcases f14 j hj with hj | ⟨x, hx, h0, hj⟩ | hj
      · exact fo j hj e
      · rw [List.mem_singleton] at hx
        subst hx
        have := h3.lt (fun e3 => by have h0 : 0 < (al.getD i st0).2.length := h0; rw [e3] at h0; simp at h0) j hj
        omega
      · omega
    · intro n18 w19 h19
      have G19 : Grow u w19 := gd.trans h19.mod
      have e18 := h19.num
      have zz : u.drew.heap.size = u.heap.size := rfl
      have G := gu.trans G19
      have z19 := G19.size
      have i18 := h19.has.lt
      refine ⟨G19, (refDo7_ok (b := (al.getD i st0).1) (vu.grow G19) rfl (by omega) hdi li (h3.grow G) h1 hcl).mono ?_⟩
      rintro e w14 ⟨p', d', hs', rfl, hv, hdl, g14, f14⟩
      have key : ∀ j, footN p' hs' j → j < u.heap.size ∧ j ≠ n1 ∨ w19.heap.size ≤ j := fun j hj => by
        rcases f14 j hj with hj | ⟨x, hx, h0, hj⟩ | hj
        · exact .inl ⟨vu.ltN j hj, fo j hj⟩
        · rw [List.mem_singleton] at hx
          subst hx
          have := h3.lt (fun e3 => by have h0 : 0 < (al.getD i st0).2.length := h0; rw [e3] at h0; simp at h0) j hj
          exact .inl ⟨by omega, by omega⟩
        · exact .inr hj
      refine ⟨_, _, _, _, _, rfl, store_i (h19.has.grow g14) rfl rfl fun w20 b20 m20 => tail w20 n18 p' d' hs' s ((G19.trans g14).then m20 fun j hj e => by omega) (by omega) b20 (hv.keepN m20 fun j hj e => by have := key j hj; omega) hdl fun j hj e => by have := key j hj; omega⟩
  · have r : i = al.length := by simp at r; omega
    subst r
    rw [way.all]
    exact ⟨rfl, gu⟩

end Go.Proofs.Ytdaiolinnpligaa.W
