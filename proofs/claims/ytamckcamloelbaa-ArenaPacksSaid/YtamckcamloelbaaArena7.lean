/- Layer 2: the document's arena in memory; what turns it. -/
import Derived.Test.YtamckcamloelbaaArena6
namespace Go.Proofs.Ytamckcamloelbaa.W
open Go Go.Fw Go.RowKit Go.ArP

/-- The document's items, turned. -/
def RUpd (w w' : World) (q : Option Addr) (hs : List Hd) (X : Nat → Prop) (l : List It) (p : Option Addr) (n : Nat) : Prop := ∃ hs', RR w' p hs' l ∧ n = l.length ∧ (∀ k, RFoot p hs' k → RFoot q hs k ∨ X k ∨ w.heap.size ≤ k)

theorem RUpd.no {w w' : World} {q : Option Addr} {hs : List Hd} {X : Nat → Prop} {l : List It} {n : Nat} (h : RR w' q hs l) (hn : n = l.length) : RUpd w w' q hs X l q n := ⟨hs, h, hn, fun _ => .inl⟩

abbrev HRow := Row 2 hv ty_fathomref02_Item
theorem on_newE {w : World} {K : Nat → World → Prop} (h : ∀ n w', HRow w' (some ⟨n, 0, none⟩) 0 [] → n = w.heap.size → Grow w w' → K n w') : ∀ n w', New (.cells #[] 105) w n w' → K n w' :=
  fun n _ hn => h n _ (Row.of_some hvE.len hn.at (Nat.le_refl _) (Nat.zero_le _) rfl rfl) hn.num hn.mod
theorem on_newI {w : World} {h : Hd} {K : Nat → World → Prop} (k : ∀ n w', Has w' n (hv h).toArray → n = w.heap.size → Grow w w' → K n w') : ∀ n w', New (.cells #[h.1.v, .bool h.2] 105) w n w' → K n w' :=
  fun n _ hn => k n _ hn.has hn.num hn.mod

theorem blk_some {n : Nat} {k : Nat} (h : blk (some ⟨n, 0, none⟩) = some k) : k = n := by simp [blk] at h; exact h.symm

theorem fr_app {w wb : World} {p p' : Option Addr} (fr : ∀ j, blk p = some j → wb.heap.size ≤ j) (hb : Grow wb w) (hp : p' = p ∨ p' = some ⟨w.heap.size, 0, none⟩) : ∀ j, blk p' = some j → wb.heap.size ≤ j := by
  intro j hj
  rcases hp with rfl | rfl
  · exact fr j hj
  · rw [blk_some hj]; exact hb.size

theorem RR.app {w' : World} {p q : Option Addr} {c : Nat} {hs : List Hd} {l : List It} {s : Sl} {x : List Int} (h : RR w' q hs l) (R : HRow w' p c (hs ++ [(s, false)])) (hc : Vw (Value.int .i64) w' s.p x) (hn : s.n = x.length) : RR w' p (hs ++ [(s, false)]) (l ++ [(x, false)]) := by
  refine ⟨R.vr hvE, by simp [h.n], fun j hj => ?_⟩
  rw [getD_app, getD_app, h.n]
  by_cases e : j = l.length
  · rw [if_pos e, if_pos e]
    exact ⟨hn, hc, rfl⟩
  · rw [if_neg e, if_neg e]
    exact h.r j (by simp at hj; omega)

set_option maxHeartbeats 2000000 in
theorem refAdd_ok {w : World} {q s : Option Addr} {hs : List Hd} {l : List It} {n c m k : Nat} {x : List Int} (h : RR w q hs l) (hn : n = l.length) (hw : (wds l).length ≤ 4000000) (hx : Vw (Value.int .i64) w s x) (hm : m = x.length) (hxl : x.length ≤ 300) :
    Calls Try.prog fathomref02_Add.id #[.agg #[.slice q n c], .slice s m k] w fun e w' => (∃ p' n' c', e = .returned (.tuple #[.agg #[.slice p' n' c'], .int .i64 (addP l x).2.1, .int .i64 (addP l x).2.2]) ∧ RUpd w w' q hs (fun k => x ≠ [] ∧ blk s = some k) (addP l x).1 p' n') ∧ Grow w w' := by
  refine fathomref02_Add.calls ?_
  intro n1 w2 h2 n3 w4 h4
  have G4 := h2.mod.trans h4.mod
  have e1 := h2.num
  have e3 := h4.num
  have z2 := New.size h2
  have z4 := New.size h4
  have H1 := h2.has.old h4
  have H3 := h4.has
  have hll := len_le l
  refine (refMay_ok (hx.grow G4) hm (by unfold maxLen; omega)).mono ?_
  rintro e w5 ⟨rfl, g5⟩
  have G5 := G4.trans g5
  unfold addP
  refine ⟨_, rfl, cnd_i (fun t => ?_) (fun t => ?_)⟩ <;> simp only [Bool.not_eq_true', Bool.not_eq_false'] at t
  · rw [if_neg (by rw [t]; simp)]
    refine ⟨_, _, _, cells1 (H1.grow g5), store_i (H3.grow g5) rfl rfl fun w8 h8 m8 => ⟨_, _, _, cells1 h8, ?_⟩⟩
    have G8 : Grow w w8 := G5.then m8 fun j hj e => by omega
    exact ⟨⟨_, _, _, rfl, RUpd.no (h.grow G8) hn⟩, G8⟩
  · rw [if_pos t]
    refine ⟨_, _, _, cells1 (H1.grow g5), (refWords_ok (h.grow G5) hn (by omega)).mono ?_⟩
    rintro e w11 ⟨rfl, g11⟩
    refine ⟨_, rfl, cnd_f ?_ ?_⟩
    · rw [wrap64_of (x := ((wds l).length : Int) + 2) (by omega) (by omega), wrap64_of (by omega) (by omega)]
      simp only [decide_eq_false_iff_not]; omega
    · have Gb : Grow w w11.drew := (G5.trans g11).drew
      replace H1 : Has w11.drew n1 _ := (H1.grow (g5.trans g11)).drew
      replace H3 : Has w11.drew n3 _ := (H3.grow (g5.trans g11)).drew
      have hr : RR w11.drew q hs l := h.grow Gb
      have hxb : Vw (Value.int .i64) w11.drew s x := hx.grow Gb
      have hn1b := H1.lt
      have hn3b := H3.lt
      have hb := Gb.size
      generalize w11.drew = wb at *
      have hhn := h.n
      have G : Grow wb wb := Mod.refl _
      have fin : ∀ (w' w9 : World) (p' : Option Addr) (c' : Nat), HRow w' p' c' (hs ++ [((⟨s, m, k⟩ : Sl), false)]) → (∀ j, blk p' = some j → wb.heap.size ≤ j) → Grow wb w' → Mod (· = n3) w' w9 →
          ((∃ p1 n1 c1, Ending.returned (Value.tuple #[.agg #[.slice p' (hs ++ [((⟨s, m, k⟩ : Sl), false)]).length c'], .int .i64 ((wds l).length : Int), .int .i64 0]) = .returned (.tuple #[.agg #[.slice p1 n1 c1], .int .i64 ((wds l).length : Int), .int .i64 0]) ∧ RUpd w w9 q hs (fun k => x ≠ [] ∧ blk s = some k) (l ++ [(x, false)]) p1 n1) ∧ Grow w w9) := by
        intro w' w9 p' c' R fr g m9
        have G9 : Grow w w9 := (Gb.trans g).then m9 fun j hj e => by omega
        refine ⟨⟨_, _, _, rfl, hs ++ [((⟨s, m, k⟩ : Sl), false)], (h.grow G9).app (R.keep m9 fun j hj e => by have := fr j hj; omega) (hx.grow G9) hm, by simp [hhn], ?_⟩, G9⟩
        rintro j (⟨_, hj⟩ | ⟨hd, hmem, hpos, hj⟩)
        · have := fr j hj
          exact .inr (.inr (by omega))
        · rcases List.mem_append.1 hmem with hmem | hmem
          · exact .inl (.inr ⟨hd, hmem, hpos, hj⟩)
          · simp at hmem
            subst hmem
            exact .inr (.inl ⟨fun e => by subst e; simp at hm; simp [hm] at hpos, hj⟩)
      repeat' first
        | (refine store_i (H3.grow G) rfl rfl fun w9 H9 m9 => ?_
           refine ⟨_, _, _, cells1 H9, ?_⟩
           exact fin _ _ _ _ R2 fr2 G m9)
        | apply And.intro
        | refine ⟨_, _, _, cell_add (H1.grow G) rfl, ?_⟩
        | refine ⟨_, _, _, cells1 (H1.grow G), ?_⟩
        | (refine (refWords_ok (hr.grow G) hn (by omega)).mono ?_
           rintro e w' ⟨rfl, mm⟩
           refine ⟨_, rfl, ?_⟩
           replace G := G.trans mm
           try replace E := E.grow mm
           try replace I := I.grow mm
           try replace R := R.grow mm
           try replace R2 := R2.grow mm
           clear mm)
        | (refine on_newE fun nE w' E eE mm => ?_
           have frE : ∀ j, blk (some (Addr.mk nE 0 none)) = some j → wb.heap.size ≤ j := fun j hj => by have := blk_some hj; have := G.size; omega
           try have ne : nI ≠ nE := by have := I.lt; omega
           replace G := G.trans mm
           try replace I := I.grow mm
           clear mm eE)
        | (refine on_newI (h := ((⟨s, m, k⟩ : Sl), false)) fun nI w' I eI mm => ?_
           try have ne : nI ≠ nE := by have := E.lt nE rfl; omega
           try have neR : blk pR ≠ some nI := fun e => by have := R.lt _ e; omega
           replace G := G.trans mm
           try replace E := E.grow mm
           try replace R := R.grow mm
           clear mm eI)
        | (refine Row.app (news := hs) hvE sl_item E (hr.grow G).v rfl (by omega) (by simp; omega) fun w' pR cR R mR hpR zR => ?_
           try have neR : blk pR ≠ some nI := fun e => by (have := I.lt; rcases hpR with h1 | h1 <;> rw [h1] at e <;> first | exact ne (blk_some e) | (have := blk_some e; omega))
           have frR := fr_app frE G hpR
           replace G := G.then mR fun j hj e => by have := frE j e; omega
           try replace I := I.keep mR (fun e => ne (blk_some e))
           rw [List.nil_append] at R
           clear mR hpR zR E)
        | (refine Row.app (news := [((⟨s, m, k⟩ : Sl), false)]) hvE sl_item R (Vr.one I) rfl rfl (by simp; omega) fun w' p2 c2 R2 m2 hp2 z2' => ?_
           have fr2 := fr_app frR G hp2
           replace G := G.then m2 fun j hj e => by have := frR j e; omega
           clear m2 hp2 z2' R I)
end Go.Proofs.Ytamckcamloelbaa.W
