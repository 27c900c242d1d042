/- Layer 9: a heap and the document's go with each other. -/
import Derived.Test.YtamckcamloelbaaHeap6
namespace Go.Proofs.Ytamckcamloelbaa.W
open Go Go.Fw Go.RowKit Go.HeapP

theorem cell_keep {w w' : World} {a : Addr} {v : Value} (g : Grow w w') (h : w.cell? a = some v) : w'.cell? a = some v := by
  have hb := World.block_lt_of_cell? w a h
  rw [← h]
  exact World.cell?_of_block (g.block a.block hb id)

/-- A heap and the document's are alike. -/
structure Rel (x : HS) (N : Nat) (r : RS) : Prop where
  n : r.rin.length = N + 1
  s : r.rs = x.score
  st : r.step = x.step
  i : ∀ u : Int, 1 ≤ u → u ≤ N → gb r.rin u = decide (0 < g x.at_ u)

def cF (f : Int → Bool) : Nat → Nat
  | 0 => 0
  | n + 1 => cF f n + (f (n + 1)).toNat
theorem cnt_cF (r : List Bool) : ∀ n, cnt r n = cF (gb r) n
  | 0 => rfl
  | n + 1 => by
    simp only [cnt, cF, cnt_cF r n]
    cases gb r (n + 1) <;> rfl
theorem cF_congr {f f' : Int → Bool} : ∀ {n : Nat}, (∀ u : Int, 1 ≤ u → u ≤ n → f u = f' u) → cF f n = cF f' n
  | 0, _ => rfl
  | n + 1, h => by
    simp only [cF]
    rw [cF_congr (n := n) fun u u0 u1 => h u u0 (by omega), h (n + 1) (by omega) (by omega)]
theorem cF_false {f : Int → Bool} : ∀ {n : Nat}, (∀ u : Int, 1 ≤ u → u ≤ n → f u = false) → cF f n = 0
  | 0, _ => rfl
  | n + 1, h => by
    simp only [cF]
    rw [cF_false (n := n) fun u u0 u1 => h u u0 (by omega), h (n + 1) (by omega) (by omega)]; rfl
theorem cF_upd {f : Int → Bool} {v : Int} (hv : f v = true) : ∀ {n : Nat}, 1 ≤ v → v ≤ n → cF f n = cF (fun u => if u = v then false else f u) n + 1
  | 0, h1, h2 => by omega
  | n + 1, h1, h2 => by
    simp only [cF]
    by_cases e : v = (n : Int) + 1
    · subst e
      rw [hv, if_pos rfl, cF_congr (f := f) (f' := fun u => if u = (n : Int) + 1 then false else f u) fun u u0 u1 => by rw [if_neg (by omega)]]
      rfl
    · rw [cF_upd hv (n := n) h1 (by omega), if_neg (show ¬ ((n : Int) + 1 = v) by omega)]
      omega

theorem Pos.count {L : Int → Int} {N : Nat} : ∀ {n : Nat} {A : Int → Int}, Pos L A n N → cF (fun u => decide (0 < A u)) N = n
  | 0, A, h => cF_false fun u u0 u1 => by have := h.back u u0 u1; exact decide_eq_false (by omega)
  | n + 1, A, h => by
    have fn := h.fit n (by omega) (by omega)
    have h' : Pos L (fun u => if u = L n then 0 else A u) n N := by
      constructor
      · intro j j0 j1
        have f := h.fit j j0 (by omega)
        have : L j ≠ L n := fun e => by have := h.inj j0 (by omega) (by omega) (by omega) e; omega
        simp only [this, if_false]; exact f
      · intro v v1 v2
        have f := h.back v v1 v2
        by_cases e : v = L n
        · simp [e]
        · simp only [e, if_false]
          have : A v ≠ n + 1 := fun e2 => e (by have := f.2.2 (by omega); rw [e2] at this; rw [← this]; congr 1; omega)
          exact ⟨f.1, by omega, f.2.2⟩
    have ih := Pos.count h'
    have e : cF (fun u => if u = L n then false else decide (0 < A u)) N = cF (fun u => decide (0 < if u = L n then 0 else A u)) N := cF_congr fun u _ _ => by
      by_cases e : u = L n
      · rw [if_pos e, if_pos e]; rfl
      · rw [if_neg e, if_neg e]
    rw [cF_upd (v := L n) (decide_eq_true (by omega)) fn.1 fn.2.1, e, ih]

theorem Rel.len {x : HS} {N : Nat} {r : RS} (h : Rel x N r) (gd : HGood x N) : cnt r.rin (r.rin.length - 1) = x.l.length := by
  rw [h.n, Nat.add_sub_cancel, cnt_cF, cF_congr h.i]
  exact Pos.count (A := g x.at_) gd.ok.pos

theorem Rel.best {x : HS} {N : Nat} {r : RS} (h : Rel x N r) (gd : HGood x N) {b : Int} (hb : IsBest r b) : (x.l.length = 0 ∧ b = 0) ∨ (x.l.length ≠ 0 ∧ b = g x.l 0 ∧ 1 ≤ b ∧ b ≤ N) := by
  have hn := h.n
  by_cases h0 : x.l.length = 0
  · left
    refine ⟨h0, ?_⟩
    rcases hb with ⟨e, _⟩ | ⟨b1, b2, b3, _⟩
    · exact e
    · rw [h.i b b1 (by omega)] at b3
      have := gd.ok.pos.back b b1 (by omega)
      have := of_decide_eq_true b3
      omega
  · right
    have t := gd.best h0
    rcases hb with ⟨e, hn'⟩ | ⟨b1, b2, b3, hb⟩
    · have := hn' (g x.l 0) t.1 (by omega)
      rw [h.i _ t.1 t.2.1, decide_eq_true t.2.2.1] at this
      cases this
    · rw [h.i b b1 (by omega)] at b3
      have n1 := t.2.2.2 b b1 (by omega) (of_decide_eq_true b3)
      have n2 := hb (g x.l 0) t.1 (by omega) (by rw [h.i _ t.1 t.2.1]; exact decide_eq_true t.2.2.1)
      rw [h.s] at n2
      refine ⟨h0, ?_, b1, by omega⟩
      unfold Bt at n1 n2
      omega

theorem like_ok {w0 w : World} {b : Nat} {x : HS} {N : Nat} {r : RS} (G0 : Grow w0 w) (h : HRep w b x) (gd : HGood x N) (hr : RRep w r) (rel : Rel x N r) : Calls Try.prog fathomlaw09_like.id #[ptr b, r.val] w fun e w' => e = .returned (.bool true) ∧ Grow w0 w' := by
  refine fathomlaw09_like.calls ?_
  unfold fathomlaw09_like.w
  simp only [and_self]
  have hN := gd.ok.big
  have hna := gd.ok.na
  have hns := gd.ok.ns
  have hnl := gd.ok.nl
  have hrn := rel.n
  have hrs : r.rs.length = N + 1 := by rw [rel.s]; omega
  intro n1 w2 h1
  replace h := h.grow h1.mod
  replace hr := hr.grow h1.mod
  have H := h1.has
  have G := G0.trans h1.mod
  refine (best_ok h (by omega)).mono ?_
  rintro e w3 ⟨rfl, g3⟩
  refine ⟨_, _, rfl, _, _, _, _, _, _, _, cells3 (H.grow g3), (refBest_ok (r := r) (hr.grow g3) (by omega) (by omega)).mono ?_⟩
  rintro e w9 ⟨⟨b', rfl, hb⟩, g9⟩
  have g29 := g3.trans g9
  replace h := (h.grow g29).drew
  replace hr : RRep w9.drew r := ⟨(hr.grow g29).i, (hr.grow g29).s⟩
  have H := (H.grow g29).drew
  have G : Grow w0 w9.drew := (G.trans g29).drew
  clear g3 g9 g29
  have hb' : b' = (if x.l.length = 0 then 0 else g x.l 0) ∧ decide (x.l.length ≠ 0) = decide (b' > 0) := by
    rcases rel.best gd hb with ⟨e1, e2⟩ | ⟨e1, e2, e3, _⟩
    · simp [e1, e2]
    · simp [e1, ← e2]; omega
  have hlen := rel.len gd
  refine ⟨_, rfl, fun w' => Grow w9.drew w', ?_, ?_⟩
  · refine cnd_f (by rw [hb'.1]; simp) (cnd_f (by rw [hb'.2]; simp) ?_)
    have r0 : Grow w9.drew w9.drew := Mod.refl _
    repeat' first
      | assumption
      | apply And.intro
      | (refine (step_ok (h.grow (by assumption))).mono ?_
         rintro e w' ⟨rfl, g⟩
         have gg : Grow w9.drew w' := Mod.trans (by assumption) g
         refine ⟨_, rfl, ?_⟩)
      | (refine (len_ok (h.grow (by assumption))).mono ?_
         rintro e w' ⟨rfl, g⟩
         have gg : Grow w9.drew w' := Mod.trans (by assumption) g
         refine ⟨_, rfl, ?_⟩)
      | (refine (refLen_ok (r := r) (hr.grow (by assumption)) (by omega)).mono ?_
         rintro e w' ⟨rfl, g⟩
         have gg : Grow w9.drew w' := Mod.trans (by assumption) g
         refine ⟨_, rfl, ?_⟩)
      | refine ⟨_, cell_add (H.grow (by assumption)) rfl, ?_⟩
      | refine ⟨_, _, _, _, _, _, _, cells3 (H.grow (by assumption)), ?_⟩
      | refine cnd_f (by rw [rel.st]; simp) ?_
      | refine cnd_f (by rw [hlen]; simp) ?_
  · intro w46 _ g46
    replace h := h.grow g46
    replace hr := hr.grow g46
    replace H := H.grow g46
    replace G := G.trans g46
    clear g46
    refine ⟨fun v w' k => 1 ≤ v ∧ v ≤ N + 1 ∧ (k : Int) = N + 1 - v ∧ Grow w46 w', ⟨N, by omega, by omega, by omega, Mod.refl _⟩, ?_⟩
    rintro v w51 k _ ⟨v1, v2, hk, g51⟩
    refine ⟨_, _, _, cell_add (H.grow g51) rfl, cnd_i (fun q => ?_) (fun q => ?_)⟩ <;> simp only [decide_eq_true_eq, decide_eq_false_iff_not] at q
    · have r0 : Grow w46 w51.drew := g51.drew
      have v0 : 0 ≤ v := by omega
      have t1 : decide (1 ≤ v ∧ v < (x.at_.length : Int) ∧ 0 < g x.at_ v) = r.rin.getD v.toNat false := by
        rw [gb_nn v0, rel.i v v1 (by omega)]
        exact decide_eq_decide.2 (by omega)
      have t2 : (if 1 ≤ v ∧ v < (x.at_.length : Int) then g x.score v else 0) = r.rs.getD v.toNat 0 := by
        rw [g_nn v0, rel.s, if_pos (by omega)]
      have done : ∀ w', Grow w46 w' → ∃ k49 : Nat, k49 < k ∧ (1 ≤ IntKind.i64.wrap (v + 1) ∧ IntKind.i64.wrap (v + 1) ≤ N + 1 ∧ (k49 : Int) = N + 1 - IntKind.i64.wrap (v + 1) ∧ Grow w46 w') := by
        intro w' g
        rw [wrap64_of (by omega) (by omega)]
        exact ⟨k - 1, by omega, by omega, by omega, by omega, g⟩
      have hl : x.score.length = x.at_.length := by omega
      repeat' first
        | exact done _ (by assumption)
        | apply And.intro
        | (refine (has_ok (h.grow (by assumption)) v).mono ?_
           rintro e w' ⟨rfl, g⟩
           have gg : Grow w46 w' := Mod.trans (by assumption) g
           refine ⟨_, rfl, ?_⟩)
        | (refine (score_ok (h.grow (by assumption)) hl v).mono ?_
           rintro e w' ⟨rfl, g⟩
           have gg : Grow w46 w' := Mod.trans (by assumption) g
           refine ⟨_, rfl, ?_⟩)
        | refine ⟨_, _, _, cell_add (H.grow (by assumption)) rfl, ?_⟩
        | refine hr.i.ix false v0 rfl (by omega) fun a e1 => ?_
        | refine hr.s.ix 0 v0 rfl (by omega) fun a e2 => ?_
        | refine ⟨_, cell_keep (by assumption) e1, ?_⟩
        | refine ⟨_, cell_keep (by assumption) e2, ?_⟩
        | refine cnd_f (by rw [t1]; simp) ?_
        | refine cnd_f (by rw [t2]; simp) ?_
    · have hv : v = N + 1 := by omega
      replace h := h.grow g51
      replace H := H.grow g51
      replace G := G.trans g51
      refine (has_ok h 0).mono ?_
      rintro e w105 ⟨rfl, g1⟩
      refine ⟨_, rfl, cnd_t (by simp) ⟨_, _, _, cell_add (H.grow g1) rfl, (has_ok (h.grow g1) _).mono ?_⟩⟩
      rintro e w108 ⟨rfl, g2⟩
      refine ⟨_, rfl, cnd_t ?_ ((score_ok ((h.grow g1).grow g2) (by omega) (-1)).mono ?_)⟩
      · have : ¬ (1 ≤ (r.rin.length : Int) ∧ (r.rin.length : Int) < x.at_.length ∧ 0 < g x.at_ (r.rin.length : Int)) := by omega
        rw [decide_eq_false this]; rfl
      · rintro e w110 ⟨rfl, g3⟩
        exact ⟨_, rfl, rfl, ((G.trans g1).trans g2).trans g3⟩
end Go.Proofs.Ytamckcamloelbaa.W
