/- Layer 9: what the functions of a heap come to. -/
import Derived.Test.YtamckcamloelbaaHeap1
namespace Go.Proofs.Ytamckcamloelbaa.W
open Go Go.Fw Go.RowKit Go.HeapP

def f20 (x : Int) : Int := x / 1048576
theorem fd20 (x : Int) : x.fdiv (2 ^ (min (20 : Int).toNat (IntKind.bits .i64))) = f20 x := by
  show x.fdiv 1048576 = _
  rw [Int.fdiv_eq_ediv_of_nonneg _ (by omega)]; rfl

def top : Int := 1099511627776

/-- Must it be scaled? -/
def mustS (x : HS) (v : Int) : Prop := top < x.step ∨ top < g x.score v
instance (x : HS) (v : Int) : Decidable (mustS x v) := by unfold mustS; infer_instance
def HS.scaled (x : HS) : HS := { x with score := x.score.map f20, step := imax 1 (f20 x.step) }

theorem HOk.score {x : HS} {N : Int} (h : HOk x N) {s : List Int} {t : Int} (hs : s.length = x.score.length) : HOk { x with score := s, step := t } N :=
  ⟨h.na, by show (s.length : Int) = _; rw [hs]; exact h.ns, h.big, h.pos, h.nl⟩

theorem scale_spec {w : World} {b : Nat} {x : HS} {N : Int} (h : HRep w b x) (ok : HOk x N) (v : Int) (v0 : 0 ≤ v) (v1 : v ≤ N) (ho : Ord (g x.score) (g x.l) x.l.length 0 (-1)) :
    Calls Try.prog heap_Heap_scale.id #[ptr b, .int .i64 v] w fun e w' => e = .returned (.tuple #[]) ∧ ∃ x', HRep w' b x' ∧ HOk x' N ∧ Lk N (if mustS x v then x.scaled else x) x' ∧ Ord (g x'.score) (g x'.l) x'.l.length 0 (-1) ∧ Mod (x.foot b) w w' := by
  refine heap_Heap_scale.calls ?_
  have hns := ok.ns
  have hN := ok.big
  have hbig : (x.l.length : Int) ≤ 1048576 := Int.le_trans ok.nl ok.big
  refine ⟨_, rfl, _, cell_add h.me rfl, cnd_i (fun t1 => ⟨_, rfl, _, _, _, cell_add h.me rfl, h.hs.ix 0 v0 rfl (by omega) fun a e => ⟨_, e, cnd_i (fun t2 => ?_) (fun t2 => ?_)⟩⟩) (fun t1 => ?_)⟩
  · rw [g_nn v0] at t2
    simp only [decide_eq_true_eq] at t1 t2
    have hm : ¬ mustS x v := by unfold mustS top; omega
    rw [if_neg hm]
    exact ⟨rfl, x, h, ok, Lk.refl N x, ho, Mod.refl w⟩
  all_goals (
    have hm : mustS x v := by
      unfold mustS top
      first
      | (rw [g_nn v0] at t2; simp only [decide_eq_false_iff_not] at t2; omega)
      | (simp only [decide_eq_false_iff_not] at t1; omega)
    rw [if_pos hm]
    clear t1
    refine ⟨_, rfl, _, _, _, cell_add h.me rfl, ?_⟩
    refine ⟨fun i w' k => ∃ t : Nat, i = t ∧ t ≤ x.score.length ∧ HRep w' b { x with score := mapTo f20 t x.score } ∧ Mod (x.foot b) w w' ∧ k + t = x.score.length, ⟨x.score.length, 0, rfl, Nat.zero_le _, by rw [mapTo_zero]; exact h, Mod.refl w, rfl⟩, ?_⟩
    rintro i w' k _ ⟨t, rfl, ht, hy, M, hk⟩
    refine cnd_i (fun tt => ?_) (fun tt => ?_) <;> simp only [decide_eq_true_eq, decide_eq_false_iff_not] at tt
    · have hl := mapTo_length f20 t x.score
      refine ⟨_, rfl, _, _, _, cell_add hy.me rfl, hy.hs.ix 0 (by omega) rfl (by rw [hl]; exact tt) fun a16 e16 => ⟨_, e16, by decide, ?_⟩⟩
      rw [Int.toNat_natCast, mapTo_get f20 0 (by omega), fd20]
      refine hy.hs.st (f20 (x.score.getD t 0)) rfl rfl (by omega) rfl (by rw [hl]; exact tt) fun w19 o m => ⟨k - 1, by omega, t + 1, ?_, by omega, ?_, M.trans (m.mono fun k _ hk => .inr (.inr (.inr hk))), by omega⟩
      · rw [wrap64_of (by omega) (by omega)]; omega
      · have := hy.setS (by simp) o m
        rw [Int.toNat_natCast, mapTo_set f20 0 (by omega)] at this
        exact this
    · have et : t = x.score.length := by omega
      subst et
      rw [mapTo_all] at hy
      refine ⟨_, rfl, _, cell_add hy.me rfl, by decide, _, rfl, ?_⟩
      rw [fd20]
      refine store_f hy.me rfl rfl fun w23 o m => ?_
      have hy2 : HRep w23 b x.scaled := hy.setT o m
      have M2 : Mod (x.foot b) w w23 := M.trans (m.mono fun k _ hk => .inl hk)
      have ok2 : HOk x.scaled N := ok.score (by simp)
      refine ⟨_, rfl, _, _, _, cell_add hy2.me rfl, ?_⟩
      have en : IntKind.i64.wrap ((x.scaled.l.length : Int) - 1) = (x.l.length : Int) - 1 := by show IntKind.i64.wrap ((x.l.length : Int) - 1) = _; rw [wrap64_of (by omega) (by omega)]
      rw [en]
      refine ⟨fun i w' k => ∃ y, HRep w' b y ∧ HOk y N ∧ Lk N x.scaled y ∧ Ord (g x.scaled.score) (g y.l) x.l.length (i + 1) (-1) ∧ -1 ≤ i ∧ i < x.l.length ∧ k = (i + 1).toNat ∧ Mod (x.foot b) w w', ⟨_, x.scaled, hy2, ok2, Lk.refl N _, ?_, by omega, by omega, rfl, M2⟩, ?_⟩
      · intro j j1 j2 j3 j4; omega
      clear hy hy2 ok2 M M2 m o ho
      rintro i w' k _ ⟨y, hy, oky, lk, oy, i0, i1, hk, M⟩
      have hyl : y.l.length = x.l.length := lk.l
      have hys : y.score = x.scaled.score := lk.score
      have hft : y.foot b = x.foot b := lk.foot b
      refine cnd_i (fun tt => ?_) (fun tt => ?_) <;> simp only [decide_eq_true_eq, decide_eq_false_iff_not, ge_iff_le] at tt
      · refine (fall_spec hy oky i tt (by omega) i (Int.le_refl _) ⟨?_, ?_⟩).mono ?_
        · intro j j1 j2 j3 j4
          rw [hys]
          exact oy j j1 (by omega) (by omega) (by omega)
        · intro j j1 j2 j3 j4 j5; omega
        · rintro e w2 ⟨rfl, z, hz, okz, lz, oz, mz⟩
          have hzl : z.l.length = y.l.length := lz.l
          refine ⟨rfl, i.toNat, by omega, z, hz, okz, lk.trans lz, ?_, ?_, ?_, ?_, M.trans (hft ▸ mz)⟩
          · have e1 : IntKind.i64.wrap (i - 1) + 1 = i := by rw [wrap64_of (by omega) (by omega)]; omega
            rw [e1, ← hys, ← hyl, ← hzl]
            exact oz
          · rw [wrap64_of (by omega) (by omega)]; omega
          · rw [wrap64_of (by omega) (by omega)]; omega
          · rw [wrap64_of (by omega) (by omega)]; omega
      · have ei : i = -1 := by omega
        subst ei
        refine ⟨rfl, y, hy, oky, lk, ?_, M⟩
        rw [hys, hyl]
        exact oy)

theorem len_ok {w : World} {b : Nat} {x : HS} (h : HRep w b x) : Calls Try.prog heap_Heap_Len.id #[ptr b] w fun e w' => e = .returned (.int .i64 x.l.length) ∧ Grow w w' := by
  refine heap_Heap_Len.calls ?_
  exact cnd_f rfl ⟨_, rfl, _, _, _, cell_add h.me rfl, rfl, Mod.refl w⟩

theorem step_ok {w : World} {b : Nat} {x : HS} (h : HRep w b x) : Calls Try.prog heap_Heap_Step.id #[ptr b] w fun e w' => e = .returned (.int .i64 x.step) ∧ Grow w w' := by
  refine heap_Heap_Step.calls ?_
  exact cnd_f rfl ⟨_, rfl, _, cell_add h.me rfl, rfl, Mod.refl w⟩

theorem is_ok {w : World} {b : Nat} {x : HS} (h : HRep w b x) (v : Int) : Calls Try.prog heap_Heap_is.id #[ptr b, .int .i64 v] w fun e w' => e = .returned (.bool (decide (1 ≤ v ∧ v < x.at_.length))) ∧ Grow w w' := by
  refine heap_Heap_is.calls ?_
  refine cnd_t rfl (cnd_i (fun t => ⟨_, rfl, _, _, _, cell_add h.me rfl, ?_, Mod.refl w⟩) (fun t => ⟨?_, Mod.refl w⟩)) <;> simp only [decide_eq_true_eq, decide_eq_false_iff_not, ge_iff_le] at t
  · simp [t]
  · simp [t]

theorem best_ok {w : World} {b : Nat} {x : HS} (h : HRep w b x) (hb : x.l.length < 2147483648) : Calls Try.prog heap_Heap_Best.id #[ptr b] w fun e w' => e = .returned (.tuple #[.int .i64 (if x.l.length = 0 then 0 else g x.l 0), .bool (decide (x.l.length ≠ 0))]) ∧ Grow w w' := by
  refine heap_Heap_Best.calls ?_
  refine (len_ok h).mono ?_
  rintro e w1 ⟨rfl, g1⟩
  have h := h.grow g1
  refine ⟨_, rfl, cnd_i (fun t => ⟨?_, g1⟩) (fun t => ⟨_, rfl, _, _, _, cell_add h.me rfl, h.hl.ix 0 (Int.le_refl _) rfl ?_ fun a e => ⟨_, e, ?_, g1⟩⟩)⟩
  · have : x.l.length = 0 := by have := beq_iff_eq.1 t; omega
    simp [this]
  · have := beq_eq_false_iff_ne.1 t; omega
  · have t := beq_eq_false_iff_ne.1 t
    have : x.l.length ≠ 0 := by omega
    rw [g_nn (Int.le_refl 0), if_neg this]; simp [this]

theorem has_ok {w : World} {b : Nat} {x : HS} (h : HRep w b x) (v : Int) : Calls Try.prog heap_Heap_Has.id #[ptr b, .int .i64 v] w fun e w' => e = .returned (.bool (decide (1 ≤ v ∧ v < x.at_.length ∧ 0 < g x.at_ v))) ∧ Grow w w' := by
  refine heap_Heap_Has.calls ?_
  refine (is_ok h v).mono ?_
  rintro e w1 ⟨rfl, g1⟩
  have h := h.grow g1
  refine ⟨_, rfl, cnd_i (fun t => ?_) (fun t => ⟨?_, g1⟩)⟩ <;> simp only [decide_eq_true_eq, decide_eq_false_iff_not] at t
  · refine ⟨_, rfl, _, _, _, cell_add h.me rfl, h.ha.ix 0 (by omega) rfl t.2 fun a e => ⟨_, e, ?_, g1⟩⟩
    rw [g_nn (by omega)]
    congr 2
    exact decide_eq_decide.2 (by omega)
  · congr 2
    exact (decide_eq_false (by omega)).symm

theorem score_ok {w : World} {b : Nat} {x : HS} (h : HRep w b x) (hl : x.score.length = x.at_.length) (v : Int) : Calls Try.prog heap_Heap_Score.id #[ptr b, .int .i64 v] w fun e w' => e = .returned (.int .i64 (if 1 ≤ v ∧ v < x.at_.length then g x.score v else 0)) ∧ Grow w w' := by
  refine heap_Heap_Score.calls ?_
  refine (is_ok h v).mono ?_
  rintro e w1 ⟨rfl, g1⟩
  have h := h.grow g1
  refine ⟨_, rfl, cnd_i (fun t => ⟨?_, g1⟩) (fun t => ?_)⟩
  · have t : ¬ (1 ≤ v ∧ v < x.at_.length) := by simp at t; omega
    rw [if_neg t]
  · have t : 1 ≤ v ∧ v < x.at_.length := by simpa using t
    refine ⟨_, rfl, _, _, _, cell_add h.me rfl, h.hs.ix 0 (by omega) rfl (by omega) fun a e => ⟨_, e, ?_, g1⟩⟩
    rw [g_nn (by omega), if_pos t]

/-- A heap as it is between calls. -/
structure HGood (x : HS) (N : Int) : Prop where
  ok : HOk x N
  n0 : 0 ≤ N
  ord : Ord (g x.score) (g x.l) x.l.length 0 (-1)
  sc : ∀ v, 0 ≤ v → v ≤ N → 0 ≤ g x.score v ∧ g x.score v ≤ top
  st : 1 ≤ x.step ∧ x.step ≤ top

theorem g_map {l : List Int} {f : Int → Int} (h0 : f 0 = 0) (v : Int) : g (l.map f) v = f (g l v) := by
  unfold g
  split
  · exact h0.symm
  · simp only [List.getD_eq_getElem?_getD, List.getElem?_map]
    cases l[v.toNat]? <;> simp [h0]

/-- Behind a turn of the scores and the step it is scaled, if it must. -/
theorem scale_good {y z : HS} {N v : Int} (n0 : 0 ≤ N) (ok : HOk z N) (lk : Lk N (if mustS y v then y.scaled else y) z) (o : Ord (g z.score) (g z.l) z.l.length 0 (-1))
    (hs : ∀ u, 0 ≤ u → u ≤ N → 0 ≤ g y.score u ∧ g y.score u ≤ 4398046511104 ∧ (u ≠ v → g y.score u ≤ top)) (ht : 1 ≤ y.step ∧ y.step ≤ 4398046511104) : HGood z N := by
  by_cases hm : mustS y v
  · rw [if_pos hm] at lk
    have es : z.score = y.score.map f20 := lk.score
    have et : z.step = imax 1 (f20 y.step) := lk.step
    refine ⟨ok, n0, o, fun u u0 u1 => ?_, ?_⟩
    · rw [es, g_map rfl]
      have := hs u u0 u1
      unfold f20 top; omega
    · rw [et]; unfold imax f20 top; split <;> omega
  · rw [if_neg hm] at lk
    have es : z.score = y.score := lk.score
    have et : z.step = y.step := lk.step
    unfold mustS at hm
    refine ⟨ok, n0, o, fun u u0 u1 => ?_, ?_⟩
    · rw [es]
      have := hs u u0 u1
      by_cases e : u = v
      · subst e; omega
      · exact ⟨this.1, this.2.2 e⟩
    · rw [et]; omega

theorem decay_ok {w : World} {b : Nat} {x : HS} {N : Int} (h : HRep w b x) (gd : HGood x N) : Calls Try.prog heap_Heap_Decay.id #[ptr b] w fun e w' => e = .returned (.tuple #[]) ∧
    ∃ z, HRep w' b z ∧ HGood z N ∧ Lk N (if top < x.step + (x.step / 16 + 1) then { x with step := x.step + (x.step / 16 + 1) }.scaled else { x with step := x.step + (x.step / 16 + 1) }) z ∧ Mod (x.foot b) w w' := by
  refine heap_Heap_Decay.calls ?_
  have hN := gd.ok.big
  have hs := gd.st
  have hna := gd.ok.na
  have hn0 := gd.n0
  unfold top at hs
  refine cnd_f rfl ⟨_, rfl, _, _, _, cell_add h.me rfl, cnd_f ?_ ?_⟩
  · obtain ⟨q, hq, _⟩ := h.ha.cell (j := 0) (by omega)
    rw [hq]; rfl
  have h := h.drew
  refine ⟨_, rfl, _, cell_add h.me rfl, _, rfl, _, cell_add h.me rfl, by decide, _, rfl, ?_⟩
  have e1 : IntKind.i64.wrap (x.step + IntKind.i64.wrap (IntKind.i64.wrap (x.step.tdiv 16) + 1)) = x.step + (x.step / 16 + 1) := by
    rw [Int.tdiv_eq_ediv_of_nonneg (by omega), wrap64_of (x := x.step / 16) (by omega) (by omega), wrap64_of (x := x.step / 16 + 1) (by omega) (by omega), wrap64_of (by omega) (by omega)]
  rw [e1]
  refine store_f h.me rfl rfl fun w8 o m => ?_
  have h8 := h.setT o m
  have M8 : Mod (x.foot b) w w8 := ((Mod.refl w).drew).trans (m.mono fun k _ hk => .inl hk)
  refine (scale_spec h8 (gd.ok.score rfl) 0 (by omega) gd.n0 gd.ord).mono ?_
  rintro e w9 ⟨rfl, z, hz, okz, lz, oz, mz⟩
  refine ⟨rfl, rfl, z, hz, ?_, ?_, M8.trans mz⟩
  · refine scale_good gd.n0 okz lz oz (fun u u0 u1 => ?_) ?_
    · have := gd.sc u u0 u1
      unfold top at this
      exact ⟨this.1, by show g x.score u ≤ _; omega, fun _ => (gd.sc u u0 u1).2⟩
    · show 1 ≤ x.step + (x.step / 16 + 1) ∧ x.step + (x.step / 16 + 1) ≤ _; omega
  · have : mustS { x with step := x.step + (x.step / 16 + 1) } 0 ↔ top < x.step + (x.step / 16 + 1) := by
      unfold mustS
      have := (gd.sc 0 (Int.le_refl _) gd.n0).2
      constructor
      · rintro (h | h)
        · exact h
        · exact absurd this (by show ¬ g x.score 0 ≤ top; exact Int.not_le.2 h)
      · exact .inl
    by_cases hc : top < x.step + (x.step / 16 + 1)
    · rw [if_pos hc]; rwa [if_pos (this.2 hc)] at lz
    · rw [if_neg hc]; rwa [if_neg (fun h => hc (this.1 h))] at lz

theorem Ord.toU {S L : Int → Int} {n i : Int} (h : Ord S L n 0 (-1)) (S' : Int → Int) (hS : ∀ j, 0 ≤ j → j < n → j ≠ i → S' (L j) = S (L j)) (hi : 0 ≤ i → i < n → S (L i) ≤ S' (L i)) : OrdU S' L n i := by
  constructor
  · intro j j1 j2 j3
    have hj := h j j1 j2 (by omega) (by omega)
    have e := hS j (by omega) j2 j3
    by_cases hp : (j - 1) / 2 = i
    · have := hi (by omega) (by omega)
      unfold Bt at *
      rw [hp] at hj ⊢
      rw [e]; omega
    · have e2 := hS ((j - 1) / 2) (by omega) (by omega) hp
      unfold Bt at *
      rw [e, e2]; omega
  · intro j j1 j2 j3 j4
    have hj := h j j1 j2 (by omega) (by omega)
    have hi' := h i j4 (by omega) (by omega) (by omega)
    rw [j3] at hj
    have e := hS j (by omega) j2 (by omega)
    have e2 := hS ((i - 1) / 2) (by omega) (by omega) (by omega)
    have := Bt.ntrans hj hi'
    unfold Bt at *
    rw [e, e2]; omega

theorem bump_ok {w : World} {b : Nat} {x : HS} {N : Int} (h : HRep w b x) (gd : HGood x N) (v : Int) : Calls Try.prog heap_Heap_Bump.id #[ptr b, .int .i64 v] w fun e w' =>
    e = .returned (.int .i64 (if 1 ≤ v ∧ v ≤ N then 0 else 1)) ∧ ∃ z, HRep w' b z ∧ HGood z N ∧
      Lk N (if 1 ≤ v ∧ v ≤ N then (if top < g x.score v + x.step then { x with score := x.score.set v.toNat (g x.score v + x.step) }.scaled else { x with score := x.score.set v.toNat (g x.score v + x.step) }) else x) z ∧ Mod (x.foot b) w w' := by
  refine heap_Heap_Bump.calls ?_
  have hN := gd.ok.big
  have hs := gd.st
  have hna := gd.ok.na
  have hns := gd.ok.ns
  have hnl := gd.ok.nl
  have hn0 := gd.n0
  unfold top at hs
  refine (is_ok h v).mono ?_
  rintro e w1 ⟨rfl, g1⟩
  have h := h.grow g1
  refine ⟨_, rfl, cnd_i (fun t => ?_) (fun t => ?_)⟩
  · have t : ¬ (1 ≤ v ∧ v ≤ N) := by simp at t; omega
    rw [if_neg t, if_neg t]
    exact ⟨rfl, x, h, gd, Lk.refl N x, g1.mono fun _ _ h => h.elim⟩
  have t : 1 ≤ v ∧ v ≤ N := by simp at t; omega
  rw [if_pos t, if_pos t]
  have h := h.drew
  have v0 : 0 ≤ v := by omega
  have v1 : v < x.score.length := by omega
  have sv := gd.sc v v0 t.2
  have sv2 : g x.score v ≤ 1099511627776 := sv.2
  refine ⟨_, rfl, _, _, _, cell_add h.me rfl, h.hs.ix 0 v0 rfl v1 fun a e => ⟨_, e, _, rfl, _, cell_add h.me rfl, ?_⟩⟩
  rw [g_nn v0, wrap64_of (x := g x.score v + x.step) (by omega) (by omega)]
  refine h.hs.st (g x.score v + x.step) rfl rfl v0 rfl v1 fun w10 o m => ?_
  have h10 := h.setS (by simp) o m
  have M10 : Mod (x.foot b) w w10 := ((g1.mono fun _ _ h => h.elim).drew).trans (m.mono fun k _ hk => .inr (.inr (.inr hk)))
  generalize hy : ({ x with score := x.score.set v.toNat (g x.score v + x.step) } : HS) = y at h10 ⊢
  have gy : g y.score = fun j => if j = v then g x.score v + x.step else g x.score j := by rw [← hy]; exact g_set v0 v1
  have oky : HOk y N := by rw [← hy]; exact gd.ok.score (by simp)
  have yl : y.l = x.l := by rw [← hy]
  have ya : y.at_ = x.at_ := by rw [← hy]
  have yt : y.step = x.step := by rw [← hy]
  have yf : y.foot b = x.foot b := by rw [← hy]; rfl
  have gyv : g y.score v = g x.score v + x.step := by rw [gy]; simp
  have fin : ∀ z, HOk z N → Lk N y z → Ord (g y.score) (g z.l) z.l.length 0 (-1) → ∀ w20, HRep w20 b z → Mod (x.foot b) w w20 → Calls Try.prog heap_Heap_scale.id #[ptr b, .int .i64 v] w20 fun e w20 => e = .returned (.tuple #[]) ∧ 
      (Ending.returned (.int .i64 0) = .returned (.int .i64 0) ∧ ∃ z, HRep w20 b z ∧ HGood z N ∧ Lk N (if top < g x.score v + x.step then y.scaled else y) z ∧ Mod (x.foot b) w w20) := by
    intro z okz lz oz w20 hz M
    have zs : z.score = y.score := lz.score
    have zt : z.step = y.step := lz.step
    refine (scale_spec hz okz v v0 t.2 (by rw [zs]; exact oz)).mono ?_
    rintro e w21 ⟨rfl, u, hu, oku, lu, ou, mu⟩
    have must : mustS z v ↔ top < g x.score v + x.step := by unfold mustS; rw [zs, zt, gyv, yt]; unfold top; omega
    have lu2 : Lk N (if top < g x.score v + x.step then y.scaled else y) u := by
      by_cases hc : top < g x.score v + x.step
      · rw [if_pos (must.2 hc)] at lu
        rw [if_pos hc]
        have ls : Lk N y.scaled z.scaled := ⟨lz.pl, lz.cl, lz.pa, lz.ca, lz.ps, lz.cs, lz.l, lz.a, congrArg (List.map f20) zs, congrArg (fun t => imax 1 (f20 t)) zt, lz.has⟩
        exact ls.trans lu
      · rw [if_neg (fun h => hc (must.1 h))] at lu
        rw [if_neg hc]; exact lz.trans lu
    refine ⟨rfl, rfl, u, hu, ?_, lu2, M.trans (by have := lz.foot b; rw [this, yf] at mu; exact mu)⟩
    refine scale_good hn0 oku lu ou (fun q q0 q1 => ?_) (by rw [zt, yt]; omega)
    rw [zs, gy]
    have := gd.sc q q0 q1
    unfold top at *
    by_cases e : q = v
    · subst e; simp; omega
    · simp [e]; omega
  refine ⟨_, rfl, _, _, _, cell_add h10.me rfl, h10.ha.ix 0 v0 rfl (by rw [ya]; omega) fun a e => ⟨_, e, ?_⟩⟩
  rw [g_nn v0]
  have bk := gd.ok.pos.back v t.1 t.2
  refine cnd_i (fun tt => ?_) (fun tt => ?_) <;> simp only [decide_eq_true_eq, decide_eq_false_iff_not] at tt
  · refine ⟨_, rfl, _, _, _, cell_add h10.me rfl, h10.ha.ix 0 v0 rfl (by rw [ya]; omega) fun a e => ⟨_, e, ?_⟩⟩
    rw [ya] at tt ⊢
    rw [g_nn v0, wrap64_of (x := g x.at_ v - 1) (by omega) (by omega)]
    have hl : g x.l (g x.at_ v - 1) = v := bk.2.2 tt
    refine (up_spec h10 oky (g x.at_ v - 1) (by omega) (by rw [yl]; omega) ?_).mono ?_
    · rw [yl]
      refine Ord.toU gd.ord _ (fun j j0 j1 j2 => ?_) fun _ _ => ?_
      · rw [gy]
        have : g x.l j ≠ v := fun e => j2 (gd.ok.pos.inj j0 j1 (by omega) (by omega) (by rw [e, hl]))
        simp [this]
      · rw [hl, gyv]; omega
    · rintro e w19 ⟨rfl, z, hz, okz, lz, oz, mz⟩
      exact ⟨rfl, fin z okz lz oz w19 hz (M10.trans (yf ▸ mz))⟩
  · refine fin y oky (Lk.refl N y) ?_ w10 h10 M10
    rw [yl]
    have no : ∀ j : Int, 0 ≤ j → j < x.l.length → g x.l j ≠ v := by
      intro j j0 j1 e
      have := gd.ok.pos.fit j j0 j1
      rw [e] at this
      rw [ya] at tt
      omega
    intro j j1 j2 j3 j4
    have := gd.ord j j1 j2 j3 j4
    unfold Bt at *
    rw [gy]
    simp only [no j (by omega) j2, no ((j - 1) / 2) (by omega) (by omega), if_false]
    exact this

theorem g_app {l : List Int} {v : Int} : g (l ++ [v]) = fun j : Int => if j = l.length then v else g l j := by
  funext j
  unfold g
  simp only [List.getD_eq_getElem?_getD]
  by_cases hj : j < 0
  · simp [hj]; omega
  · simp only [if_neg hj]
    by_cases e : j = l.length
    · subst e; simp
    · rw [if_neg e]
      by_cases h2 : j.toNat < l.length
      · rw [List.getElem?_append_left h2]
      · rw [List.getElem?_eq_none (by simp; omega), List.getElem?_eq_none (by omega)]

/-- The same scores; just one is in it that was not. -/
structure Lk1 (N v : Int) (x y : HS) : Prop where
  pa : y.pa = x.pa
  ca : y.ca = x.ca
  ps : y.ps = x.ps
  cs : y.cs = x.cs
  a : y.at_.length = x.at_.length
  score : y.score = x.score
  step : y.step = x.step
  has : ∀ u, 1 ≤ u → u ≤ N → (0 < g y.at_ u ↔ 0 < g x.at_ u ∨ u = v)

theorem push_no {w : World} {b : Nat} {x : HS} {N : Int} (h : HRep w b x) (hna : (x.at_.length : Int) = N + 1) (v : Int) (hv : ¬ (1 ≤ v ∧ v ≤ N)) : Calls Try.prog heap_Heap_Push.id #[ptr b, .int .i64 v] w fun e w' =>
    e = .returned (.int .i64 1) ∧ HRep w' b x ∧ Grow w w' := by
  refine heap_Heap_Push.calls ?_
  refine (is_ok h v).mono ?_
  rintro e w1 ⟨rfl, g1⟩
  refine ⟨_, rfl, cnd_t ?_ ⟨rfl, h.grow g1, g1⟩⟩
  simp; omega

theorem push_ok {w : World} {b : Nat} {x : HS} {N : Int} (h : HRep w b x) (gd : HGood x N) (v : Int) (hv : 1 ≤ v ∧ v ≤ N) : Calls Try.prog heap_Heap_Push.id #[ptr b, .int .i64 v] w fun e w' =>
    e = .returned (.int .i64 0) ∧ ∃ z, HRep w' b z ∧ HGood z N ∧ Lk1 N v x z ∧ Mod (x.foot b) w w' ∧ ∀ k, z.foot b k → x.foot b k ∨ w.heap.size ≤ k := by
  refine heap_Heap_Push.calls ?_
  have hN := gd.ok.big
  have hna := gd.ok.na
  have hns := gd.ok.ns
  have hnl := gd.ok.nl
  have hn0 := gd.n0
  refine (is_ok h v).mono ?_
  rintro e w1 ⟨rfl, g1⟩
  have h := h.grow g1
  refine ⟨_, rfl, cnd_f ?_ ?_⟩
  · simp; omega
  have v0 : 0 ≤ v := by omega
  refine ⟨_, rfl, _, _, _, cell_add h.me rfl, h.ha.ix 0 v0 rfl (by omega) fun a e => ⟨_, e, ?_⟩⟩
  rw [g_nn v0]
  have bk := gd.ok.pos.back v hv.1 hv.2
  refine cnd_i (fun tt => ?_) (fun tt => ?_)
  · have tt : g x.at_ v = 0 := beq_iff_eq.1 tt
    have no : ∀ j : Int, 0 ≤ j → j < x.l.length → g x.l j ≠ v := by
      intro j j0 j1 e
      have := gd.ok.pos.fit j j0 j1
      rw [e] at this
      omega
    have pp := gd.ok.pos.push (by omega) hv.1 hv.2 tt
    have hlt : (x.l.length : Int) + 1 ≤ N := by
      have : Pos (fun j => if j = (x.l.length : Int) then v else g x.l j) (fun u => if u = v then (x.l.length : Int) + 1 else g x.at_ u) ((x.l.length + 1 : Nat) : Int) ((N.toNat : Nat) : Int) := by
        rw [Int.toNat_of_nonneg hn0]
        exact pp
      have := this.le
      omega
    refine ⟨_, rfl, _, _, _, cell_add h.me rfl, ?_⟩
    intro n9 w10 hn9
    have hx := h.grow hn9.mod
    have G10 : Grow w w10 := g1.trans hn9.mod
    refine hx.hl.app1 sl_int v hn9.has rfl rfl oneInt (by omega) fun w11 p' c' o m hp hsz => ?_
    have S : ∀ k, blk p' = some k → blk x.pl = some k ∨ w10.heap.size ≤ k := by
      intro k hk
      rcases hp with rfl | rfl
      · exact .inl hk
      · right; simp [blk] at hk; omega
    have hlts := hx.lt
    have m1 := hx.me.keep m hx.bl
    refine ⟨_, rfl, store_f m1 rfl rfl fun w14 o14 m14 => ?_⟩
    have pb : blk p' ≠ some b := fun e => by
      rcases S b e with e2 | e2
      · exact hx.bl e2
      · have := hlts b (.inl rfl); omega
    generalize hy : ({ x with l := x.l ++ [v], pl := p', cl := c' } : HS) = y
    have h14 : HRep w14 b y := by
      rw [← hy]
      refine ⟨?_, o.keep m14 fun k hk e => pb (e ▸ hk), (hx.ha.keep m fun k hk hk' => hx.la k hk' hk).keep m14 fun k hk e => hx.ba (e ▸ hk), (hx.hs.keep m fun k hk hk' => hx.ls k hk' hk).keep m14 fun k hk e => hx.bs (e ▸ hk), pb, hx.ba, hx.bs, ?_, ?_, hx.sa⟩
      · have e : (x.l ++ [v]).length = x.l.length + 1 := by simp
        show Has w14 b #[.slice p' (x.l ++ [v]).length c', _, _, _]
        rw [e]; exact o14
      · intro k hk hk'
        rcases S k hk with e | e
        · exact hx.la k e hk'
        · have := hlts k (.inr (.inr (.inl hk'))); omega
      · intro k hk hk'
        rcases S k hk with e | e
        · exact hx.ls k e hk'
        · have := hlts k (.inr (.inr (.inr hk'))); omega
    have M14 : Mod (x.foot b) w w14 := (((G10.mono fun _ _ h => h.elim).trans (m.mono fun k _ hk => .inr (.inl hk))).trans (m14.mono fun k _ hk => .inl hk))
    have yl : y.l = x.l ++ [v] := by rw [← hy]
    have yll : y.l.length = x.l.length + 1 := by rw [yl]; simp
    have ya : y.at_ = x.at_ := by rw [← hy]
    have ys : y.score = x.score := by rw [← hy]
    have yt : y.step = x.step := by rw [← hy]
    have yf : ∀ k, y.foot b k → x.foot b k ∨ w.heap.size ≤ k := by
      rw [← hy]
      rintro k (e | e | e | e)
      · exact .inl (.inl e)
      · rcases S k e with e | e
        · exact .inl (.inr (.inl e))
        · right; have := G10.size; omega
      · exact .inl (.inr (.inr (.inl e)))
      · exact .inl (.inr (.inr (.inr e)))
    have h14 := h14.drew
    refine ⟨_, rfl, _, _, _, cell_add h14.me rfl, _, rfl, _, _, _, cell_add h14.me rfl, h14.ha.st ((y.l.length : Nat) : Int) rfl rfl v0 rfl (by rw [ya]; omega) fun w20 o20 m20 => ?_⟩
    have h20 := h14.setA (by simp) o20 m20
    generalize hz : ({ y with at_ := y.at_.set v.toNat ((y.l.length : Nat) : Int) } : HS) = z at h20
    have zl : z.l = y.l := by rw [← hz]
    have zs : z.score = x.score := by rw [← hz]; exact ys
    have zt : z.step = x.step := by rw [← hz]; exact yt
    have zll : z.l.length = x.l.length + 1 := by rw [zl, yll]
    have za : g z.at_ = fun u => if u = v then (x.l.length : Int) + 1 else g x.at_ u := by
      rw [← hz]
      show g (y.at_.set v.toNat ((y.l.length : Nat) : Int)) = _
      rw [g_set v0 (by rw [ya]; omega), ya, yll]
      funext u; split <;> omega
    have zL : g z.l = fun j : Int => if j = x.l.length then v else g x.l j := by rw [zl, yl, g_app]
    have zal : z.at_.length = x.at_.length := by rw [← hz]; simp [ya]
    have zf : z.foot b = y.foot b := by rw [← hz]; rfl
    have M20 : Mod (x.foot b) w w20 := M14.drew.then m20 fun k hk e => (yf k (.inr (.inr (.inl e)))).resolve_right (by omega)
    have okz : HOk z N := by
      refine ⟨by rw [zal]; exact hna, by rw [zs]; exact hns, hN, ?_, by rw [zll]; omega⟩
      rw [zL, za, zll]
      exact pp
    refine ⟨_, rfl, _, _, _, cell_add h20.me rfl, ?_⟩
    have ei : IntKind.i64.wrap ((z.l.length : Int) - 1) = (x.l.length : Int) := by rw [zll, wrap64_of (by omega) (by omega)]; omega
    rw [ei]
    refine (up_spec h20 okz (x.l.length : Int) (by omega) (by rw [zll]; omega) ?_).mono ?_
    · rw [zs, zL, zll]
      constructor
      · intro j j1 j2 j3
        have := gd.ord j j1 (by omega) (by omega) (by omega)
        simp only [j3, if_false, show ¬ (j - 1) / 2 = (x.l.length : Int) by omega]
        exact this
      · intro j j1 j2 j3 j4; omega
    · rintro e w23 ⟨rfl, q, hq, okq, lq, oq, mq⟩
      refine ⟨rfl, rfl, q, hq, ⟨okq, hn0, by rw [lq.score]; exact oq, fun u u0 u1 => by rw [lq.score, zs]; exact gd.sc u u0 u1, by rw [lq.step, zt]; exact gd.st⟩, ?_, ?_, ?_⟩
      · refine ⟨by rw [lq.pa, ← hz, ← hy], by rw [lq.ca, ← hz, ← hy], by rw [lq.ps, ← hz, ← hy], by rw [lq.cs, ← hz, ← hy], by rw [lq.a, zal], by rw [lq.score, zs], by rw [lq.step, zt], fun u u0 u1 => ?_⟩
        rw [lq.has u u0 u1, za]
        by_cases e : u = v
        · simp [e]
        · simp [e]
      · exact M20.then mq fun k hk e => (yf k (zf ▸ e)).resolve_right (by omega)
      · intro k hk
        rw [lq.foot b, zf] at hk
        exact yf k hk
  · have tt : g x.at_ v ≠ 0 := beq_eq_false_iff_ne.1 tt
    refine ⟨rfl, x, h, gd, ⟨rfl, rfl, rfl, rfl, rfl, rfl, rfl, fun u u0 u1 => ⟨.inl, ?_⟩⟩, g1.mono fun _ _ h => h.elim, fun _ => .inl⟩
    rintro (h | rfl)
    · exact h
    · omega

/-- The same scores; just one is not in it that was. -/
structure Lk0 (N v : Int) (x y : HS) : Prop where
  pa : y.pa = x.pa
  ca : y.ca = x.ca
  ps : y.ps = x.ps
  cs : y.cs = x.cs
  a : y.at_.length = x.at_.length
  score : y.score = x.score
  step : y.step = x.step
  has : ∀ u, 1 ≤ u → u ≤ N → (0 < g y.at_ u ↔ 0 < g x.at_ u ∧ u ≠ v)

theorem pop_no {w : World} {b : Nat} {x : HS} (h : HRep w b x) (h0 : x.l.length = 0) : Calls Try.prog heap_Heap_Pop.id #[ptr b] w fun e w' =>
    e = .returned (.tuple #[.int .i64 0, .bool false]) ∧ HRep w' b x ∧ Grow w w' := by
  refine heap_Heap_Pop.calls ?_
  refine (best_ok h (by omega)).mono ?_
  rintro e w1 ⟨rfl, g1⟩
  exact ⟨_, _, rfl, cnd_t (by simp [h0]) ⟨rfl, h.grow g1, g1⟩⟩

theorem g_take {l : List Int} {k : Nat} {j : Int} (h : j < k) : g (l.take k) j = g l j := by
  unfold g
  simp only [List.getD_eq_getElem?_getD]
  split
  · rfl
  · rw [List.getElem?_take, if_pos (by omega)]

theorem Pos.congr {L A L' A' : Int → Int} {n N : Int} (h : Pos L A n N) (hL : ∀ j, 0 ≤ j → j < n → L' j = L j) (hA : ∀ u, 1 ≤ u → u ≤ N → A' u = A u) : Pos L' A' n N := by
  constructor
  · intro j j0 j1
    have f := h.fit j j0 j1
    rw [hL j j0 j1, hA _ f.1 f.2.1]; exact f
  · intro v v1 v2
    have f := h.back v v1 v2
    rw [hA v v1 v2]
    exact ⟨f.1, f.2.1, fun hp => by rw [hL _ (by omega) (by omega)]; exact f.2.2 hp⟩

theorem pop_ok {w : World} {b : Nat} {x : HS} {N : Int} (h : HRep w b x) (gd : HGood x N) (h0 : x.l.length ≠ 0) : Calls Try.prog heap_Heap_Pop.id #[ptr b] w fun e w' =>
    e = .returned (.tuple #[.int .i64 (g x.l 0), .bool true]) ∧ ∃ z, HRep w' b z ∧ HGood z N ∧ Lk0 N (g x.l 0) x z ∧ z.l.length + 1 = x.l.length ∧ Mod (x.foot b) w w' ∧ z.foot b = x.foot b := by
  refine heap_Heap_Pop.calls ?_
  have hN := gd.ok.big
  have hna := gd.ok.na
  have hns := gd.ok.ns
  have hnl := gd.ok.nl
  have hn0 := gd.n0
  obtain ⟨n, hn⟩ : ∃ n, x.l.length = n + 1 := ⟨x.l.length - 1, by omega⟩
  refine (best_ok h (by omega)).mono ?_
  rintro e w1 ⟨rfl, g1⟩
  have h := h.grow g1
  refine ⟨_, _, rfl, ?_⟩
  rw [if_neg h0, decide_eq_true h0]
  have f0 := gd.ok.pos.fit 0 (Int.le_refl _) (by omega)
  have fn := gd.ok.pos.fit n (by omega) (by omega)
  have en : IntKind.i64.wrap ((x.l.length : Int) - 1) = (n : Int) := by rw [wrap64_of (by omega) (by omega)]; omega
  refine cnd_f rfl ⟨_, rfl, _, _, _, cell_add h.me rfl, ?_⟩
  rw [en]
  refine ⟨_, rfl, _, _, _, cell_add h.me rfl, h.hl.ix 0 (by omega) rfl (by omega) fun a8 e8 => ⟨_, e8, _, rfl, _, _, _, cell_add h.me rfl, ?_⟩⟩
  rw [g_nn (by omega)]
  have hc : n ≤ x.cl := by
    rcases h.hl.un with ⟨_, _, e⟩ | ⟨_, _, _, _, e, _⟩
    · simp [e] at h0
    · omega
  refine slK_i 0 n x.cl rfl rfl rfl (Nat.le_refl _) hc (Nat.zero_le _) ?_
  have ep : (if x.cl = 0 then x.pl else x.pl.map (·.add (0 * 1))) = x.pl := by
    split
    · rfl
    · cases x.pl <;> simp [Addr.add]
  rw [ep, Nat.sub_zero, Nat.sub_zero]
  refine ⟨_, rfl, store_f h.me rfl rfl fun w14 o m => ?_⟩
  generalize hy : ({ x with l := x.l.take n } : HS) = y
  have h14 : HRep w14 b y := by
    rw [← hy]
    have ht := h.hl.take (k := n) (by omega)
    refine ⟨?_, ht.keep m fun k hk e => h.bl (e ▸ hk), h.ha.keep m fun k hk e => h.ba (e ▸ hk), h.hs.keep m fun k hk e => h.bs (e ▸ hk), h.bl, h.ba, h.bs, h.la, h.ls, h.sa⟩
    have e : (x.l.take n).length = n := by simp; omega
    show Has w14 b #[.slice x.pl (x.l.take n).length x.cl, _, _, _]
    rw [e]; exact o
  have M14 : Mod (x.foot b) w w14 := (g1.mono fun _ _ h => h.elim).trans (m.mono fun k _ hk => .inl hk)
  have yl : y.l = x.l.take n := by rw [← hy]
  have yll : y.l.length = n := by rw [yl]; simp; omega
  have ya : y.at_ = x.at_ := by rw [← hy]
  have yf : y.foot b = x.foot b := by rw [← hy]; rfl
  refine ⟨_, rfl, _, _, _, cell_add h14.me rfl, h14.ha.st 0 rfl rfl (by omega) rfl (by rw [ya]; omega) fun w18 o18 m18 => ?_⟩
  have h18 := h14.setA (by simp) o18 m18
  generalize hz : ({ y with at_ := y.at_.set (g x.l 0).toNat 0 } : HS) = z at h18
  have zl : z.l = y.l := by rw [← hz]
  have zll : z.l.length = n := by rw [zl, yll]
  have zs : z.score = x.score := by rw [← hz, ← hy]
  have zt : z.step = x.step := by rw [← hz, ← hy]
  have zf : z.foot b = x.foot b := by rw [← yf, ← hz]; rfl
  have zal : z.at_.length = x.at_.length := by rw [← hz]; simp [ya]
  have za : g z.at_ = fun u => if u = g x.l 0 then 0 else g x.at_ u := by
    rw [← hz]
    show g (y.at_.set (g x.l 0).toNat 0) = _
    rw [g_set (by omega) (by rw [ya]; omega), ya]
  have M18 : Mod (x.foot b) w w18 := M14.trans (m18.mono fun k _ hk => by rw [← yf]; exact .inr (.inr (.inl hk)))
  have pp := Pos.pop (n := (n : Int)) (by have := gd.ok.pos; rw [hn] at this; exact this) (by omega) rfl
  have zpa : z.pa = x.pa := by rw [← hz, ← hy]
  have zca : z.ca = x.ca := by rw [← hz, ← hy]
  have zps : z.ps = x.ps := by rw [← hz, ← hy]
  have zcs : z.cs = x.cs := by rw [← hz, ← hy]
  refine cnd_i (fun t => ?_) (fun t => ?_) <;> simp only [decide_eq_true_eq, decide_eq_false_iff_not] at t
  · have n0 : (n : Int) ≠ 0 := by omega
    refine (put_spec h18 0 (g x.l n) (Int.le_refl _) (by rw [zll]; omega) (by omega) (by rw [zal]; omega) (by rw [zll]; omega)).mono ?_
    rintro e w19 ⟨rfl, h19, m19⟩
    have pl19 : g (z.put 0 (g x.l n)).l = fun j => if j = 0 then g x.l n else g z.l j := put_l (Int.le_refl _) (by rw [zll]; omega)
    have pa19 : g (z.put 0 (g x.l n)).at_ = fun u => if u = g x.l n then 0 + 1 else g z.at_ u := put_a (by omega) (by rw [zal]; omega)
    have pl20 : ∀ j : Int, 0 ≤ j → j < n → g (z.put 0 (g x.l n)).l j = if j = 0 then g x.l n else g x.l j := by
      intro j j0 j1
      rw [pl19]
      show (if j = 0 then g x.l n else g z.l j) = _
      split
      · rfl
      · rw [zl, yl, g_take (by omega)]
    have ok19 : HOk (z.put 0 (g x.l n)) N := by
      refine ⟨by simpa [HS.put, zal] using hna, by show (z.score.length : Int) = _; rw [zs]; exact hns, hN, ?_, by simp [HS.put, zll]; omega⟩
      have e1 : ((z.put 0 (g x.l n)).l.length : Int) = n := by simp [HS.put, zll]
      rw [e1]
      refine Pos.congr pp pl20 fun u u0 u1 => ?_
      rw [pa19, za]
      simp only [if_neg n0]
      rfl
    refine ⟨rfl, ?_⟩
    have e1 : (z.put 0 (g x.l n)).l.length = n := by simp [HS.put, zll]
    refine (fall_spec h19 ok19 0 (Int.le_refl _) (by rw [e1]; omega) 0 (Int.le_refl _) ⟨?_, fun j j1 j2 j3 j4 => by omega⟩).mono ?_
    · rw [e1]
      show Ord (g z.score) _ _ _ _
      rw [zs]
      intro j j1 j2 j3 j4
      rw [pl20 j (by omega) j2, pl20 ((j - 1) / 2) (by omega) (by omega), if_neg (by omega), if_neg j4]
      exact gd.ord j j1 (by omega) (by omega) (by omega)
    · rintro e w20 ⟨rfl, q, hq, okq, lq, oq, mq⟩
      have qs : q.score = x.score := lq.score.trans zs
      have pf : (z.put 0 (g x.l n)).foot b = x.foot b := zf
      refine ⟨rfl, rfl, q, hq, ⟨okq, hn0, ?_, fun u u0 u1 => by rw [qs]; exact gd.sc u u0 u1, by rw [show q.step = x.step from lq.step.trans zt]; exact gd.st⟩, ?_, ?_, ?_, ?_⟩
      · rw [qs, ← zs]; exact oq
      · refine ⟨lq.pa.trans zpa, lq.ca.trans zca, lq.ps.trans zps, lq.cs.trans zcs, lq.a.trans (by simp [HS.put, zal]), qs, lq.step.trans zt, fun u u0 u1 => ?_⟩
        rw [lq.has u u0 u1, pa19, za]
        have hne : g x.l n ≠ g x.l 0 := fun e => by have := gd.ok.pos.inj (by omega) (by omega) (Int.le_refl 0) (by omega) e; omega
        by_cases e1 : u = g x.l n
        · subst e1; simp [hne]; omega
        · by_cases e2 : u = g x.l 0
          · simp [e2, Ne.symm hne]
          · simp [e1, e2]
      · have := lq.l; omega
      · exact (M18.trans (zf ▸ m19)).trans (pf ▸ mq)
      · rw [lq.foot b, pf]
  · have n0 : n = 0 := by omega
    subst n0
    refine ⟨rfl, z, h18, ⟨⟨by rw [zal]; exact hna, by rw [zs]; exact hns, hN, ?_, by rw [zll]; omega⟩, hn0, ?_, fun u u0 u1 => by rw [zs]; exact gd.sc u u0 u1, by rw [zt]; exact gd.st⟩, ⟨zpa, zca, zps, zcs, zal, zs, zt, fun u u0 u1 => ?_⟩, by rw [zll, hn], M18, zf⟩
    · rw [zll]
      refine Pos.congr pp (fun j j0 j1 => by omega) fun u u0 u1 => ?_
      rw [za]
      show (if u = g x.l 0 then 0 else g x.at_ u) = if u = g x.l ((0 : Nat) : Int) then (if ((0 : Nat) : Int) = 0 then 0 else 1) else if u = g x.l 0 then 0 else g x.at_ u
      split
      · subst_vars; simp
      · rename_i hne; rw [if_neg (by simpa using hne)]
    · rw [zll]; intro j j1 j2; omega
    · rw [za]
      by_cases e : u = g x.l 0
      · simp [e]
      · simp [e]

end Go.Proofs.Ytamckcamloelbaa.W
