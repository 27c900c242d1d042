/- Layer 9: what the document's functions come to. -/
import Derived.Test.YtamckcamloelbaaHeap4
namespace Go.Proofs.Ytamckcamloelbaa.W
open Go Go.Fw Go.RowKit Go.HeapP

theorem sl_bool : slOk Try.prog ty_sl_bool ty_bool 1 = true := by kernel_rfl
theorem bool_zero : (Try.prog.info? ty_bool).bind (·.zero) = some (.bool false) := by kernel_rfl

def gb (l : List Bool) (i : Int) : Bool := if i < 0 then false else l.getD i.toNat false
theorem gb_nn {l : List Bool} {i : Int} (h : 0 ≤ i) : l.getD i.toNat false = gb l i := by unfold gb; rw [if_neg (by omega)]
theorem gb_set {l : List Bool} {i : Int} {v : Bool} (h0 : 0 ≤ i) (h1 : i < l.length) : gb (l.set i.toNat v) = fun j => if j = i then v else gb l j := by
  funext j
  unfold gb
  simp only [List.getD_eq_getElem?_getD, List.getElem?_set]
  by_cases hj : j < 0
  · simp [hj]; omega
  · by_cases h : j = i
    · subst h
      simp [show j.toNat < l.length by omega, hj]
    · rw [if_neg hj, if_neg (by omega), if_neg h, if_neg hj]
theorem gb_rep (n : Nat) (v : Int) : gb (List.replicate n false) v = false := by
  unfold gb
  split
  · rfl
  · simp only [List.getD_eq_getElem?_getD, List.getElem?_replicate]; split <;> rfl

/-- The document's heap. -/
structure RS where
  pi : Option Addr
  ci : Nat
  ps : Option Addr
  cs : Nat
  rin : List Bool
  rs : List Int
  step : Int

def RS.foot (r : RS) (k : Nat) : Prop := blk r.pi = some k ∨ blk r.ps = some k
abbrev RS.val (r : RS) : Value := .agg #[.slice r.pi r.rin.length r.ci, .slice r.ps r.rs.length r.cs, .int .i64 r.step]
abbrev RS.row (r : RS) : Array Value := #[.slice r.pi r.rin.length r.ci, .slice r.ps r.rs.length r.cs, .int .i64 r.step]
structure RRep (w : World) (r : RS) : Prop where
  i : OwB ty_bool w r.pi r.ci r.rin
  s : OwI ty_int w r.ps r.cs r.rs
theorem RRep.keep {w w' : World} {r : RS} {S : Nat → Prop} (h : RRep w r) (m : Mod S w w') (hS : ∀ k, r.foot k → ¬ S k) : RRep w' r := ⟨h.i.keep m fun k hk => hS k (.inl hk), h.s.keep m fun k hk => hS k (.inr hk)⟩
theorem RRep.grow {w w' : World} {r : RS} (h : RRep w r) (m : Grow w w') : RRep w' r := h.keep m fun _ _ => id
theorem RRep.lt {w : World} {r : RS} (h : RRep w r) : ∀ k, r.foot k → k < w.heap.size := by
  rintro k (hk | hk)
  · exact h.i.lt k hk
  · exact h.s.lt k hk
theorem RRep.put {w w' : World} {r : RS} {n : Nat} (h : RRep w r) (m : Mod (· = n) w w') (hn : ¬ r.foot n) : RRep w' r := h.keep m fun _ hk e => hn (e ▸ hk)

/-- Which one is best, for the document. -/
def IsBest (r : RS) (b : Int) : Prop := (b = 0 ∧ ∀ u : Int, 1 ≤ u → u < r.rin.length → gb r.rin u = false) ∨ (1 ≤ b ∧ b < r.rin.length ∧ gb r.rin b = true ∧ ∀ u : Int, 1 ≤ u → u < r.rin.length → gb r.rin u = true → ¬ Bt (g r.rs) u b)

theorem refBest_ok {w : World} {r : RS} (h : RRep w r) (hl : r.rs.length = r.rin.length) (hb : r.rin.length < 2147483648) : Calls Try.prog fathomref09_Best.id #[r.val] w fun e w' => (∃ b, e = .returned (.int .i64 b) ∧ IsBest r b) ∧ Grow w w' := by
  refine fathomref09_Best.calls ?_
  intro n w2 hn
  refine ⟨fun b v w' k => 1 ≤ v ∧ (k : Int) = (r.rin.length + 1 : Nat) - v ∧ Grow w2 w' ∧ ((b = 0 ∧ ∀ u : Int, 1 ≤ u → u < v → u < r.rin.length → gb r.rin u = false) ∨ (1 ≤ b ∧ b < v ∧ b < r.rin.length ∧ gb r.rin b = true ∧ ∀ u : Int, 1 ≤ u → u < v → u < r.rin.length → gb r.rin u = true → ¬ Bt (g r.rs) u b)), ⟨r.rin.length, by omega, by omega, Mod.refl _, .inl ⟨rfl, fun u u0 u1 => by omega⟩⟩, ?_⟩
  rintro b v w8 k _ ⟨v1, hk, G, hi⟩
  have H := hn.has.grow G
  have h8 := (h.grow hn.mod).grow G
  refine ⟨_, _, _, cell_add H rfl, cnd_i (fun t => ?_) (fun t => ?_)⟩ <;> simp only [decide_eq_true_eq, decide_eq_false_iff_not] at t
  · have H : Has w8.drew n _ := H
    have h8 : RRep w8.drew r := ⟨h8.i, h8.s⟩
    have ev : IntKind.i64.wrap (v + 1) = v + 1 := wrap64_of (by omega) (by omega)
    rw [ev]
    refine ⟨_, _, _, cell_add H rfl, h8.i.ix false (by omega) rfl t fun a e => ⟨_, e, ?_⟩⟩
    rw [gb_nn (by omega)]
    have stay : (gb r.rin v = false ∨ 1 ≤ b ∧ ¬ Bt (g r.rs) v b) → ∃ k5 : Nat, k5 < k ∧ (1 ≤ v + 1 ∧ (k5 : Int) = (r.rin.length + 1 : Nat) - (v + 1) ∧ Grow w2 w8.drew ∧ ((b = 0 ∧ ∀ u : Int, 1 ≤ u → u < v + 1 → u < r.rin.length → gb r.rin u = false) ∨ (1 ≤ b ∧ b < v + 1 ∧ b < r.rin.length ∧ gb r.rin b = true ∧ ∀ u : Int, 1 ≤ u → u < v + 1 → u < r.rin.length → gb r.rin u = true → ¬ Bt (g r.rs) u b))) := by
      intro hs
      refine ⟨k - 1, by omega, by omega, by omega, G.drew, ?_⟩
      rcases hi with ⟨rfl, hi⟩ | ⟨b1, b2, b3, b4, hi⟩
      · left
        refine ⟨rfl, fun u u0 u1 u2 => ?_⟩
        by_cases e : u = v
        · subst e; exact hs.resolve_right (by omega)
        · exact hi u u0 (by omega) u2
      · right
        refine ⟨b1, by omega, b3, b4, fun u u0 u1 u2 u3 => ?_⟩
        by_cases e : u = v
        · subst e
          rcases hs with hs | hs
          · rw [hs] at u3; cases u3
          · exact hs.2
        · exact hi u u0 (by omega) u2 u3
    have move : gb r.rin v = true → (b = 0 ∨ Bt (g r.rs) v b) → ∃ k5 : Nat, k5 < k ∧ (1 ≤ v + 1 ∧ (k5 : Int) = (r.rin.length + 1 : Nat) - (v + 1) ∧ Grow w2 w8.drew ∧ ((v = 0 ∧ ∀ u : Int, 1 ≤ u → u < v + 1 → u < r.rin.length → gb r.rin u = false) ∨ (1 ≤ v ∧ v < v + 1 ∧ v < r.rin.length ∧ gb r.rin v = true ∧ ∀ u : Int, 1 ≤ u → u < v + 1 → u < r.rin.length → gb r.rin u = true → ¬ Bt (g r.rs) u v))) := by
      intro hv hs
      refine ⟨k - 1, by omega, by omega, by omega, G.drew, .inr ⟨v1, by omega, t, hv, ?_⟩⟩
      clear stay
      intro u u0 u1 u2 u3
      by_cases e : u = v
      · subst e; exact fun hb => hb.asymm hb
      · rcases hi with ⟨rfl, hi⟩ | ⟨b1, b2, b3, b4, hi⟩
        · rw [hi u u0 (by omega) u2] at u3; cases u3
        · have hb := hs.resolve_left (by omega)
          exact Bt.not_of (hi u u0 (by omega) u2 u3) hb
    refine cnd_i (fun t2 => cnd_i (fun t3 => move t2 (.inl (beq_iff_eq.1 t3))) (fun t3 => ?_)) (fun t2 => stay (.inl t2))
    have t3 := beq_eq_false_iff_ne.1 t3
    obtain ⟨b1, b2, b3, b4, hi2⟩ := hi.resolve_left (fun h => t3 h.1)
    refine ⟨_, _, _, cell_add H rfl, h8.s.ix 0 (by omega) rfl (by omega) fun a e => ⟨_, e, _, _, _, cell_add H rfl, h8.s.ix 0 (by omega) rfl (by omega) fun a e => ⟨_, e, ?_⟩⟩⟩
    rw [g_nn (by omega), g_nn (by omega)]
    refine cnd_i (fun t4 => move t2 (.inr ?_)) (fun t4 => stay (.inr ⟨b1, ?_⟩)) <;> simp only [decide_eq_true_eq, decide_eq_false_iff_not] at t4
    · exact .inl t4
    · unfold Bt; omega
  · refine ⟨⟨b, rfl, ?_⟩, hn.mod.trans G⟩
    rcases hi with ⟨rfl, hi⟩ | ⟨b1, b2, b3, b4, hi⟩
    · exact .inl ⟨rfl, fun u u0 u1 => hi u u0 (by omega) u1⟩
    · exact .inr ⟨b1, b3, b4, fun u u0 u1 => hi u u0 (by omega) u1⟩

/-- How many are in it. -/
def cnt (r : List Bool) : Nat → Nat
  | 0 => 0
  | n + 1 => cnt r n + (if gb r (n + 1) then 1 else 0)
theorem cnt_le (r : List Bool) : ∀ n, cnt r n ≤ n
  | 0 => Nat.le_refl _
  | n + 1 => by have := cnt_le r n; simp only [cnt]; split <;> omega

theorem refLen_ok {w : World} {r : RS} (h : RRep w r) (hb : r.rin.length < 2147483648) : Calls Try.prog fathomref09_Len.id #[r.val] w fun e w' => e = .returned (.int .i64 (cnt r.rin (r.rin.length - 1))) ∧ Grow w w' := by
  refine fathomref09_Len.calls ?_
  intro n w2 hn
  refine ⟨fun c v w' k => ∃ t : Nat, v = t + 1 ∧ (t = 0 ∨ t + 1 ≤ r.rin.length) ∧ c = cnt r.rin t ∧ k + t = r.rin.length ∧ Grow w2 w', ⟨r.rin.length, 0, rfl, .inl rfl, rfl, rfl, Mod.refl _⟩, ?_⟩
  rintro c v w8 k _ ⟨t, rfl, ht, rfl, hk, G⟩
  have H := hn.has.grow G
  have h8 := (h.grow hn.mod).grow G
  refine ⟨_, _, _, cell_add H rfl, cnd_i (fun q => ?_) (fun q => ?_)⟩ <;> simp only [decide_eq_true_eq, decide_eq_false_iff_not] at q
  · have ev : IntKind.i64.wrap ((t : Int) + 1 + 1) = ((t + 1 : Nat) : Int) + 1 := by rw [wrap64_of (by omega) (by omega)]; omega
    rw [ev]
    have := cnt_le r.rin t
    refine ⟨_, _, _, cell_add H rfl, h8.i.ix false (by omega) rfl q fun a e => ⟨_, e, ?_⟩⟩
    rw [gb_nn (by omega)]
    refine cnd_i (fun t2 => ⟨k - 1, by omega, t + 1, rfl, .inr (by omega), ?_, by omega, G⟩) (fun t2 => ⟨k - 1, by omega, t + 1, rfl, .inr (by omega), ?_, by omega, G⟩)
    · rw [wrap64_of (by omega) (by omega)]
      simp only [cnt, t2, if_true]; omega
    · simp only [cnt, t2]; simp
  · refine ⟨?_, hn.mod.trans G⟩
    have : t = r.rin.length - 1 := by omega
    rw [this]

/-- A local variable that holds a heap of the document, and the result's. -/
theorem cellsR {w : World} {b : Nat} {r : RS} (h : Has w b r.row) : CellsAt w ⟨b, 0, none⟩ 0 [.slice r.pi r.rin.length r.ci, .slice r.ps r.rs.length r.cs, .int .i64 r.step] := cells3 h

theorem refSet_ok {w : World} {r : RS} (h : RRep w r) (v : Int) (b : Bool) (v0 : 0 ≤ v) (v1 : v < r.rin.length) (hb : r.rin.length < 2147483648) : Calls Try.prog fathomref09_Set.id #[r.val, .int .i64 v, .bool b] w fun e w' =>
    ∃ r' : RS, e = .returned r'.val ∧ RRep w' r' ∧ r'.rin = r.rin.set v.toNat b ∧ r'.rs = r.rs ∧ r'.step = r.step ∧ (∀ k, r'.foot k → r.foot k ∨ w.heap.size ≤ k) ∧ Grow w w' := by
  refine fathomref09_Set.calls ?_
  intro n1 w2 h1 n3 w4 h3 n5 w6 h5
  have hr := (((h.grow h1.mod).grow h3.mod).grow h5.mod)
  have H1 := (h1.has.old h3).old h5
  have H3 := h3.has.old h5
  have n13 : n1 ≠ n3 := h3.ne h1.has
  have n15 : n1 ≠ n5 := h5.ne (h1.has.old h3)
  have n35 : n3 ≠ n5 := h5.ne h3.has
  have e5 : OwB ty_bool w6 (some ⟨n5, 0, none⟩) 0 [] := h5.empty
  have s1 := h1.num; have s3 := h3.num; have s5 := h5.num
  have z1 := h1.mod.size; have z3 := h3.mod.size; have z5 := h5.mod.size
  have hlt := h.lt
  have l1 := H1.lt; have l3 := H3.lt; have l5 : n5 < w6.heap.size := e5.lt n5 rfl
  have G6 : Grow w w6 := (h1.mod.trans h3.mod).trans h5.mod
  refine ⟨_, _, _, cell_add H1 rfl, e5.appS sl_bool hr.i rfl rfl oneBool (by simp; omega) fun w8 p' c' o m hp hsz => ?_⟩
  simp only [List.nil_append] at o ⊢
  have bp : ∀ k, blk p' = some k → k = n5 ∨ w6.heap.size ≤ k := by
    rintro k hk
    rcases hp with rfl | rfl <;> simp [blk] at hk <;> omega
  have H1 := H1.keep m (by simp [blk]; omega)
  have H3 := H3.keep m (by simp [blk]; omega)
  have S8 := hr.s.keep m fun k hk e => by simp [blk] at e; have := hlt k (.inr hk); omega
  have G8 : Grow w w8 := G6.then m fun k hk e => by simp [blk] at e; omega
  refine store_f H1 rfl rfl fun w10 H1' m1 => ?_
  have H3 := H3.put m1 (Ne.symm n13)
  have o := o.keep m1 fun k hk e => by have := bp k hk; omega
  have S10 := S8.keep m1 fun k hk e => by have := hlt k (.inr hk); omega
  have G10 : Grow w w10 := G8.then m1 fun k hk e => by omega
  refine ⟨_, _, _, cell_add H1' rfl, o.st b rfl rfl v0 rfl v1 fun w13 o13 m13 => ?_⟩
  have n1p : ¬ blk p' = some n1 := fun e => by have := bp n1 e; omega
  have n3p : ¬ blk p' = some n3 := fun e => by have := bp n3 e; omega
  have H1 := H1'.keep m13 n1p
  have H3 := H3.keep m13 n3p
  have S13 := S10.keep m13 fun k hk e => by have := bp k e; have := hlt k (.inr hk); omega
  have G13 : Grow w w13 := G10.then m13 fun k hk e => by have := bp k e; omega
  have H1 : Has w13 n1 #[.slice p' r.rin.length c', .slice r.ps r.rs.length r.cs, .int .i64 r.step] := H1
  refine ⟨_, _, _, _, _, _, _, cells3 H1, store_i H3 rfl rfl fun w17 H3' m17 => ⟨_, _, _, _, _, _, _, cells3 H3', ?_⟩⟩
  have o17 := o13.keep m17 fun k hk e => n3p (e ▸ hk)
  have S17 := S13.keep m17 fun k hk e => by have := hlt k (.inr hk); omega
  refine ⟨⟨p', c', r.ps, r.cs, r.rin.set v.toNat b, r.rs, r.step⟩, ?_, ⟨o17, S17⟩, rfl, rfl, rfl, ?_, G13.then m17 fun k hk e => by omega⟩
  · simp [RS.val]
  · rintro k (e | e)
    · right; have := bp k e; omega
    · exact .inl (.inr e)
/-- Must it be scaled? -/
def big (x : Int) : Bool := decide (x > 1099511627776)
def RS.must (r : RS) : Bool := big r.step || r.rs.any big

theorem any_take {l : List Int} {t : Nat} (h : t < l.length) (p : Int → Bool) : (l.take (t + 1)).any p = ((l.take t).any p || p (l.getD t 0)) := by
  rw [List.take_add_one, List.any_append]
  simp [h]
theorem map_take {l : List Int} {t : Nat} (h : t < l.length) (f : Int → Int) : (l.take (t + 1)).map f = (l.take t).map f ++ [f (l.getD t 0)] := by
  rw [List.take_add_one, List.map_append]
  simp [h]
theorem g_nat {l : List Int} {t : Nat} : l.getD t 0 = g l t := by
  have := g_nn (l := l) (i := (t : Int)) (by omega)
  rwa [Int.toNat_natCast] at this

/-- What a turned heap of the document is. -/
structure Scaled (r r' : RS) (w' : World) : Prop where
  rep : RRep w' r'
  rin : r'.rin = r.rin
  rs : r'.rs = if r.must then r.rs.map f20 else r.rs
  step : r'.step = if r.must then imax 1 (f20 r.step) else r.step

theorem refScaled_ok {w : World} {r : RS} (h : RRep w r) (hb : r.rs.length < 2147483648) (hs : ∀ t : Nat, t < r.rs.length → 0 ≤ r.rs.getD t 0 ∧ r.rs.getD t 0 ≤ 9007199254740992) (ht : 1 ≤ r.step ∧ r.step ≤ 9007199254740992) :
    Calls Try.prog fathomref09_scaled.id #[r.val] w fun e w' => ∃ r' : RS, e = .returned r'.val ∧ Scaled r r' w' ∧ (∀ k, r'.foot k → r.foot k ∨ w.heap.size ≤ k) ∧ Grow w w' := by
  refine fathomref09_scaled.calls ?_
  intro n1 w2 h1 n3 w4 h3
  have hr := (h.grow h1.mod).grow h3.mod
  have H1 := h1.has.old h3
  have H3 := h3.has
  have n13 : n1 ≠ n3 := h3.ne h1.has
  have s1 := h1.num; have s3 := h3.num
  have z1 := h1.mod.size; have z3 := h3.mod.size
  have hlt := h.lt
  have l1 := H1.lt; have l3 := H3.lt
  have G4 : Grow w w4 := h1.mod.trans h3.mod
  refine ⟨_, cell_add H1 rfl, ?_⟩
  refine ⟨fun m v w' k => ∃ t : Nat, v = t ∧ t ≤ r.rs.length ∧ m = (big r.step || (r.rs.take t).any big) ∧ k + t = r.rs.length ∧ Grow w4 w', ⟨r.rs.length, 0, rfl, by omega, ?_, rfl, Mod.refl _⟩, ?_⟩
  · simp [big]
  rintro m v w11 k _ ⟨t, rfl, htl, rfl, hk, G⟩
  have H1 := H1.grow G
  have hr := hr.grow G
  refine ⟨_, _, _, cell_add H1 rfl, cnd_i (fun q => ?_) (fun q => ?_)⟩ <;> simp only [decide_eq_true_eq, decide_eq_false_iff_not] at q
  · have ev : IntKind.i64.wrap ((t : Int) + 1) = ((t + 1 : Nat) : Int) := by rw [wrap64_of (by omega) (by omega)]; omega
    rw [ev]
    refine cnd_i (fun q2 => ⟨k - 1, by omega, t + 1, rfl, by omega, ?_, by omega, G⟩) (fun q2 => ⟨_, _, _, cell_add H1 rfl, hr.s.ix 0 (by omega) rfl q fun a e => ⟨_, e, k - 1, by omega, t + 1, rfl, by omega, ?_, by omega, G⟩⟩)
    · rw [any_take (by omega), ← Bool.or_assoc, q2]; rfl
    · rw [any_take (by omega), ← Bool.or_assoc, q2, Int.toNat_natCast]; rfl
  · have et : t = r.rs.length := by omega
    subst et
    rw [List.take_length]
    change cnd (!r.must) _ _
    have H3 := H3.grow G
    have G11 := G4.trans G
    refine cnd_i (fun q2 => ?_) (fun q2 => ?_)
    · have q2 : r.must = false := by simpa using q2
      refine ⟨_, _, _, _, _, _, _, cells3 H1, store_i H3 rfl rfl fun w19 H3' m => ⟨_, _, _, _, _, _, _, cells3 H3', ?_⟩⟩
      refine ⟨r, rfl, ⟨hr.put m fun e => by have := hlt _ e; omega, rfl, by rw [q2]; rfl, by rw [q2]; rfl⟩, fun k hk => .inl hk, G11.then m fun k hk e => by omega⟩
    · have q2 : r.must = true := by simpa using q2
      intro n5 w24 h5
      have H1 := H1.old h5
      have H3 := H3.old h5
      have hr := hr.grow h5.mod
      have G24 := G11.trans h5.mod
      have s5 := h5.num
      have z4 := G.size; have z5 := h5.mod.size
      refine ⟨fun sp sn sc v w' k => ∃ t : Nat, v = t ∧ t = sn ∧ t ≤ r.rs.length ∧ OwI ty_int w' sp sc ((r.rs.take t).map f20) ∧ (∀ k, blk sp = some k → w4.heap.size ≤ k) ∧ Has w' n1 r.row ∧ Has w' n3 #[.slice none 0 0, .slice none 0 0, .int .i64 0] ∧ RRep w' r ∧ Grow w w' ∧ w4.heap.size ≤ w'.heap.size ∧ k + t = r.rs.length,
        ⟨r.rs.length, 0, rfl, rfl, by omega, by simpa using (h5.empty : OwI ty_int w24 _ _ _), fun k hk => by simp [blk] at hk; omega, H1, H3, hr, G24, by omega, rfl⟩, ?_⟩
      clear H1 H3 hr G24 G11 q G
      rintro sp sn sc v w30 k _ ⟨t, rfl, rfl, htl, o, hsp, H1, H3, hr, G, zz, hk⟩
      refine ⟨_, _, _, cell_add H1 rfl, cnd_i (fun q => ?_) (fun q => ?_)⟩ <;> simp only [decide_eq_true_eq, decide_eq_false_iff_not] at q
      · refine ⟨_, _, _, cell_add H1 rfl, hr.s.ix 0 (by omega) rfl q fun a e => ⟨_, e, by decide, ?_⟩⟩
        rw [Int.toNat_natCast]
        have hx := hs t (by omega)
        have ex : IntKind.i64.wrap ((r.rs.getD t 0).tdiv 1048576) = f20 (r.rs.getD t 0) := by
          rw [Int.tdiv_eq_ediv_of_nonneg (by omega), wrap64_of (by omega) (by omega)]; rfl
        rw [ex]
        intro n35 w36 h35
        have H1 := H1.old h35
        have H3 := H3.old h35
        have hr := hr.grow h35.mod
        have G := G.trans h35.mod
        have zz2 := h35.mod.size
        refine (o.grow h35.mod).app1 sl_int (f20 (r.rs.getD t 0)) h35.has rfl (by simp; omega) oneInt (by simp; omega) fun w37 p' c' o' m hp hsz => ?_
        have hf : ∀ k, blk sp = some k → w4.heap.size ≤ k := hsp
        refine ⟨k - 1, by omega, t + 1, ?_, by simp; omega, by omega, by rw [map_take (by omega)]; exact o', ?_, H1.keep m fun e => by have := hf _ e; omega, H3.keep m fun e => by have := hf _ e; omega, hr.keep m fun k hk e => by have := hf _ e; have := hlt k hk; omega, G.then m fun k hk e => by have := hf _ e; omega, by omega, by omega⟩
        · rw [wrap64_of (by omega) (by omega)]; omega
        · intro k hk
          rcases hp with rfl | rfl
          · exact hf k hk
          · simp [blk] at hk; omega
      · have et : t = r.rs.length := by omega
        subst et
        rw [List.take_length] at o
        have d1 : blk sp ≠ some n1 := fun e => by have := hsp _ e; omega
        have d3 : blk sp ≠ some n3 := fun e => by have := hsp _ e; omega
        refine store_f H1 rfl rfl fun w39 H1 m39 => ⟨_, cell_add H1 rfl, by decide, ?_⟩
        have ex : IntKind.i64.wrap (r.step.tdiv 1048576) = f20 r.step := by
          rw [Int.tdiv_eq_ediv_of_nonneg (by omega), wrap64_of (by omega) (by omega)]; rfl
        rw [ex]
        have H3 := H3.put m39 (Ne.symm n13)
        have o := o.keep m39 fun k hk e => d1 (e ▸ hk)
        have hr := hr.put m39 fun e => by have := hlt _ e; omega
        have G := G.then m39 fun k hk (e : k = n1) => by omega
        refine store_f H1 rfl rfl fun w41 H1 m41 => ⟨_, cell_add H1 rfl, ?_⟩
        have H3 := H3.put m41 (Ne.symm n13)
        have o := o.keep m41 fun k hk e => d1 (e ▸ hk)
        have hr := hr.put m41 fun e => by have := hlt _ e; omega
        have G := G.then m41 fun k hk (e : k = n1) => by omega
        have fin : ∀ t', t' = imax 1 (f20 r.step) → ∀ w', Has w' n3 (wr #[.slice none 0 0, .slice none 0 0, .int .i64 0] (0 + 0) [.slice r.pi r.rin.length r.ci, .slice sp r.rs.length sc, .int .i64 t']) → OwI ty_int w' sp sc (r.rs.map f20) → RRep w' r → Grow w w' → ∃ r' : RS, Ending.returned (.agg #[.slice r.pi r.rin.length r.ci, .slice sp r.rs.length sc, .int .i64 t']) = .returned r'.val ∧ Scaled r r' w' ∧ (∀ k, r'.foot k → r.foot k ∨ w.heap.size ≤ k) ∧ Grow w w' := by
          intro t' ht' w' H o hr G
          refine ⟨⟨r.pi, r.ci, sp, sc, r.rin, r.rs.map f20, t'⟩, ?_, ⟨⟨hr.i, o⟩, rfl, by rw [q2]; rfl, by rw [q2]; exact ht'⟩, ?_, G⟩
          · simp [RS.val]
          · rintro k (e | e)
            · exact .inl (.inl e)
            · right; have := hsp k e; omega
        refine cnd_i (fun q3 => ?_) (fun q3 => ?_) <;> simp only [decide_eq_true_eq, decide_eq_false_iff_not] at q3
        · refine store_f H1 rfl rfl fun w43 H1 m43 => ?_
          have H3 := H3.put m43 (Ne.symm n13)
          have o := o.keep m43 fun k hk e => d1 (e ▸ hk)
          have hr := hr.put m43 fun e => by have := hlt _ e; omega
          have G := G.then m43 fun k hk (e : k = n1) => by omega
          refine ⟨_, _, _, _, _, _, _, cells3 H1, store_i H3 rfl rfl fun w47 H3' m => ⟨_, _, _, _, _, _, _, cells3 H3', ?_⟩⟩
          exact fin 1 (by unfold imax; rw [if_neg (by omega)]) w47 H3' (o.keep m fun k hk e => d3 (e ▸ hk)) (hr.put m fun e => by have := hlt _ e; omega) (G.then m fun k hk (e : k = n3) => by omega)
        · refine ⟨_, _, _, _, _, _, _, cells3 H1, store_i H3 rfl rfl fun w47 H3' m => ⟨_, _, _, _, _, _, _, cells3 H3', ?_⟩⟩
          exact fin (f20 r.step) (by unfold imax; split <;> omega) w47 H3' (o.keep m fun k hk e => d3 (e ▸ hk)) (hr.put m fun e => by have := hlt _ e; omega) (G.then m fun k hk (e : k = n3) => by omega)
end Go.Proofs.Ytamckcamloelbaa.W
