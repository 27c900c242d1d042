/- Layer 19: of each thing how many are ahead of it. -/
import Derived.Test.YtambabpklfeaoaaVec2
import Derived.Test.YtambabpklfeaoaaRank17
namespace Go.Proofs.Ytambabpklfeaoaa.W
open Go Go.Fw Go.RowKit Go.TsP Go.AgP Go.Luby
variable {w w' w2 : World} {b : Nat} {x y z : AG} {p q : Option Addr} {n m c d : Nat}

/-- The blocks of a square that is looked at. -/
def foot3 (p : Option Addr) (hs : List Sl) (k : Nat) : Prop := (hs ≠ [] ∧ blk p = some k) ∨ rfoot hs k
theorem V2.keep3 {α : Type} {f : α → Value} {hs : List Sl} {rows : List (List α)} {S : Nat → Prop} (h : V2 f w p hs rows) (m : Mod S w w') (hS : ∀ k, foot3 p hs k → ¬ S k) : V2 f w' p hs rows :=
  (h.vr.keep m fun k hk => hS k (.inr hk)).v2 (h.h.keepN m fun hne k hk => hS k (.inl ⟨hne, hk⟩))
theorem V2.lt3 {α : Type} {f : α → Value} {hs : List Sl} {rows : List (List α)} (h : V2 f w p hs rows) : ∀ k, foot3 p hs k → k < w.heap.size := by
  rintro k (⟨h1, h2⟩ | h1)
  · exact h.h.lt h1 k h2
  · exact h.vr.lt k h1

/-- What stands ahead of a thing, in a square. -/
def col (cs : List (List Int)) (i t : Nat) : List Int := ((List.range t).filter fun k => k != i).map fun k => (cs.getD k []).getD i 0
theorem col_succ (cs : List (List Int)) (i t : Nat) : col cs i (t + 1) = col cs i t ++ (if t ≠ i then [(cs.getD t []).getD i 0] else []) := by
  unfold col
  rw [List.range_succ, List.filter_append, List.map_append]
  congr 1
  by_cases e : t = i
  · rw [if_neg (fun h => h e)]; simp [e]
  · rw [if_pos e]; simp [e]
theorem col_len (cs : List (List Int)) (i t : Nat) : (col cs i t).length ≤ t := by
  unfold col
  rw [List.length_map]
  have := List.length_filter_le (fun k => k != i) (List.range t)
  simpa using this
theorem isSq_at {N : Nat} {cs : List (List Int)} (h : isSq N cs = true) : cs.length ≤ 40 ∧ ∀ k, k < cs.length → (cs.getD k []).length = cs.length ∧ ∀ i, i < cs.length → isL N ((cs.getD k []).getD i 0) = true := by
  unfold isSq at h
  rw [Bool.and_eq_true, decide_eq_true_eq, List.all_eq_true] at h
  refine ⟨h.1, fun k hk => ?_⟩
  have h1 := h.2 (cs.getD k []) (by simp [List.getD, hk])
  rw [Bool.and_eq_true, decide_eq_true_eq, List.all_eq_true] at h1
  exact ⟨h1.1, fun i hi => h1.2 _ (mem_getD (by omega))⟩
theorem col_lit {N : Nat} {cs : List (List Int)} (h : isSq N cs = true) {i t : Nat} (hi : i < cs.length) (ht : t ≤ cs.length) : allL N (col cs i t) := by
  intro l hl
  unfold col at hl
  obtain ⟨k, hk, rfl⟩ := List.mem_map.1 hl
  have := List.mem_range.1 (List.mem_filter.1 hk).1
  exact ((isSq_at h).2 k (by omega)).2 i hi

theorem places_ok (h : AM w b x) {hs : List Sl} {cs : List (List Int)} (hc : V2 (Value.int .i64) w q hs cs) (hm : m = cs.length) (sp : ∀ k, foot3 q hs k → ¬ x.fm b k) (hb : x.g.length + 144 * 1600 ≤ 1048576) :
    Calls Try.prog rank_Places.id #[ptr b, .slice q m d] w fun e w' => ∃ (P : Option Addr) (D : Nat) (outs : List (List Int)) (y : AG) (us : List Sl), e = .returned (.slice P outs.length D) ∧ Aft w w' b x y ∧ Ext x.g y.g (144 * 1600) ∧ V2 (Value.int .i64) w' P us outs ∧
      (isSq x.g.length cs = false → outs = [] ∧ y = x) ∧ (isSq x.g.length cs = true → outs.length = cs.length ∧ ∀ i, i < cs.length → (outs.getD i []).length ≤ 7 ∧ allL y.g.length (outs.getD i []) ∧ ∀ ins, numL y.g ins (outs.getD i []) = cntT x.g ins (col cs i cs.length)) := by
  refine rank_Places.calls ?_
  refine (rankIs_ok h.a h.len hc hm).mono ?_
  rintro e w1 ⟨rfl, g1⟩
  refine ⟨_, rfl, cnd_i (fun r => ?_) (fun r => ?_)⟩
  · have r : isSq x.g.length cs = false := by simpa using r
    rw [r]
    exact ⟨none, 0, [], x, [], rfl, .refl h g1, .refl _ _, V2.nil, fun _ => ⟨rfl, rfl⟩, fun e => by simp at e⟩
  have r : isSq x.g.length cs = true := by simpa using r
  have hsq := isSq_at r
  have hn40 := hsq.1
  refine ⟨fun P N D I u z => ∃ (t : Nat) (outs : List (List Int)) (us : List Sl) (y : AG), I = t ∧ t ≤ cs.length ∧ z = cs.length - t ∧ N = outs.length ∧ outs.length = t ∧ Aft w u b x y ∧ Ext x.g y.g (144 * cs.length * t) ∧ OV (Value.int .i64) ty_sl_int u P D us outs ∧ (∀ k, OV.foot P us k → w.heap.size ≤ k ∧ ¬ y.fm b k) ∧
      ∀ i, i < t → (outs.getD i []).length ≤ 7 ∧ allL y.g.length (outs.getD i []) ∧ ∀ ins, numL y.g ins (outs.getD i []) = cntT x.g ins (col cs i cs.length),
    ⟨_, 0, [], [], x, rfl, Nat.zero_le _, rfl, rfl, rfl, .refl h g1, .refl _ _, OV.nil, fun k hk => by rcases hk with e | ⟨s, hs, _⟩; simp [blk] at e; simp at hs, fun i hi => by omega⟩, ?_⟩
  rintro P N D I u z _ ⟨t, outs, us, y, rfl, ht, rfl, rfl, hol, A, E, O, fr, ok⟩
  refine cnd_i (fun r2 => ?_) (fun r2 => ?_)
  · have r2 : t < cs.length := by simp at r2; omega
    have Vu := V2.keep3 hc A.mod sp
    refine ⟨fun P N D I u' z => ∃ k : Nat, I = k ∧ k ≤ cs.length ∧ z = cs.length - k ∧ N = (col cs t k).length ∧ OwI ty_int u' P D (col cs t k) ∧ (∀ j, blk P = some j → u.heap.size ≤ j) ∧ Grow u u', ⟨_, 0, rfl, Nat.zero_le _, rfl, rfl, Ow.nil _ _ _, fun j hj => by simp [blk] at hj, Mod.refl u⟩, ?_⟩
    rintro P' N' D' I' w14 z' _ ⟨k, rfl, hk, rfl, rfl, o, f, G⟩
    refine cnd_i (fun r3 => ?_) (fun r3 => ?_)
    · have r3 : k < cs.length := by simp at r3; omega
      refine cnd_i (fun r4 => ?_) (fun r4 => ⟨_, ?_, k + 1, wN (by omega) (by omega), by omega, rfl, ?_, ?_, f, G⟩)
      · have r4 : k ≠ t := by
          intro e
          subst e
          simp at r4
        have hrow := hsq.2 k r3
        refine rIx (Vu.grow' G) hm r3 fun a sl e _ hsn hsm hv => ⟨_, _, _, e, hv.ix 0 (by omega) hsn (by omega) fun a e => ⟨_, e, fun n19 w20 h20 => ?_⟩⟩
        rw [Int.toNat_natCast] at *
        have ec : col cs t (k + 1) = col cs t k ++ [(cs.getD k []).getD t 0] := by rw [col_succ, if_pos r4]
        have hcl := col_len cs t k
        have G20 := G.trans h20.mod
        have z20 := G20.size
        refine (o.grow h20.mod).app1 sl_int _ h20.has rfl rfl oneInt (by omega) fun w21 p' c' o' m' hp' hs' => ?_
        refine ⟨_, ?_, k + 1, wN (by omega) (by omega), by omega, rfl, by rw [ec, List.length_append]; rfl, by rw [ec]; exact o', fun j hj => ?_, G20.then m' fun j hj e => by have := f j e; omega⟩
        · omega
        · rcases hp' with rfl | rfl
          · exact f j hj
          · have := blk_some hj; omega
      · omega
      · have r4 : k = t := by
          have : (k : Int) = t := by simpa using r4
          omega
        rw [col_succ, if_neg (fun h => h r4), List.append_nil]
      · have r4 : k = t := by
          have : (k : Int) = t := by simpa using r4
          omega
        rw [col_succ, if_neg (fun h => h r4), List.append_nil]; exact o
    · have r3 : k = cs.length := by simp at r3; omega
      subst r3
      have A14 := A.grow G
      have hyl := E.len
      have hcl := col_len cs t cs.length
      have b1 : 144 * cs.length * t ≤ 144 * cs.length * 40 := Nat.mul_le_mul_left _ (by omega)
      have b2 : 144 * cs.length * (t + 1) = 144 * cs.length * t + 144 * cs.length := by rw [Nat.mul_add, Nat.mul_one]
      have b3 : 144 * cs.length * (t + 1) ≤ 144 * cs.length * 40 := Nat.mul_le_mul_left _ (by omega)
      have sp14 : Sp w14 b y P' := fun j hj => ⟨fun e => by have := A.am.lt j e; have := f j hj; omega, o.lt j hj⟩
      refine (cardCount_ok A14.am o.vw sp14 rfl (ow_capR o) (by omega) (by omega) ((col_lit r r2 (Nat.le_refl _)).mono hyl.1)).mono ?_
      rintro e w23 ⟨P2, D2, out, y2, rfl, W, lo, num⟩
      have hen := enuf_pos (col cs t cs.length).length
      have hen7 := enuf_le (n := (col cs t cs.length).length) (by omega)
      have hne : P2.isNone = false := by
        rcases W.o.un with ⟨_, _, e⟩ | ⟨g, cur, e, _⟩
        · rw [e] at lo; simp at lo; omega
        · rw [e]; rfl
      refine ⟨_, _, _, rfl, cnd_f hne fun n25 w26 h26 => ?_⟩
      have z14 := G.size
      have A23 := A14.trans W.aft
      have A26 := A23.grow h26.mod
      have O14 := O.grow G
      have O23 := O14.keep W.aft.mod fun k hk => (fr k hk).2
      have O26 := O23.grow h26.mod
      have fr2 : ∀ k, OV.foot P us k → w.heap.size ≤ k ∧ ¬ y2.fm b k := fun k hk => ⟨(fr k hk).1, fun e => by
        rcases W.aft.foot k e with e | e
        · exact (fr k hk).2 e
        · have := O14.lt k hk; omega⟩
      have ow26 := W.o.grow h26.mod
      have hv : Vw Sl.v w26 (some ⟨n25, 0, none⟩) [⟨P2, out.length, D2⟩] := by
        intro j hj
        have : j = 0 := by simpa using hj
        subst this
        exact ⟨_, rfl, cell_add h26.has rfl⟩
      have rf : ∀ k, rfoot [(⟨P2, out.length, D2⟩ : Sl)] k → blk P2 = some k := fun k ⟨s, hm, _, hk⟩ => by
        simp at hm; subst hm; exact hk
      have e25 := h26.num
      have olt := O14.lt
      have z23 := W.aft.mod.size
      refine O26.app sl_sl_int hv (VR.one ow26.vw rfl (show out.length ≤ maxLen by unfold maxLen; omega)) O.v.n.symm rfl (fun k hk e => ?_) (by have := O.v.n; simp; omega) fun w27 p' c' o' mm hp hsz => ?_
      · have := (W.fr k (rf k hk)).1
        have := olt k (.inl e)
        omega
      have s26 := h26.size
      refine ⟨_, ?_, t + 1, outs ++ [out], _, y2, wN (by omega) (by omega), by omega, rfl, ?_, by simp [hol], A26.fresh mm fun k hk => fr2 k (.inl hk), (E.trans W.e).mono ?_, o', fun k hk => ?_, fun i hi => ?_⟩
      · omega
      · have := O.v.n; simp; omega
      · omega
      · rcases hk with e | e
        · rcases hp with h2 | h2 <;> rw [h2] at e
          · exact fr2 k (.inl e)
          · have := blk_some e
            exact ⟨by have := A26.mod.size; omega, fun e2 => by have := A26.am.lt k e2; omega⟩
        · rcases rfoot_app.1 e with e | e
          · exact fr2 k (.inr e)
          · have := W.fr k (rf k e)
            exact ⟨by have := A14.mod.size; omega, this.2⟩
      · by_cases e : i = t
        · subst e
          have : (outs ++ [out]).getD i [] = out := by simp [List.getD, ← hol]
          rw [this]
          refine ⟨by omega, W.all, fun ins => ?_⟩
          rw [num ins]
          exact cntT_ext E (col_lit r r2 (Nat.le_refl _))
        · have hi' : i < t := by omega
          have : (outs ++ [out]).getD i [] = outs.getD i [] := by
            simp only [List.getD_eq_getElem?_getD]
            rw [List.getElem?_append_left (by omega)]
          rw [this]
          obtain ⟨o1, o2, o3⟩ := ok i hi'
          exact ⟨o1, o2.mono W.e.len.1, fun ins => by rw [numL_ext W.e o2, o3 ins]⟩
  · have r2 : t = cs.length := by simp at r2; omega
    subst r2
    have b3 : 144 * cs.length * cs.length ≤ 144 * 40 * 40 := Nat.mul_le_mul (by omega) hn40
    exact ⟨P, D, outs, y, us, rfl, A, E.mono (by omega), O.v2, fun e => by rw [r] at e; simp at e, fun _ => ⟨hol, ok⟩⟩
end Go.Proofs.Ytambabpklfeaoaa.W
