/- Layer 18: on which nodes clauses hang. -/
import Derived.Test.YtambabpklfeaoaaTs2
namespace Go.Proofs.Ytambabpklfeaoaa.W
open Go Go.Fw Go.RowKit Go.TsP

theorem mayT_g {g : List (Int × Int)} {cs : List (List Int)} (h : mayT g cs = true) : mayG g = true := by
  simp only [mayT, Bool.and_eq_true] at h; exact h.1
theorem mayT_l {g : List (Int × Int)} {cs : List (List Int)} (h : mayT g cs = true) {i : Nat} (hi : i < cs.length) {j : Nat} (hj : j < (cs.getD i []).length) : 0 ≤ (cs.getD i []).getD j 0 ∧ (cs.getD i []).getD j 0 ≤ 2 * g.length + 1 := by
  simp only [mayT, Bool.and_eq_true, List.all_eq_true] at h
  have h1 := h.2 (cs.getD i []) (by simp [List.getD, hi])
  simp only [mayC, Bool.and_eq_true, List.all_eq_true] at h1
  have := h1.1 ((cs.getD i []).getD j 0) (getD_mem hj 0)
  simpa [isL] using this

/-- A row of clauses is looked at. -/
theorem cIx {w : World} {q : Option Addr} {hs : List Sl} {cs : List (List Int)} (hc : V2 (Value.int .i64) w q hs cs) {m t : Nat} (hm : m = cs.length) (ht : t < cs.length) {K : Addr → Prop} (hk : ∀ a (s : Sl), w.cell? a = some (.slice s.p s.n s.c) → s = hs.getD t Sl.nil → s.n = (cs.getD t []).length → s.n ≤ maxLen → Vw (Value.int .i64) w s.p (cs.getD t []) → K a) : ixK q m (t : Int) 1 K :=
  hc.ix (by omega) hm (by omega) fun a s e hs h1 h2 h3 => hk a s e (by rw [Int.toNat_natCast] at hs; exact hs) (by rw [Int.toNat_natCast] at h1; exact h1) h2 (by rw [Int.toNat_natCast] at h3; exact h3)

theorem hangs_ok {p q : Option Addr} {g : List (Int × Int)} {n c m d : Nat} {hs : List Sl} {cs : List (List Int)} (hn : n = g.length) (hg : n ≤ 4194304) (hm : m = cs.length) (hx : m ≤ 4194304) (hmay : mayT g cs = true) :
    ∀ (fuel : Nat) (w : World) (k : Nat), g.length ≤ fuel + k → k ≤ g.length → Vr 2 gateV w p g → V2 (Value.int .i64) w q hs cs →
      Calls Try.prog fathomref18_Hangs.id #[.slice p n c, .slice q m d, .int .i64 (k : Int)] w fun e w' => (∃ r, e = .returned (.bool r) ∧ (r = true ↔ H g cs k)) ∧ Grow w w' := by
  intro fuel
  induction fuel with
  | zero => ?_
  | succ fuel ih => ?_
  all_goals (
    intro w k hf hkn h hc
    refine fathomref18_Hangs.calls ?_
    subst hn hm
    refine ⟨fun v w' z => ∃ t : Nat, v = t ∧ t ≤ cs.length ∧ (∀ i, i < t → ∀ l ∈ cs.getD i [], l.tdiv 2 ≠ (k : Int)) ∧ Grow w w' ∧ z + t = cs.length, ⟨_, 0, rfl, Nat.zero_le _, fun i hi => by omega, Mod.refl _, rfl⟩, ?_⟩
    rintro v w5 z _ ⟨t, rfl, ht, ha, g5, hz⟩
    refine cnd_i (fun s => ?_) (fun s => ?_) <;> simp only [decide_eq_true_eq, decide_eq_false_iff_not] at s
    · have ht' : t < cs.length := by omega
      refine ⟨fun v w' z => ∃ t2 : Nat, v = t2 ∧ t2 ≤ (cs.getD t []).length ∧ (∀ j, j < t2 → ((cs.getD t []).getD j 0).tdiv 2 ≠ (k : Int)) ∧ Grow w w' ∧ z + t2 = (cs.getD t []).length, ⟨_, 0, rfl, Nat.zero_le _, fun i hi => by omega, g5, rfl⟩, ?_⟩
      rintro v w10 z2 _ ⟨t2, rfl, ht2, ha2, g10, hz2⟩
      refine cIx (hc.grow g10) rfl ht' fun a s e _ hsn hsm hv => ⟨_, _, _, e, cnd_i (fun s2 => ?_) (fun s2 => ?_)⟩ <;> simp only [decide_eq_true_eq, decide_eq_false_iff_not] at s2
      · have ht2' : t2 < (cs.getD t []).length := by omega
        have hl := mayT_l hmay ht' ht2'
        unfold maxLen at hsm
        refine cIx (hc.grow g10) rfl ht' fun a s e _ hsn hsm hv => ⟨_, _, _, e, hv.ix 0 (by omega) hsn (by omega) fun a e => ⟨_, e, by decide, ?_⟩⟩
        rw [Int.toNat_natCast]
        have e1 : IntKind.i64.wrap (((cs.getD t []).getD t2 0).tdiv 2) = ((cs.getD t []).getD t2 0).tdiv 2 := by
          rw [Int.tdiv_eq_ediv_of_nonneg hl.1]; exact wrap64_of (by omega) (by omega)
        rw [e1]
        refine cnd_i (fun s3 => ⟨⟨_, rfl, ?_⟩, g10⟩) (fun s3 => ⟨z2 - 1, by omega, t2 + 1, by rw [wrap64_of (by omega) (by omega)]; omega, ht2', fun j hj => ?_, g10, by omega⟩)
        · simp only [true_iff]
          exact .hit ⟨_, by simp [List.getD, ht'], _, getD_mem ht2' 0, by simpa using s3⟩
        · rcases Nat.lt_or_ge j t2 with c | c
          · exact ha2 j c
          · have : j = t2 := by omega
            subst this
            simpa using s3
      · have et : t2 = (cs.getD t []).length := by omega
        subst et
        refine ⟨z - 1, by omega, t + 1, by rw [wrap64_of (by omega) (by omega)]; omega, ht', fun i hi l hl => ?_, g10, by omega⟩
        rcases Nat.lt_or_ge i t with c | c
        · exact ha i c l hl
        · have : i = t := by omega
          subst this
          obtain ⟨j, hj⟩ := List.getElem?_of_mem hl
          have hjl := (List.getElem?_eq_some_iff.1 hj).1
          have := ha2 j hjl
          rwa [show (cs.getD i []).getD j 0 = l by simp only [List.getD_eq_getElem?_getD] at hj ⊢; rw [hj]; rfl] at this
    · have et : t = cs.length := by omega
      subst et
      have nohit : ¬ hit cs k := by
        rintro ⟨c, hc, l, hl, e⟩
        obtain ⟨i, hi⟩ := List.getElem?_of_mem hc
        have hil := (List.getElem?_eq_some_iff.1 hi).1
        exact ha i hil l (by rw [List.getD_eq_getElem?_getD, hi]; exact hl) e
      have hgm := mayT_g hmay
      refine ⟨fun v w' z => ∃ t : Nat, v = t ∧ k ≤ t ∧ t ≤ g.length ∧ (∀ i, k ≤ i → i < t → ¬ (kid g i k ∧ H g cs (i + 1))) ∧ Grow w w' ∧ z + t = g.length, ⟨g.length - k, k, rfl, Nat.le_refl _, hkn, fun i h1 h2 => by omega, g5, by omega⟩, ?_⟩
      rintro v w21 z _ ⟨t, rfl, hkt, ht, ha, g21, hz⟩
      refine cnd_i (fun s => ?_) (fun s => ⟨⟨_, rfl, ?_⟩, g21⟩) <;> simp only [decide_eq_true_eq, decide_eq_false_iff_not] at s
      · have ht' : t < g.length := by omega
        have hG := h.grow g21
        have hok := mayG_at hgm ht'
        have next : ∀ w', Grow w w' → ¬ (kid g t k ∧ H g cs (t + 1)) → ∃ z' : Nat, z' < z ∧ ∃ t' : Nat, IntKind.i64.wrap ((t : Int) + 1) = t' ∧ k ≤ t' ∧ t' ≤ g.length ∧ (∀ i, k ≤ i → i < t' → ¬ (kid g i k ∧ H g cs (i + 1))) ∧ Grow w w' ∧ z' + t' = g.length := fun w' gg hn =>
          ⟨z - 1, by omega, t + 1, by rw [wrap64_of (by omega) (by omega)]; omega, by omega, ht', fun i h1 h2 => by
            rcases Nat.lt_or_ge i t with c | c
            · exact ha i h1 c
            · have : i = t := by omega
              subst this; exact hn, gg, by omega⟩
        have e1 : IntKind.i64.wrap ((t : Int) + 1) = ((t + 1 : Nat) : Int) := by rw [wrap64_of (by omega) (by omega)]; omega
        refine gIx hG rfl ht' fun a x0 _ => ⟨_, x0, cnd_i (fun s1 => ?_) (fun s1 => ?_)⟩ <;> simp only [decide_eq_true_eq, decide_eq_false_iff_not, ge_iff_le] at s1
        · have hb := okG_and hok s1
          have w1 : IntKind.i64.wrap ((g.getD t (0, 0)).1.tdiv 2) = (g.getD t (0, 0)).1.tdiv 2 := by
            rw [Int.tdiv_eq_ediv_of_nonneg s1]; exact wrap64_of (by omega) (by omega)
          have w2 : IntKind.i64.wrap ((g.getD t (0, 0)).2.tdiv 2) = (g.getD t (0, 0)).2.tdiv 2 := by
            rw [Int.tdiv_eq_ediv_of_nonneg hb.1]; exact wrap64_of (by omega) (by omega)
          have rec_ : kid g t k → Calls Try.prog fathomref18_Hangs.id #[.slice p g.length c, .slice q cs.length d, .int .i64 (IntKind.i64.wrap ((t : Int) + 1))] w21 fun e w26 => ∃ r27 : Bool, e = .returned (.bool r27) ∧ 
              cnd r27 ((∃ r, Ending.returned (.bool true) = .returned (.bool r) ∧ (r = true ↔ H g cs k)) ∧ Grow w w26)
              (∃ z' : Nat, z' < z ∧ ∃ t' : Nat, IntKind.i64.wrap ((t : Int) + 1) = t' ∧ k ≤ t' ∧ t' ≤ g.length ∧ (∀ i, k ≤ i → i < t' → ¬ (kid g i k ∧ H g cs (i + 1))) ∧ Grow w w26 ∧ z' + t' = g.length) := by
            intro hkid
            first
            | (exfalso; omega)
            | (have rr := ih w21 (t + 1) (by omega) ht' hG (hc.grow g21)
               rw [e1]
               refine rr.mono ?_
               rintro e w26 ⟨⟨r, rfl, hr⟩, g26⟩
               refine ⟨_, rfl, cnd_i (fun s4 => ⟨⟨_, rfl, ?_⟩, g21.trans g26⟩) (fun s4 => ?_)⟩
               · simp only [true_iff]
                 exact .kid hkt ht' hkid (hr.1 s4)
               · have := next w26 (g21.trans g26) (fun hh => by rw [hr.2 hh.2] at s4; cases s4)
                 rw [e1] at this
                 exact this)
          refine gIx hG rfl ht' fun a y0 _ => ⟨_, y0, by decide, ?_⟩
          rw [w1]
          refine cnd_i (fun s2 => rec_ ⟨s1, .inl (by simpa using s2)⟩) (fun s2 => ?_)
          refine gIx hG rfl ht' fun a _ y1 => ⟨_, y1, by decide, ?_⟩
          rw [w2]
          refine cnd_i (fun s3 => rec_ ⟨s1, .inr (by simpa using s3)⟩) (fun s3 => next _ g21 ?_)
          rintro ⟨⟨_, hh | hh⟩, _⟩
          · rw [hh] at s2; simp at s2
          · rw [hh] at s3; simp at s3
        · exact next _ g21 fun hh => s1 hh.1.1
      · have et : t = g.length := by omega
        subst et
        constructor
        · intro hh; cases hh
        · intro hh
          rcases H.cases'.1 hh with hh | ⟨i, i1, i2, i3, i4⟩
          · exact absurd hh nohit
          · exact absurd ⟨i3, i4⟩ (ha i i1 i2))
end Go.Proofs.Ytambabpklfeaoaa.W
