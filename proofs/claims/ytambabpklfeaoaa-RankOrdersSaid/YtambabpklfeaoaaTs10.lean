/- Layers 15 and 18: what is asked, by the document. -/
import Derived.Test.YtambabpklfeaoaaTs0
import Derived.Test.YtambabpklfeaoaaPureA
namespace Go.Proofs.Ytambabpklfeaoaa.W
open Go Go.Fw Go.RowKit Go.TsP

theorem refTrue_ok {p q : Option Addr} {g : List (Int × Int)} {n c k d : Nat} {ins : List Bool} (hn : n = g.length) (hg : n ≤ 4194304) (hk : k = ins.length) (hx : k ≤ maxLen) (hm : mayG g = true) :
    ∀ (f : Nat) (w : World) (l : Int), l ≤ f → l ≤ 2 * g.length + 1 → -1073741824 ≤ l → Vr 2 gateV w p g → Vw Value.bool w q ins →
      Calls Try.prog fathomref15_True.id #[.slice p n c, .slice q k d, .int .i64 l] w fun e w' => e = .returned (.bool (truth g ins l)) ∧ Grow w w' := by
  intro f
  induction f with
  | zero =>
    intro w l hf hl h0 h hi
    refine fathomref15_True.calls ?_
    refine cnd_t (decide_eq_true (by omega)) ⟨?_, Mod.refl w⟩
    rw [truth_lt (by omega)]
  | succ f ih =>
    intro w l hf hl h0 h hi
    subst hn hk
    unfold maxLen at hx
    refine fathomref15_True.calls ?_
    refine cnd_i (fun s => ⟨?_, Mod.refl w⟩) (fun s => ?_) <;> simp only [decide_eq_true_eq, decide_eq_false_iff_not] at s
    · rw [truth_lt s]
    have d1 : l.tdiv 2 = l / 2 := Int.tdiv_eq_ediv_of_nonneg (by omega)
    have d2 : l.tmod 2 = l % 2 := Int.tmod_eq_emod_of_nonneg (by omega)
    have w1 : IntKind.i64.wrap (l.tdiv 2) = l / 2 := by rw [d1]; exact wrap64_of (by omega) (by omega)
    have w2 : IntKind.i64.wrap (l / 2 - 1) = l / 2 - 1 := wrap64_of (by omega) (by omega)
    rw [w1, w2, d2]
    obtain ⟨i, hi1, hi2⟩ : ∃ i : Nat, l / 2 - 1 = i ∧ i < g.length := ⟨(l / 2 - 1).toNat, by omega, by omega⟩
    have tn := truth_node (ins := ins) hm hi2 (l := l) (by omega) (by omega)
    rw [hi1]
    have hok := mayG_at hm hi2
    refine ⟨by decide, gIx h rfl hi2 fun a x0 x1 => ⟨_, _, ⟨x0, x1, trivial⟩, ?_⟩⟩
    generalize hgx : g.getD i (0, 0) = x at *
    obtain ⟨A, B⟩ := x
    intro n4 w5 h5
    refine store_i h5.has rfl rfl fun w6 h6 m6 => ?_
    have g6 : Grow w w6 := h5.mod.fresh m6 (by have := h5.num; omega)
    have h6 : Has w6 n4 #[.int .i64 A, .int .i64 B] := h6
    refine ⟨_, cell_add h6 rfl, cnd_i (fun s2 => ?_) (fun s2 => ?_)⟩ <;> simp only [decide_eq_true_eq, decide_eq_false_iff_not, ge_iff_le] at s2
    · simp only at tn
      rw [if_pos s2] at tn
      have hb := okG_and hok s2
      simp only at hb
      refine ⟨_, cell_add h6 rfl, (ih w6 A (by omega) (by omega) (by omega) (h.grow g6) (hi.grow g6)).mono ?_⟩
      rintro e w9 ⟨rfl, g9⟩
      have G9 := g6.trans g9
      refine ⟨_, rfl, cnd_i (fun s3 => ?_) (fun s3 => ⟨by decide, ?_, G9⟩)⟩
      · refine ⟨_, cell_add (h6.grow g9) rfl, (ih w9 B (by omega) (by omega) (by omega) (h.grow G9) (hi.grow G9)).mono ?_⟩
        rintro e w12 ⟨rfl, g12⟩
        refine ⟨_, rfl, by decide, ?_, G9.trans g12⟩
        rw [tn, s3, Bool.true_and]
      · rw [tn, s3, Bool.false_and]
    · simp only at tn
      rw [if_neg s2] at tn
      refine ⟨fun kk v w' z => ∃ t : Nat, v = t ∧ kk = cntIn g t ∧ t ≤ i ∧ w' = w6 ∧ z + t = i, ⟨i, 0, rfl, rfl, Nat.zero_le _, rfl, rfl⟩, ?_⟩
      rintro kk v w19 z _ ⟨t, rfl, rfl, ht, rfl, hz⟩
      have hg6 := h.grow g6
      have hcl := cntIn_le g t
      have ev : IntKind.i64.wrap ((t : Int) + 1) = ((t + 1 : Nat) : Int) := by rw [wrap64_of (by omega) (by omega)]; omega
      rw [ev]
      refine ⟨by decide, cnd_i (fun s3 => ?_) (fun s3 => ?_)⟩ <;> simp only [decide_eq_true_eq, decide_eq_false_iff_not] at s3
      · have ht' : t < i := by omega
        refine gIx hg6 rfl (by omega) fun a y0 _ => ⟨_, y0, cnd_i (fun s4 => ⟨z - 1, by omega, t + 1, rfl, ?_, ht', rfl, by omega⟩) (fun s4 => ⟨z - 1, by omega, t + 1, rfl, ?_, ht', rfl, by omega⟩)⟩ <;> simp only [decide_eq_true_eq, decide_eq_false_iff_not] at s4
        · rw [cntIn_succ, if_pos s4, wrap64_of (by omega) (by omega)]; omega
        · rw [cntIn_succ, if_neg s4]; rfl
      · have et : t = i := by omega
        subst et
        refine cnd_i (fun s4 => ?_) (fun s4 => ⟨by decide, ?_, g6⟩) <;> simp only [decide_eq_true_eq, decide_eq_false_iff_not] at s4
        · refine (hi.grow g6).ix false (by omega) rfl s4 fun a e => ⟨_, e, by decide, ?_, g6⟩
          rw [Int.toNat_natCast, tn]
        · rw [tn]
          have : ins.getD (cntIn g t) false = false := by simp [List.getD, show ins.length ≤ cntIn g t by omega]
          rw [this]

theorem cIx2 {w : World} {q : Option Addr} {hs : List Sl} {cs : List (List Int)} (hc : V2 (Value.int .i64) w q hs cs) {m t : Nat} (hm : m = cs.length) (ht : t < cs.length) {K : Addr → Prop} (hk : ∀ a (s : Sl), w.cell? a = some (.slice s.p s.n s.c) → s = hs.getD t Sl.nil → s.n = (cs.getD t []).length → s.n ≤ maxLen → Vw (Value.int .i64) w s.p (cs.getD t []) → K a) : ixK q m (t : Int) 1 K :=
  hc.ix (by omega) hm (by omega) fun a s e hs h1 h2 h3 => hk a s e (by rw [Int.toNat_natCast] at hs; exact hs) (by rw [Int.toNat_natCast] at h1; exact h1) h2 (by rw [Int.toNat_natCast] at h3; exact h3)
theorem any_take_succ2 {α : Type} {l : List α} {q : α → Bool} {t : Nat} {d : α} (ht : t < l.length) : (l.take (t + 1)).any q = ((l.take t).any q || q (l.getD t d)) := by
  rw [List.take_add_one, List.any_append]
  have : l[t]? = some (l.getD t d) := by simp [List.getD, ht]
  simp only [this, Option.toList_some, List.any_cons, List.any_nil, Bool.or_false]

theorem refAsked_ok {w : World} {p q r : Option Addr} {g : List (Int × Int)} {n c m d k b : Nat} {hs : List Sl} {cs : List (List Int)} {ins : List Bool} (hn : n = g.length) (hg : n ≤ 4194304) (hm : m = cs.length) (hx : m ≤ maxLen) (hk : k = ins.length) (hkx : k ≤ maxLen) (hmay : mayG g = true) (hl : ∀ t, t < cs.length → ∀ l ∈ cs.getD t [], -1073741824 ≤ l ∧ l ≤ 2 * g.length + 1)
    (h : Vr 2 gateV w p g) (hc : V2 (Value.int .i64) w q hs cs) (hi : Vw Value.bool w r ins) :
    Calls Try.prog fathomref18_Asked.id #[.slice p n c, .slice q m d, .slice r k b] w fun e w' => e = .returned (.bool (askedP g cs ins)) ∧ Grow w w' := by
  subst hm
  unfold maxLen at hx
  refine fathomref18_Asked.calls ?_
  refine ⟨fun v w' z => ∃ t : Nat, v = t ∧ t ≤ cs.length ∧ ((cs.take t).all fun c => c.any (truth g ins)) = true ∧ Grow w w' ∧ z + t = cs.length, ⟨_, 0, rfl, Nat.zero_le _, rfl, Mod.refl _, rfl⟩, ?_⟩
  rintro v w5 z _ ⟨t, rfl, ht, ha, G, hz⟩
  refine cnd_i (fun s => ?_) (fun s => ?_) <;> simp only [decide_eq_true_eq, decide_eq_false_iff_not] at s
  · have ht' : t < cs.length := by omega
    refine ⟨fun o v w' z => ∃ t2 : Nat, v = t2 ∧ t2 ≤ (cs.getD t []).length ∧ o = ((cs.getD t []).take t2).any (truth g ins) ∧ Grow w w' ∧ z + t2 = (cs.getD t []).length, ⟨_, 0, rfl, Nat.zero_le _, rfl, G, rfl⟩, ?_⟩
    rintro o v w11 z2 _ ⟨t2, rfl, ht2, rfl, G2, hz2⟩
    refine cIx2 (hc.grow G2) rfl ht' fun a sl e _ hsn hsm hv => ⟨_, _, _, e, cnd_i (fun s2 => ?_) (fun s2 => ?_)⟩ <;> simp only [decide_eq_true_eq, decide_eq_false_iff_not] at s2
    · have ht2' : t2 < (cs.getD t []).length := by omega
      unfold maxLen at hsm
      have ev : IntKind.i64.wrap ((t2 : Int) + 1) = ((t2 + 1 : Nat) : Int) := by rw [wrap64_of (by omega) (by omega)]; omega
      have nx := any_take_succ2 (q := truth g ins) (d := 0) ht2'
      rw [ev]
      refine cnd_i (fun s3 => ⟨z2 - 1, by omega, t2 + 1, rfl, ht2', ?_, G2, by omega⟩) (fun s3 => ?_)
      · rw [nx, s3]; rfl
      · refine cIx2 (hc.grow G2) rfl ht' fun a sl e _ hsn hsm hv => ⟨_, _, _, e, hv.ix 0 (by omega) hsn (by omega) fun a e => ⟨_, e, ?_⟩⟩
        rw [Int.toNat_natCast]
        have hb := hl t ht' _ (getD_mem ht2' 0)
        refine (refTrue_ok hn hg hk hkx hmay (((cs.getD t []).getD t2 0).toNat) w11 _ (by omega) hb.2 hb.1 (h.grow G2) (hi.grow G2)).mono ?_
        rintro e w18 ⟨rfl, g18⟩
        refine ⟨_, rfl, z2 - 1, by omega, t2 + 1, rfl, ht2', ?_, G2.trans g18, by omega⟩
        rw [nx, s3, Bool.false_or]
    · have et : t2 = (cs.getD t []).length := by omega
      subst et
      rw [List.take_length]
      refine cnd_i (fun s3 => ⟨?_, G2⟩) (fun s3 => ⟨z - 1, by omega, t + 1, by rw [wrap64_of (by omega) (by omega)]; omega, ht', all_take_succ (d := []) ht' ha (by simpa using s3), G2, by omega⟩)
      have : askedP g cs ins = false := all_false (d := []) ht' (by simpa using s3)
      rw [this]
  · have : t = cs.length := by omega
    subst this
    rw [List.take_length] at ha
    refine ⟨?_, G⟩
    unfold askedP
    rw [ha]
end Go.Proofs.Ytambabpklfeaoaa.W
