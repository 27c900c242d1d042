/- Layer 12: trails in memory, and which there may be. -/
import Derived.Test.YtlpmapeojecenaaLit4
import Derived.Test.YtlpmapeojecenaaFwMaps
import Derived.Test.YtlpmapeojecenaaPureA
namespace Go.Proofs.Ytlpmapeojecenaa.W
open Go Go.Fw Go.RowKit Go.SoP Go.LiP Go.LeP
variable {w : World} {p q : Option Addr} {n c m d : Nat} {tr : List As} {l : List Int}

/-- A trail that is looked at. -/
def TV (w : World) (p : Option Addr) (tr : List As) : Prop := ∀ i, i < tr.length → ∃ (a : Addr) (s : Sl), p = some a ∧ CellsAt w (a.add (i * 3)) 0 [.int .i64 (nth tr i).lit, .int .i64 (nth tr i).lev, .slice s.p s.n s.c] ∧
  s.n = (nth tr i).rs.length ∧ s.n ≤ maxLen ∧ Vw (Value.int .i64) w s.p (nth tr i).rs
theorem TV.grow {w' : World} (h : TV w p tr) (g : Grow w w') : TV w' p tr := by
  intro i hi
  obtain ⟨a, s, rfl, hc, h1, h2, h3⟩ := h i hi
  exact ⟨a, s, rfl, CellsAt.keep g id hc, h1, h2, h3.grow g⟩
theorem TV.drew (h : TV w p tr) : TV w.drew p tr := h.grow (Mod.refl w).drew
theorem TV.take (h : TV w p tr) {t : Nat} (ht : t ≤ tr.length) : TV w p (tr.take t) := by
  intro i hi
  rw [len_take ht] at hi
  rw [nth_take hi]
  exact h i (by omega)
theorem TV.ix (h : TV w p tr) (hn : n = tr.length) {X : Int} (i : Nat) (e : X = i) (hi : i < tr.length) {K : Addr → Prop}
    (hk : ∀ a (s : Sl), CellsAt w a 0 [.int .i64 (nth tr i).lit, .int .i64 (nth tr i).lev, .slice s.p s.n s.c] → s.n = (nth tr i).rs.length → s.n ≤ maxLen → Vw (Value.int .i64) w s.p (nth tr i).rs → K a) : ixK p n X 3 K := by
  subst e hn
  obtain ⟨a, s, rfl, hc, h1, h2, h3⟩ := h i hi
  exact ⟨a, rfl, by omega, by omega, hk _ s (by rw [Int.toNat_natCast]; exact hc) h1 h2 h3⟩
theorem isL_litB (l : Int) : isL l = litB l := rfl
theorem brk_nil : brk tr [] = true := rfl

theorem amount12_ok {l : Int} (h : -9223372036854775808 < l) (h2 : l < 9223372036854775808) (w : World) : Calls Try.prog learn_amount.id #[.int .i64 l] w fun e w' => e = .returned (.int .i64 (am l)) ∧ Grow w w' := by
  refine learn_amount.calls ?_
  unfold learn_amount.w
  rw [wrap64_of (x := 0 - l) (by omega) (by omega)]
  refine ⟨?_, Mod.refl w⟩
  unfold imax am
  congr 2
  split <;> split <;> omega

theorem light12_ok (h : TV w p tr) (hn : n = tr.length) : Calls Try.prog fathomlaw12_light.id #[.slice p n c, .slice q m d] w fun e w' => ∃ b : Bool, e = .returned (.bool b) ∧ Grow w w' ∧ (b = true → n ≤ 20 ∧ m ≤ 100 ∧ ∀ i, i < tr.length → (nth tr i).rs.length ≤ 300) := by
  refine fathomlaw12_light.calls ?_
  refine ⟨fun I w' k => ∃ t : Nat, I = t ∧ t ≤ 21 ∧ k = 21 - t ∧ (∀ i, i < t → i < tr.length → (nth tr i).rs.length ≤ 300) ∧ Grow w w', ⟨_, 0, rfl, Nat.zero_le _, rfl, fun i hi => by omega, Mod.refl w⟩, ?_⟩
  rintro I w2 k2 _ ⟨t, rfl, ht, rfl, ha, g2⟩
  refine cnd_i (fun s => cnd_i (fun s2 => ?_) (fun s2 => cnd_i (fun s3 => ?_) (fun _ => ⟨false, rfl, g2, by simp⟩))) (fun s => cnd_i (fun s3 => ⟨_, rfl, g2, fun hb => ?_⟩) (fun _ => ⟨false, rfl, g2, by simp⟩))
  · have s : t < tr.length := by simp at s; omega
    have s2 : t ≤ 20 := by simp at s2; omega
    refine (h.grow g2).ix hn t rfl s fun a x C e1 e2 v => ⟨_, _, _, C.2.2.1, cnd_i (fun _ => ⟨false, rfl, g2, by simp⟩) (fun r => ⟨_, ?_, t + 1, wN (by omega) (by omega), by omega, rfl, fun i hi hl => ?_, g2⟩)⟩
    · omega
    · by_cases e : i = t
      · subst e; simp at r; omega
      · exact ha i (by omega) hl
  · exfalso
    simp at s s2 s3; omega
  · simp at s s3 hb
    exact ⟨by omega, by omega, fun i hi => ha i (by omega) hi⟩

theorem At_ok (h : TV w p tr) (hn : n = tr.length) (hm : n ≤ maxLen) (hl : ∀ i, i < tr.length → isL (nth tr i).lit = true) (v : Int) : Calls Try.prog fathomref12_At.id #[.slice p n c, .int .i64 v] w fun e w' => e = .returned (.int .i64 (if atN tr v < tr.length then (atN tr v : Int) else -1)) ∧ Grow w w' := by
  refine fathomref12_At.calls ?_
  unfold maxLen at hm
  refine ⟨fun I w' k => ∃ t : Nat, I = t ∧ t ≤ tr.length ∧ k = tr.length - t ∧ (∀ j, j < t → am (nth tr j).lit ≠ v) ∧ Grow w w', ⟨_, 0, rfl, Nat.zero_le _, rfl, fun j hj => by omega, Mod.refl w⟩, ?_⟩
  rintro I w2 k2 _ ⟨t, rfl, ht, rfl, ha, g2⟩
  refine cnd_i (fun s => ?_) (fun s => ⟨?_, g2⟩)
  · have s : t < tr.length := by simp at s; omega
    have hb := litB_bd (hl t s)
    refine (h.grow g2).ix hn t rfl s fun a x C e1 e2 v' => ⟨_, C.1, (refVar_ok (by omega) _ (by omega)).mono ?_⟩
    rintro e w3 ⟨rfl, g3⟩
    rw [amt_am]
    refine ⟨_, rfl, cnd_i (fun r => ⟨?_, g2.trans g3⟩) (fun r => ⟨_, ?_, t + 1, wN (by omega) (by omega), by omega, rfl, fun j hj => ?_, g2.trans g3⟩)⟩
    · have r : am (nth tr t).lit = v := by simpa using r
      rw [atN_eq s r ha, if_pos s]
    · omega
    · by_cases e : j = t
      · subst e; simpa using r
      · exact ha j (by omega)
  · have s : t = tr.length := by simp at s; omega
    have : ¬ atN tr v < tr.length := fun e => ha _ (by omega) (atN_hit e)
    rw [if_neg this]

theorem Level12_ok (h : TV w p tr) (hn : n = tr.length) (hm : n ≤ maxLen) (ok : TrOk tr) {x : Int} (hx : Br1 tr x) : Calls Try.prog fathomref12_Level.id #[.slice p n c, .int .i64 x] w fun e w' => e = .returned (.int .i64 (lv tr x)) ∧ Grow w w' := by
  refine fathomref12_Level.calls ?_
  have hb := litB_bd hx.isl
  refine (refVar_ok (l := x) (by omega) w (by omega)).mono ?_
  rintro e w1 ⟨rfl, g1⟩
  refine ⟨_, rfl, (At_ok (h.grow g1) hn hm ok.isl (amt x)).mono ?_⟩
  rintro e w2 ⟨rfl, g2⟩
  rw [amt_am, if_pos hx.lt]
  refine ⟨_, rfl, (h.grow (g1.trans g2)).ix hn _ rfl hx.lt fun a s C e1 e2 v' => ⟨_, C.2.1, rfl, g1.trans g2⟩⟩

theorem refBreaks_ok (h : TV w p tr) (hn : n = tr.length) (hm : n ≤ maxLen) (hl : ∀ i, i < tr.length → isL (nth tr i).lit = true) (hc : Vw (Value.int .i64) w q l) (hk : m = l.length) (hx : m ≤ maxLen) :
    Calls Try.prog fathomref12_Breaks.id #[.slice p n c, .slice q m d] w fun e w' => e = .returned (.bool (brk tr l)) ∧ Grow w w' := by
  refine fathomref12_Breaks.calls ?_
  have hx' := hx
  unfold maxLen at hx'
  refine ⟨fun I w' k => ∃ t : Nat, I = t ∧ t ≤ l.length ∧ k = l.length - t ∧ brk tr (l.take t) = true ∧ Grow w w', ⟨_, 0, rfl, Nat.zero_le _, rfl, rfl, Mod.refl w⟩, ?_⟩
  rintro I w2 k2 _ ⟨t, rfl, ht, rfl, ha, g2⟩
  refine cnd_i (fun s => ?_) (fun s => ⟨?_, g2⟩)
  · have s : t < l.length := by simp at s; omega
    have bad : ∀ {w' : World}, Grow w w' → (isL (l.getD t 0) && decide (atN tr (am (l.getD t 0)) < tr.length) && ((nth tr (atN tr (am (l.getD t 0)))).lit == -(l.getD t 0))) = false → (Ending.returned (.bool false) = .returned (.bool (brk tr l)) ∧ Grow w w') := by
      intro w' g hf
      have : brk tr l = false := allFalse (d := 0) s hf
      rw [this]; exact ⟨rfl, g⟩
    refine (hc.grow g2).ix 0 (by omega) hk (by omega) fun a e => ⟨_, e, ?_⟩
    rw [Int.toNat_natCast]
    refine (refLit_ok _ w2).mono ?_
    rintro e w3 ⟨rfl, g3⟩
    have G3 := g2.trans g3
    refine ⟨_, rfl, cnd_i (fun r => bad G3 (by rw [isL_litB, show litB (l.getD t 0) = false by simpa using r]; rfl)) (fun r => ?_)⟩
    have r : isL (l.getD t 0) = true := by rw [isL_litB]; simpa using r
    have hb := litB_bd r
    refine (hc.grow G3).ix 0 (by omega) hk (by omega) fun a e => ⟨_, e, ?_⟩
    rw [Int.toNat_natCast]
    refine (refVar_ok (l := l.getD t 0) (by omega) w3 (by omega)).mono ?_
    rintro e w4 ⟨rfl, g4⟩
    refine ⟨_, rfl, (At_ok (h.grow (G3.trans g4)) hn hm hl _).mono ?_⟩
    rintro e w5 ⟨rfl, g5⟩
    have G5 := (G3.trans g4).trans g5
    rw [amt_am]
    refine ⟨_, rfl, cnd_i (fun r2 => bad G5.drew ?_) (fun r2 => ?_)⟩
    · by_cases e : atN tr (am (l.getD t 0)) < tr.length
      · rw [if_pos e] at r2; simp at r2; omega
      · rw [decide_eq_false e, Bool.and_false, Bool.false_and]
    · by_cases e : atN tr (am (l.getD t 0)) < tr.length
      · rw [if_pos e]
        refine (h.grow G5).drew.ix hn _ rfl e fun a x C e1 e2 v' => ⟨_, C.1, (hc.grow G5).drew.ix 0 (by omega) hk (by omega) fun a e' => ⟨_, e', ?_⟩⟩
        rw [Int.toNat_natCast, wrap64_of (by omega) (by omega), Int.zero_sub]
        refine cnd_i (fun r3 => bad G5.drew ?_) (fun r3 => ⟨_, ?_, t + 1, wN (by omega) (by omega), by omega, rfl, ?_, G5.drew⟩)
        · have r3 : (nth tr (atN tr (am (l.getD t 0)))).lit ≠ -(l.getD t 0) := by simpa using r3
          rw [show ((nth tr (atN tr (am (l.getD t 0)))).lit == -(l.getD t 0)) = false from beq_eq_false_iff_ne.2 r3, Bool.and_false]
        · omega
        · have r3 : (nth tr (atN tr (am (l.getD t 0)))).lit = -(l.getD t 0) := by simpa using r3
          exact allTakeS (d := 0) s ha (by rw [r, decide_eq_true e, r3]; simp)
      · rw [if_neg e] at r2
        simp at r2
  · have s : t = l.length := by simp at s; omega
    subst s
    rw [List.take_length] at ha
    rw [ha]
end Go.Proofs.Ytlpmapeojecenaa.W
