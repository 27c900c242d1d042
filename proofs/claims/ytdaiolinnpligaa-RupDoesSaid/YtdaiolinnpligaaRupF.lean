/- Layer 7: a short proof proves; which clauses are at hand; what a step does; where a proof ends. -/
import Derived.Test.YtdaiolinnpligaaRupE
import Derived.Test.YtdaiolinnpligaaRupD
import Derived.Test.YtdaiolinnpligaaLitA
import Derived.Test.YtdaiolinnpligaaLitB
namespace Go.Proofs.Ytdaiolinnpligaa.W
open Go Go.Fw Go.RowKit Go.SoP Go.LiP
variable {W w w' w0 w2 w3 u0 u u' : World} {p q : Option Addr} {n m c d : Nat} {k : Int} {hs ks : List Sl} {cs : List (List Int)} {l : List Int}

theorem has_vw {α : Type} {f : α → Value} {b : Nat} {a : Array Value} {l : List α} (h : Has w b a) (hc : a.toList = l.map f) : Vw f w (some ⟨b, 0, none⟩) l := by
  intro j hj
  refine ⟨_, rfl, cell_add h ?_⟩
  rw [Nat.zero_add, ← Array.getElem?_toList, hc, List.getElem?_map, List.getElem?_eq_getElem hj]
  rfl

def F7 : List (List Int) := [[1, 2], [-1, 2], [1, -2], [-1, -2]]
def P7 : List Stp := [(false, [2]), (false, [])]
theorem F7_two : uB F7 [2] := .inr ⟨[-2, 1], .step (t := [-2]) (c := [1, 2]) .refl (by decide) (by decide), [-1, 2], by decide, by decide⟩
theorem F7_nil : ¬ uB F7 [] := not_uB (T := []) (by unfold NZ; decide) (by decide) .refl (by unfold End; decide)
theorem F7_end : uB (F7 ++ [[2]]) [] := .inr ⟨[2, 1], .step (t := [2]) (c := [1, -2]) (.step (t := []) (c := [2]) .refl (by decide) (by decide)) (by decide) (by decide), [-1, -2], by decide, by decide⟩
theorem pv7 : pvP F7 P7 = (1, 0) := by
  obtain ⟨e1, e2, _⟩ := step_add (k := 0) (cs := F7) (s := ((false, [2]) : Stp)) rfl (.inl F7_two)
  obtain ⟨e3, e4, _⟩ := step_add (k := 0) (cs := F7 ++ [[2]]) (s := ((false, []) : Stp)) rfl (.inl F7_end)
  unfold P7
  rw [pvP, if_neg (by rw [e1]; simp), if_neg (by simp), e2, pvP, if_neg (by rw [e3]; simp), if_pos ⟨rfl, rfl⟩]
  rfl

theorem awake7_ok : Calls Try.prog fathomlaw07_awake.id #[] w fun e w' => e = .returned (.bool true) ∧ Grow w w' := by
  refine fathomlaw07_awake.calls ?_
  intro n1 w2 h2 n3 w4 h4 n5 w6 h6 n7 w8 h8 n9 w10 h10 n11 w12 h12
  have e11 := h12.num
  have G10 : Grow w w10 := (((h2.mod.trans h4.mod).trans h6.mod).trans h8.mod).trans h10.mod
  have s10 := G10.size
  refine store_i h12.has rfl rfl fun w13 b13 m13 => ⟨_, _, _, _, cells2 b13, ?_⟩
  have g13 : Grow w10 w13 := h12.mod.then m13 fun j hj e => by omega
  intro n16 w17 h17 n18 w19 h19
  have g19 : Grow w10 w19 := (g13.trans h17.mod).trans h19.mod
  have v1 : Vw (Value.int .i64) w10 (some ⟨n1, 0, none⟩) [1, 2] := has_vw ((((h2.has.grow h4.mod).grow h6.mod).grow h8.mod).grow h10.mod) rfl
  have v3 : Vw (Value.int .i64) w10 (some ⟨n3, 0, none⟩) [-1, 2] := has_vw (((h4.has.grow h6.mod).grow h8.mod).grow h10.mod) rfl
  have v5 : Vw (Value.int .i64) w10 (some ⟨n5, 0, none⟩) [1, -2] := has_vw ((h6.has.grow h8.mod).grow h10.mod) rfl
  have v7 : Vw (Value.int .i64) w10 (some ⟨n7, 0, none⟩) [-1, -2] := has_vw (h8.has.grow h10.mod) rfl
  have V : V2 (Value.int .i64) w10 (some ⟨n9, 0, none⟩) [⟨some ⟨n1, 0, none⟩, 2, 2⟩, ⟨some ⟨n3, 0, none⟩, 2, 2⟩, ⟨some ⟨n5, 0, none⟩, 2, 2⟩, ⟨some ⟨n7, 0, none⟩, 2, 2⟩] F7 := by
    refine ⟨has_vw h10.has rfl, rfl, fun j hj => ?_⟩
    match j, hj with
    | 0, _ => exact ⟨rfl, by show 2 ≤ maxLen; decide, v1⟩
    | 1, _ => exact ⟨rfl, by show 2 ≤ maxLen; decide, v3⟩
    | 2, _ => exact ⟨rfl, by show 2 ≤ maxLen; decide, v5⟩
    | 3, _ => exact ⟨rfl, by show 2 ≤ maxLen; decide, v7⟩
    | j + 4, h => exact absurd h (by unfold F7; simp)
  have S : SV w19 (some ⟨n18, 0, none⟩) P7 := by
    intro i hi
    match i, hi with
    | 0, _ => exact ⟨_, ⟨some ⟨n16, 0, none⟩, 1, 1⟩, rfl, ⟨cell_add2 h19.has rfl, cell_add2 h19.has rfl, trivial⟩, rfl, by show 1 ≤ maxLen; decide, has_vw (h17.has.grow h19.mod) rfl⟩
    | 1, _ => exact ⟨_, ⟨none, 0, 0⟩, rfl, ⟨cell_add2 h19.has rfl, cell_add2 h19.has rfl, trivial⟩, rfl, by show 0 ≤ maxLen; decide, Vw.nil⟩
    | i + 2, h => exact absurd h (by unfold P7; simp)
  refine (rupProves_ok (V.grow g19) rfl (by decide) S rfl (by decide)).mono ?_
  rintro e w20 ⟨rfl, g20⟩
  have hcn : (cnfB 2 F7 && mayP P7) = true := by decide
  rw [hcn, if_pos rfl, pv7]
  refine ⟨_, _, rfl, cnd_t rfl (cnd_t rfl ?_)⟩
  have b20 := ((b13.grow h17.mod).grow h19.mod).grow g20
  refine ⟨_, _, _, _, cells2 b20, (rupBroken_ok (V.grow (g19.trans g20)) rfl (by decide)).mono ?_⟩
  rintro e w25 ⟨r, rfl, hr, g25⟩
  have : r = false := by rw [← Bool.not_eq_true]; exact fun e => F7_nil (hr.1 e).2
  subst this
  exact ⟨_, rfl, rfl, ((G10.trans g19).trans g20).trans g25⟩
theorem awk7 (g : Grow W w) : Calls Try.prog fathomlaw07_awake.id #[] w fun e w' => ∃ r : Bool, e = .returned (.bool r) ∧ (Ending.returned (Value.bool r) = .returned (.bool true) ∧ Grow W w') := by
  refine awake7_ok.mono ?_
  rintro e w' ⟨rfl, g'⟩
  exact ⟨true, rfl, rfl, g.trans g'⟩

end Go.Proofs.Ytdaiolinnpligaa.W
/- Layer 7: the statements of units, steps and proofs. -/
namespace Go.Proofs.Ytdaiolinnpligaa.W
open Go Go.Fw Go.RowKit Go.SoP Go.LiP
variable {W w w' w0 w2 w3 u0 u u' : World} {p q : Option Addr} {n m c d : Nat} {k : Int} {hs ks : List Sl} {cs : List (List Int)} {l : List Int}

theorem short_ok : Calls Try.prog fathomlaw07_short.id #[.slice q m c] w fun e w' => e = .returned (.bool (decide ((m : Int) ≤ 60))) ∧ w' = w := fathomlaw07_short.calls ⟨rfl, rfl⟩

theorem RupUnits_calls (hc : V2 (Value.int .i64) w p hs cs) (hn : n = cs.length) (hl : Vw (Value.int .i64) w q l) (hm : m = l.length) (hm2 : m ≤ maxLen) :
    Calls Try.prog fathomlaw07_RupUnits.id #[.agg #[.int .i64 k, .slice p n d], .slice q m c] w fun e w' => e = .returned (.bool true) ∧ Grow w w' := by
  subst hn
  refine fathomlaw07_RupUnits.calls ?_
  intro n1 w2 h2
  refine ⟨_, _, _, _, cells2 h2.has, (small_ok (hc.grow h2.mod) rfl).mono ?_⟩
  rintro e w5 ⟨r, rfl, h40, g5⟩
  have G5 := h2.mod.trans g5
  have b5 := h2.has.grow g5
  refine ⟨_, rfl, cnd_i (fun _ => awk7 G5) (fun rs => short_ok.mono ?_)⟩
  have h40 := h40 (by simpa using rs)
  rintro e _ ⟨rfl, rfl⟩
  refine ⟨_, rfl, cnd_i (fun _ => awk7 G5) (fun rs2 => ?_)⟩
  have h60 : m ≤ 60 := by simp at rs2; omega
  refine ⟨_, _, _, _, cells2 b5, (refCnf_ok (hc.grow G5) rfl).mono ?_⟩
  rintro e w15 ⟨rfl, g15⟩
  have G15 := G5.trans g15
  have b15 := b5.grow g15
  -- what is no formula, or no clause
  have bad : ∀ {u : World}, Grow w15 u → (cnfB k cs = false ∨ clB l = false) → ∃ x17 : Int, ∃ x18_p : Option Addr, ∃ x18_n : Nat, ∃ x18_c : Nat, CellsAt u (Addr.mk n1 0 none) 0 [.int .i64 x17, .slice x18_p x18_n x18_c] ∧ 
    Calls Try.prog 45 #[.agg #[.int .i64 x17, .slice x18_p x18_n x18_c], .slice q m c] u fun e w19 => ∃ r20 : Bool, e = .returned (.bool r20) ∧ 
    cnd (!r20)
    (∃ x21 : Int, ∃ x22_p : Option Addr, ∃ x22_n : Nat, ∃ x22_c : Nat, CellsAt w19 (Addr.mk n1 0 none) 0 [.int .i64 x21, .slice x22_p x22_n x22_c] ∧ 
    Calls Try.prog 49 #[.agg #[.int .i64 x21, .slice x22_p x22_n x22_c], .slice q m c] w19 fun e w23 => ∃ r24 : Bool, e = .returned (.bool r24) ∧ 
    cnd (!r24)
    (Calls Try.prog 40 #[] w23 fun e w25 => ∃ r26 : Bool, e = .returned (.bool r26) ∧ 
    (Ending.returned (Value.bool r26) = .returned (.bool true) ∧ Grow w w25))
    (Ending.returned (Value.bool false) = .returned (.bool true) ∧ Grow w w23))
    (Ending.returned (Value.bool false) = .returned (.bool true) ∧ Grow w w19) := by
    intro u gu hb
    have Gu := G15.trans gu
    refine ⟨_, _, _, _, cells2 (b15.grow gu), (rupUnit_ok (hc.grow Gu) rfl (by omega) (hl.grow Gu) hm hm2).mono ?_⟩
    rintro e w19 ⟨r, rfl, hr, g19⟩
    have hf : r = false := by
      rw [← Bool.not_eq_true]
      intro e
      have := hr.1 e
      rcases hb with h | h
      · rw [h] at this; cases this.1
      · rw [h] at this; cases this.2.1
    subst hf
    refine ⟨_, rfl, cnd_t rfl ⟨_, _, _, _, cells2 ((b15.grow gu).grow g19), (rupFirst_ok (hc.grow (Gu.trans g19)) rfl (by omega) (hl.grow (Gu.trans g19)) hm hm2).mono ?_⟩⟩
    rintro e w23 ⟨r, rfl, hr, g23⟩
    have hf : r = false := by
      rw [← Bool.not_eq_true]
      intro e
      have := hr.1 e
      rcases hb with h | h
      · rw [h] at this; cases this.1
      · rw [h] at this; cases this.2.1
    subst hf
    exact ⟨_, rfl, cnd_t rfl (awk7 ((Gu.trans g19).trans g23))⟩
  refine ⟨_, rfl, ?_⟩
  cases hcn : cnfB k cs with
  | false => exact cnd_t rfl (bad (Mod.refl _) (.inl hcn))
  | true =>
  refine cnd_f rfl ((refMay_ok (hl.grow G15) hm hm2).mono ?_)
  rintro e w27 ⟨rfl, g27⟩
  refine ⟨_, rfl, ?_⟩
  cases hcl : clB l with
  | false => exact cnd_t rfl (bad g27 (.inr hcl))
  | true =>
  have hL := cnf_lits hcn
  have hl1 := clB_all hcl
  have G27 := G15.trans g27
  have b27 := b15.grow g27
  have gd : Grow w27 w27.drew := (Mod.refl w27).drew
  refine cnd_f rfl ⟨Grow w27, gd, _, _, _, _, fun v g => cells2 (b27.grow g), (rupUnit_ok (hc.grow (G27.trans gd)) rfl (by omega) (hl.grow (G27.trans gd)) hm hm2).mono ?_⟩
  rintro e w42 ⟨r1, rfl, hr1, g42⟩
  have g42 := gd.trans g42
  refine ⟨_, rfl, g42, _, _, _, fun v g => cell_add (b27.grow g) rfl, (refUnit7_ok (hc.grow (G27.trans g42)) rfl (by omega) (fun c hc => fun x hx => ((hL c hc).2 x hx).1) (hl.grow (G27.trans g42)) hm (by omega) hl1.1).mono ?_⟩
  rintro e w45 ⟨r2, rfl, hr2, g45⟩
  have g45 := g42.trans g45
  have e12 : r1 = r2 := by
    rw [Bool.eq_iff_iff, hr1, hr2]
    exact ⟨fun h => h.2.2, fun h => ⟨hcn, hcl, h⟩⟩
  subst e12
  refine ⟨_, rfl, g45, cnd_t (by cases r1 <;> rfl) ⟨_, _, _, _, fun v g => cells2 (b27.grow g), (rupFirst_ok (hc.grow (G27.trans g45)) rfl (by omega) (hl.grow (G27.trans g45)) hm hm2).mono ?_⟩⟩
  rintro e w49 ⟨r3, rfl, hr3, g49⟩
  have g49 := g45.trans g49
  refine ⟨_, rfl, g49, _, _, _, fun v g => cell_add (b27.grow g) rfl, (refFirst7_ok (hc.grow (G27.trans g49)) rfl (by omega) (fun c hc => fun x hx => ((hL c hc).2 x hx).1) (fun c hc => (hL c hc).1) (hl.grow (G27.trans g49)) hm (by omega) hl1.1).mono ?_⟩
  rintro e w52 ⟨r4, rfl, hr4, g52⟩
  have g52 := g49.trans g52
  have e34 : r3 = r4 := by
    rw [Bool.eq_iff_iff, hr3, hr4]
    exact ⟨fun h => h.2.2, fun h => ⟨hcn, hcl, h⟩⟩
  subst e34
  refine ⟨_, rfl, g52, cnd_t (by cases r3 <;> rfl) ⟨_, _, _, _, fun v g => cells2 (b27.grow g), (rupBroken_ok (hc.grow (G27.trans g52)) rfl (by omega)).mono ?_⟩⟩
  rintro e w56 ⟨r5, rfl, hr5, g56⟩
  have g56 := g52.trans g56
  refine ⟨_, rfl, g56, _, _, _, fun v g => cell_add (b27.grow g) rfl, (refUnit7_ok (k := []) (hc.grow (G27.trans g56)) rfl (by omega) (fun c hc => fun x hx => ((hL c hc).2 x hx).1) (Vw.nil (p := none)) rfl (by simp) (by simp)).mono ?_⟩
  rintro e w59 ⟨r6, rfl, hr6, g59⟩
  have e56 : r5 = r6 := by
    rw [Bool.eq_iff_iff, hr5, hr6]
    exact ⟨fun h => h.2, fun h => ⟨hcn, h⟩⟩
  subst e56
  exact ⟨_, rfl, cnd_t (by cases r5 <;> rfl) (awk7 (G27.trans (g56.trans g59)))⟩

theorem RupProves_calls {al : List Stp} (hc : V2 (Value.int .i64) w p hs cs) (hn : n = cs.length) (hd : n ≤ d) (hl : SV w q al) (hm : m = al.length) :
    Calls Try.prog fathomlaw07_RupProves.id #[.agg #[.int .i64 k, .slice p n d], .slice q m c] w fun e w' => e = .returned (.bool true) ∧ Grow w w' := by
  subst hn hm
  refine fathomlaw07_RupProves.calls ?_
  intro n1 w2 h2
  refine ⟨_, _, _, _, cells2 h2.has, (small_ok (hc.grow h2.mod) rfl).mono ?_⟩
  rintro e w5 ⟨r, rfl, h40, g5⟩
  have G5 := h2.mod.trans g5
  refine ⟨_, rfl, cnd_i (fun _ => awk7 G5) (fun rs => (light04_ok (hl.grow G5) rfl).mono ?_)⟩
  have h40 := h40 (by simpa using rs)
  rintro e w9 ⟨r9, rfl, g9⟩
  have G9 := G5.trans g9
  refine ⟨_, rfl, cnd_i (fun _ => awk7 G9) (fun _ => cnd_i (fun _ => awk7 G9) (fun r30 => ?_))⟩
  have h30 : al.length ≤ 30 := by rw [decide_eq_false_iff_not] at r30; omega
  have b9 := (h2.has.grow g5).grow g9
  refine ⟨_, _, _, _, cells2 b9, (rupProves_ok (hc.grow G9) rfl h40 (hl.grow G9) rfl h30).mono ?_⟩
  rintro e w17 ⟨rfl, g17⟩
  have G17 := G9.trans g17
  have b17 := b9.grow g17
  refine ⟨_, _, rfl, _, _, _, _, cells2 b17, (refCnf_ok (hc.grow G17) rfl).mono ?_⟩
  rintro e w22 ⟨rfl, g22⟩
  have G22 := G17.trans g22
  refine ⟨_, rfl, ?_⟩
  cases hcn : cnfB k cs with
  | false => exact cnd_t rfl (cnd_t rfl (cnd_t rfl (awk7 G22)))
  | true =>
  refine cnd_f rfl ((may04_ok (hl.grow G22) rfl (by omega)).mono ?_)
  rintro e w26 ⟨rfl, g26⟩
  have G26 := G22.trans g26
  refine ⟨_, rfl, ?_⟩
  cases hmy : mayP al with
  | false => exact cnd_t rfl (cnd_t rfl (cnd_t rfl (awk7 G26)))
  | true =>
  refine cnd_f rfl ⟨_, _, _, _, cells2 ((b17.grow g22).grow g26), (refProves7_ok (hc.grow G26) rfl h40 hd hcn (hl.grow G26) rfl h30 hmy).mono ?_⟩
  rintro e w32 ⟨rfl, g32⟩
  exact ⟨_, _, rfl, cnd_t (by simp) (cnd_t (by simp) (awk7 (G26.trans g32)))⟩

theorem RupDoes_calls {b : Bool} (hc : V2 (Value.int .i64) w p hs cs) (hn : n = cs.length) (hd : n ≤ d) (hl : Vw (Value.int .i64) w q l) (hm : m = l.length) (hm2 : m ≤ maxLen) :
    Calls Try.prog fathomlaw07_RupDoes.id #[.agg #[.int .i64 k, .slice p n d], .agg #[.bool b, .slice q m c]] w fun e w' => e = .returned (.bool true) ∧ Grow w w' := by
  subst hn
  refine fathomlaw07_RupDoes.calls ?_
  intro n1 w2 h2 n3 w4 h4
  have G4 := h2.mod.trans h4.mod
  have b4 := h2.has.grow h4.mod
  refine ⟨_, _, _, _, cells2 b4, (small_ok (hc.grow G4) rfl).mono ?_⟩
  rintro e w7 ⟨r, rfl, h40, g7⟩
  have G7 := G4.trans g7
  have a7 := b4.grow g7
  have b7 := h4.has.grow g7
  refine ⟨_, rfl, cnd_i (fun _ => awk7 G7) (fun rs => ⟨_, _, _, cell_add b7 rfl, short_ok.mono ?_⟩)⟩
  have h40 := h40 (by simpa using rs)
  rintro e _ ⟨rfl, rfl⟩
  refine ⟨_, rfl, cnd_i (fun _ => awk7 G7) (fun rs2 => ?_)⟩
  have h60 : m ≤ 60 := by simp at rs2; omega
  refine ⟨_, _, _, _, cells2 a7, _, _, _, _, cells2 b7, (rupDo_ok (hc.grow G7) rfl (by omega) (hl.grow G7) hm hm2).mono ?_⟩
  rintro e w20 ⟨v', p', d', hs', cs', e', rfl, hv', g20, hr⟩
  have G20 := G7.trans g20
  refine ⟨_, _, _, _, _, rfl, ?_⟩
  intro n24 w25 h25
  have e24 := h25.num
  refine store_i h25.has rfl rfl fun w26 b26 m26 => ?_
  have g26 : Grow w20 w26 := h25.mod.then m26 fun j hj e => by omega
  have G26 := G20.trans g26
  have hv26 : V2 (Value.int .i64) w26 p' hs' cs' := (hv'.grow h25.mod).keepN m26 fun j hj e => by have := hv'.ltN j hj; omega
  have a26 := (a7.grow g20).grow g26
  refine ⟨_, _, _, _, cells2 a26, (refCnf_ok (hc.grow G26) rfl).mono ?_⟩
  rintro e w29 ⟨rfl, g29⟩
  have G29 := G26.trans g29
  have b29 := ((b7.grow g20).grow g26).grow g29
  have c29 := b26.grow g29
  have bad : (cnfB k cs && clB l) = false → ∀ {u : World}, Grow w29 u → cnd (e' == (1 : Int))
    (∃ x31 : Int, ∃ x32_p : Option Addr, ∃ x32_n : Nat, ∃ x32_c : Nat, CellsAt u (Addr.mk n24 0 none) 0 [.int .i64 x31, .slice x32_p x32_n x32_c] ∧ 
    Calls Try.prog 54 #[.agg #[.int .i64 x31, .slice x32_p x32_n x32_c], .agg #[.int .i64 0, .slice none 0 0]] u fun e w33 => ∃ r34 : Bool, e = .returned (.bool r34) ∧ 
    cnd r34
    (Calls Try.prog 40 #[] w33 fun e w35 => ∃ r36 : Bool, e = .returned (.bool r36) ∧ 
    (Ending.returned (Value.bool r36) = .returned (.bool true) ∧ Grow w w35))
    (Ending.returned (Value.bool false) = .returned (.bool true) ∧ Grow w w33))
    (Ending.returned (Value.bool false) = .returned (.bool true) ∧ Grow w u) := by
    intro hb u gu
    rw [hb] at hr
    simp only [Bool.false_eq_true, if_false] at hr
    obtain ⟨rfl, rfl, rfl⟩ := hr
    refine cnd_t rfl ⟨_, _, _, _, cells2 (c29.grow gu), (refSame_ok (hv26.grow (g29.trans gu)) (V2.nil (p := none)) rfl rfl (Nat.zero_le _)).mono ?_⟩
    rintro e w33 ⟨rfl, g33⟩
    exact ⟨_, rfl, cnd_t rfl (awk7 ((G29.trans gu).trans g33))⟩
  refine ⟨_, rfl, ?_⟩
  cases hcn : cnfB k cs with
  | false => exact cnd_t rfl (bad (by rw [hcn]; rfl) (Mod.refl _))
  | true =>
  refine cnd_f rfl ⟨_, _, _, cell_add b29 rfl, (refMay_ok (hl.grow G29) hm hm2).mono ?_⟩
  rintro e w38 ⟨rfl, g38⟩
  refine ⟨_, rfl, ?_⟩
  cases hcl : clB l with
  | false => exact cnd_t rfl (bad (by rw [hcl, Bool.and_false]) g38)
  | true =>
  rw [hcn, hcl] at hr
  simp only [Bool.and_self, if_true] at hr
  obtain ⟨rfl, rfl, rfl⟩ := hr
  have hL := cnf_lits hcn
  have G38 := G29.trans g38
  refine cnd_f rfl ⟨_, _, _, _, cells2 ((a26.grow g29).grow g38), _, _, _, _, cells2 (b29.grow g38), (refDo7_ok (hc.grow G38) rfl (by omega) hd (fun c hc => ⟨(hL c hc).1, fun x hx => ((hL c hc).2 x hx).1⟩) (hl.grow G38) hm hcl).mono ?_⟩
  rintro e w50 ⟨p2, d2, hs2, rfl, hv2, _, g50, _⟩
  refine ⟨_, _, _, _, _, rfl, ?_⟩
  intro n54 w55 h55
  have e54 := h55.num
  refine store_i h55.has rfl rfl fun w56 b56 m56 => cnd_t (by simp) ?_
  have g56 : Grow w50 w56 := h55.mod.then m56 fun j hj e => by omega
  have hv56 := (hv2.grow h55.mod).keepN m56 fun j hj e => by have := hv2.ltN j hj; omega
  have gg := (g38.trans g50).trans g56
  refine ⟨_, _, _, _, cells2 (c29.grow gg), _, _, _, _, cells2 b56, (refSame_ok (hv26.grow (g29.trans gg)) hv56 rfl rfl (by
    have := stepC_len (cs := cs) (s := ((b, l) : Stp))
    unfold maxLen; omega)).mono ?_⟩
  rintro e w61 ⟨rfl, g61⟩
  exact ⟨_, rfl, cnd_t (by simp) (awk7 ((G29.trans gg).trans g61))⟩

end Go.Proofs.Ytdaiolinnpligaa.W
/- Layer 7: what is at hand is true, plain. -/
namespace Go.Proofs.Ytdaiolinnpligaa.W
open Go Go.Fw Go.RowKit Go.SoP Go.LiP
variable {cs : List (List Int)} {c d T : List Int} {P : Int → Prop}

/-- Each clause has something true. -/
def Hol (P : Int → Prop) (cs : List (List Int)) : Prop := ∀ c ∈ cs, ∃ x ∈ c, P x
/-- True is told of just one of a literal and its negation. -/
structure Asg (P : Int → Prop) : Prop where
  con : ∀ x, P (-x) → ¬ P x
  tot : ∀ x, x ≠ 0 → P x ∨ P (-x)

theorem fol_true (hz : NZ cs) (hP : ∀ x, P (-x) → ¬ P x) (hcs : Hol P cs) (hd : ∀ x ∈ d, P x) (h : Fol cs d T) : ∀ x ∈ T, P x := by
  induction h with
  | refl => exact hd
  | step h1 h2 h3 ih =>
    rename_i t c
    intro x hx
    rcases List.mem_append.1 hx with hx | hx
    · exact ih x hx
    · rw [List.mem_singleton] at hx
      obtain ⟨a1, a2, a3, a4⟩ := unitF_ne (hz _ h2) h3
      obtain ⟨y, hy, hPy⟩ := hcs _ h2
      rcases a4 y hy with e | e
      · rw [hx, ← e]; exact hPy
      · exact absurd hPy (hP y (ih _ e))
theorem uB_true (hz : NZ cs) (hP : ∀ x, P (-x) → ¬ P x) (hcs : Hol P cs) (hd : ∀ x ∈ c, P x ∨ P (-x)) (hu : uB cs c) : ∃ x ∈ c, P x := by
  rcases hu with ht | ⟨T, hF, y, hy, hb⟩
  · obtain ⟨x, hx, hx'⟩ := taut_iff.1 ht
    exact (hd x hx).elim (fun h => ⟨x, hx, h⟩) fun h => ⟨-x, hx', h⟩
  · refine Classical.byContradiction fun hno => ?_
    have hn : ∀ x ∈ negs c, P x := fun x hx => by
      rw [mem_negs] at hx
      have := (hd _ hx).resolve_left fun h => hno ⟨_, hx, h⟩
      rwa [Int.neg_neg] at this
    have hT := fol_true hz hP hcs hn hF
    obtain ⟨z, hz', hPz⟩ := hcs y hy
    exact hP z (hT _ (brokenP_iff.1 hb z hz')) hPz

/-- The first literal is turned. -/
def turn (P : Int → Prop) (l : Int) (x : Int) : Prop := (amt x ≠ amt l ∧ P x) ∨ x = l
theorem turn_asg (h : Asg P) {l : Int} (hl : l ≠ 0) : Asg (turn P l) := by
  refine ⟨fun x hx hx' => ?_, fun x hx => ?_⟩
  · rcases hx with ⟨a, b⟩ | e
    · rcases hx' with ⟨_, b'⟩ | e'
      · exact h.con x b b'
      · rw [e', amt_neg] at a; exact a rfl
    · rcases hx' with ⟨a, _⟩ | e'
      · rw [← e, amt_neg] at a; exact a rfl
      · omega
  · by_cases e : amt x = amt l
    · rcases amt_eq e with e | e
      · exact .inl (.inr e)
      · exact .inr (.inr (by omega))
    · rcases h.tot x hx with h | h
      · exact .inl (.inl ⟨e, h⟩)
      · exact .inr (.inl ⟨by rw [amt_neg]; exact e, h⟩)
theorem fB_true {k : List Int} (hz : NZ cs) (hk : ∀ x ∈ k, x ≠ 0) (h : Asg P) (hcs : Hol P cs) (hf : fB cs k) : ∃ P', Asg P' ∧ Hol P' cs ∧ ∃ x ∈ k, P' x := by
  by_cases hs : ∃ x ∈ k, P x
  · exact ⟨P, h, hcs, hs⟩
  obtain ⟨hne, hall⟩ := hf
  have h0 : 0 < k.length := List.length_pos_iff.2 hne
  have hm := getD_mem' h0
  have hl := hk _ hm
  have hno : ¬ P (k.getD 0 0) := fun e => hs ⟨_, hm, e⟩
  refine ⟨turn P (k.getD 0 0), turn_asg h hl, fun c hc => ?_, _, hm, .inr rfl⟩
  have ok : ∀ x ∈ c, x ≠ -(k.getD 0 0) → P x → ∃ x ∈ c, turn P (k.getD 0 0) x := fun x hx hne hp => ⟨x, hx, .inl ⟨fun e => (amt_eq e).elim (fun e => hno (e ▸ hp)) hne, hp⟩⟩
  by_cases hin : -(k.getD 0 0) ∈ c
  · obtain ⟨_, hu⟩ := hall c hc hin
    have hnz : ∀ x ∈ resF k c, x ≠ 0 := fun x hx => by
      unfold resF at hx
      rcases List.mem_append.1 hx with h | h
      · exact hk x h
      · exact hz c hc x (mem_wo.1 h).1
    obtain ⟨x, hx, hp⟩ := uB_true hz h.con hcs (fun x hx => h.tot x (hnz x hx)) hu
    unfold resF at hx
    rcases List.mem_append.1 hx with h | h
    · exact absurd ⟨x, h, hp⟩ hs
    · exact ok x (mem_wo.1 h).1 (mem_wo.1 h).2 hp
  · obtain ⟨x, hx, hp⟩ := hcs c hc
    exact ok x hx (fun e => hin (e ▸ hx)) hp

theorem delP_sub {k : List Int} : ∀ {cs : List (List Int)}, c ∈ delP k cs → c ∈ cs
  | [], h => h
  | x :: l, h => by
    unfold delP at h
    split at h
    · exact List.mem_cons_of_mem _ h
    · rcases List.mem_cons.1 h with h | h
      · exact h ▸ List.mem_cons_self ..
      · exact List.mem_cons_of_mem _ (delP_sub h)
theorem step_nz {s : Stp} (hz : NZ cs) (hs : ∀ x ∈ s.2, x ≠ 0) : NZ (stepC cs s) := by
  intro c hc
  cases h : s.1 with
  | true => rw [(step_del (k := 0) h).2.1] at hc; exact hz c (delP_sub hc)
  | false =>
    by_cases h2 : uB cs s.2 ∨ fB cs s.2
    · rw [(step_add (k := 0) h h2).2.1] at hc
      rcases List.mem_append.1 hc with hc | hc
      · exact hz c hc
      · rw [List.mem_singleton] at hc; subst hc; exact hs
    · rw [(step_bad (k := 0) h h2).2.1] at hc; exact hz c hc
theorem step_true {s : Stp} (hz : NZ cs) (hs : ∀ x ∈ s.2, x ≠ 0) (h : Asg P) (hcs : Hol P cs) (he : stepE cs s = 0) : ∃ P', Asg P' ∧ Hol P' (stepC cs s) := by
  cases h1 : s.1 with
  | true => rw [(step_del (k := 0) h1).2.1]; exact ⟨P, h, fun c hc => hcs c (delP_sub hc)⟩
  | false =>
    by_cases h2 : uB cs s.2 ∨ fB cs s.2
    · rw [(step_add (k := 0) h1 h2).2.1]
      have fin : ∀ {P'}, Hol P' cs → (∃ x ∈ s.2, P' x) → Hol P' (cs ++ [s.2]) := fun a b c hc => by
        rcases List.mem_append.1 hc with hc | hc
        · exact a c hc
        · rw [List.mem_singleton] at hc; subst hc; exact b
      rcases h2 with h2 | h2
      · exact ⟨P, h, fin hcs (uB_true hz h.con hcs (fun x hx => h.tot x (hs x hx)) h2)⟩
      · obtain ⟨P', a, b, c⟩ := fB_true hz hs h hcs h2
        exact ⟨P', a, fin b c⟩
    · rw [(step_bad (k := 0) h1 h2).1] at he; exact absurd he (by decide)
/-- What a proof proves: nothing makes the formula hold. -/
theorem pv_true : ∀ {al : List Stp} {cs : List (List Int)} {P : Int → Prop}, NZ cs → (∀ s ∈ al, ∀ x ∈ s.2, x ≠ 0) → Asg P → Hol P cs → (pvP cs al).2 ≠ 0
  | [], cs, P, _, _, _, _ => by rw [pvP]; decide
  | s :: l, cs, P, hz, hs, h, hcs => by
    have hs0 := hs s (List.mem_cons_self ..)
    rw [pvP]
    by_cases he : stepE cs s ≠ 0
    · rw [if_pos he]; exact he
    · rw [if_neg he]
      have he : stepE cs s = 0 := by omega
      by_cases h1 : s.1 = false ∧ s.2 = []
      · exfalso
        have hu : uB cs s.2 ∨ fB cs s.2 := Classical.byContradiction fun h2 => by
          rw [(step_bad (k := 0) h1.1 h2).1] at he; exact absurd he (by decide)
        rcases hu with hu | hu
        · obtain ⟨x, hx, _⟩ := uB_true hz h.con hcs (fun x hx => h.tot x (hs0 x hx)) hu
          rw [h1.2] at hx; simp at hx
        · exact hu.1 h1.2
      · rw [if_neg h1]
        obtain ⟨P', a, b⟩ := step_true hz hs0 h hcs he
        exact pv_true (step_nz hz hs0) (fun s hs' => hs s (List.mem_cons_of_mem _ hs')) a b

/-! ## Models -/
/-- What a model tells, of all that there is. -/
def mdl (m : List Int) (x : Int) : Prop := x ≠ 0 ∧ (decide (m.getD (amt x - 1).toNat 0 > 0) = decide (x > 0))
theorem mdl_asg (m : List Int) : Asg (mdl m) := by
  refine ⟨fun x hx hx' => ?_, fun x hx => ?_⟩
  · have h1 := hx.2
    have h2 := hx'.2
    have h3 := hx'.1
    rw [amt_neg] at h1
    rw [h1] at h2
    rcases Int.lt_trichotomy x 0 with h | h | h
    · rw [decide_eq_true (by omega), decide_eq_false (by omega)] at h2; cases h2
    · omega
    · rw [decide_eq_false (by omega), decide_eq_true (by omega)] at h2; cases h2
  · unfold mdl
    rw [amt_neg]
    cases hd : decide (m.getD (amt x - 1).toNat 0 > 0) with
    | true =>
      rcases Int.lt_trichotomy x 0 with h | h | h
      · exact .inr ⟨by omega, by rw [decide_eq_true (by omega)]⟩
      · omega
      · exact .inl ⟨hx, by rw [decide_eq_true (by omega)]⟩
    | false =>
      rcases Int.lt_trichotomy x 0 with h | h | h
      · exact .inl ⟨hx, by rw [decide_eq_false (by omega)]⟩
      · omega
      · exact .inr ⟨by omega, by rw [decide_eq_false (by omega)]⟩
theorem val_mdl {m : List Int} {x : Int} (h : valP m x = 1) : mdl m x := by
  unfold valP at h
  split at h
  · omega
  · rename_i h1
    split at h
    · omega
    · split at h
      · rename_i h3
        have hl : litB x = true := by
          cases hh : litB x with
          | true => rfl
          | false => exact absurd (.inl hh) h1
        exact ⟨litB_nz hl, h3⟩
      · omega
theorem mdl_val {m : List Int} {x : Int} (hl : litB x = true) (ha : amt x ≤ m.length) (h0 : m.getD (amt x - 1).toNat 0 ≠ 0) (h : mdl m x) : valP m x = 1 := by
  unfold valP
  rw [if_neg (fun e => e.elim (fun e => by rw [hl] at e; cases e) fun e => by omega), if_neg h0, if_pos h.2]
theorem holds_hol {m : List Int} (h : holdsP m cs = true) : Hol (mdl m) cs := by
  unfold holdsP at h
  rw [List.all_eq_true] at h
  intro c hc
  obtain ⟨x, hx, e⟩ := List.any_eq_true.1 (h c hc)
  exact ⟨x, hx, val_mdl (by simpa using e)⟩

/-- Each assignment of few variables is a number's model. -/
theorem model_of (f : Nat → Prop) : ∀ (k : Nat) (i : Nat), ∃ n, n < 2 ^ k ∧ ∀ j, j < k → (((modelP k n).getD j 0 = 1 ∧ f (i + j)) ∨ ((modelP k n).getD j 0 = -1 ∧ ¬ f (i + j)))
  | 0, _ => ⟨0, by simp, fun j hj => by omega⟩
  | k + 1, i => by
    obtain ⟨n, hn, h⟩ := model_of f k (i + 1)
    by_cases hf : f i
    · refine ⟨2 * n + 1, by rw [Nat.pow_succ]; omega, fun j hj => ?_⟩
      have e1 : (2 * n + 1) % 2 = 1 := by omega
      have e2 : (2 * n + 1) / 2 = n := by omega
      rw [modelP, e1, e2, if_pos rfl]
      cases j with
      | zero => exact .inl ⟨rfl, hf⟩
      | succ j => have := h j (by omega); rw [List.getD_cons_succ]; rwa [Nat.add_right_comm, Nat.add_assoc] at this
    · refine ⟨2 * n, by rw [Nat.pow_succ]; omega, fun j hj => ?_⟩
      have e1 : (2 * n) % 2 = 0 := by omega
      have e2 : (2 * n) / 2 = n := by omega
      rw [modelP, e1, e2, if_neg (by decide)]
      cases j with
      | zero => exact .inr ⟨rfl, hf⟩
      | succ j => have := h j (by omega); rw [List.getD_cons_succ]; rwa [Nat.add_right_comm, Nat.add_assoc] at this
theorem hol_holds (h : Asg P) (hcs : Hol P cs) {k : Nat} (hl : ∀ c ∈ cs, ∀ x ∈ c, litB x = true ∧ amt x ≤ k) : ∃ n, n < 2 ^ k ∧ holdsP (modelP k n) cs = true := by
  obtain ⟨n, hn, hm⟩ := model_of (fun v => P (v : Int)) k 1
  refine ⟨n, hn, ?_⟩
  unfold holdsP
  rw [List.all_eq_true]
  intro c hc
  obtain ⟨x, hx, hp⟩ := hcs c hc
  rw [List.any_eq_true]
  refine ⟨x, hx, ?_⟩
  rw [decide_eq_true_eq]
  obtain ⟨h1, h2⟩ := hl c hc x hx
  have hz := litB_nz h1
  have hp1 : 1 ≤ amt x := by unfold amt; split <;> omega
  have key := hm (amt x - 1).toNat (by omega)
  have ec : ((1 + (amt x - 1).toNat : Nat) : Int) = amt x := by omega
  rw [ec] at key
  refine mdl_val h1 (by rw [modelP_len]; exact h2) (by omega) ⟨hz, ?_⟩
  rcases Int.lt_trichotomy x 0 with e | e | e
  · have ea : amt x = -x := by unfold amt; rw [if_pos e]
    have : ¬ P (amt x) := fun e2 => h.con x (by rw [← ea]; exact e2) hp
    have a1 : decide (x > 0) = false := decide_eq_false (by omega)
    have a2 : decide ((modelP k n).getD (amt x - 1).toNat 0 > 0) = false := decide_eq_false (by rcases key with k | k; exact absurd k.2 this; omega)
    rw [a1, a2]
  · omega
  · have ea : amt x = x := by unfold amt; rw [if_neg (by omega)]
    have a1 : decide (x > 0) = true := decide_eq_true (by omega)
    have a2 : decide ((modelP k n).getD (amt x - 1).toNat 0 > 0) = true := decide_eq_true (by rcases key with k | k; omega; exact absurd (ea.symm ▸ hp) k.2)
    rw [a1, a2]

end Go.Proofs.Ytdaiolinnpligaa.W
/- Layer 7: the theorems of units, of first literals and of proofs. -/
namespace Go.Proofs.Ytdaiolinnpligaa.W
open Go Go.Fw Go.RowKit Go.SoP Go.LiP
variable {W w w' w0 w2 w3 u0 u u' : World} {p q r : Option Addr} {n m c d : Nat} {k : Int} {hs ks : List Sl} {cs : List (List Int)} {l : List Int}

theorem refSat7_ok {k : Nat} (hk : k ≤ 10) (hc : V2 (Value.int .i64) w p hs cs) (hn : n = cs.length) (hx : n ≤ maxLen) :
    Calls Try.prog fathomref01_Sat.id #[.agg #[.int .i64 (k : Int), .slice p n d]] w fun e w' => ∃ (q : Option Addr) (m c : Nat) (r : Bool), e = .returned (.tuple #[.slice q m c, .bool r]) ∧ (r = true ↔ ∃ i, i < 2 ^ k ∧ holdsP (modelP k i) cs = true) ∧ Grow w w' := by
  refine fathomref01_Sat.calls ?_
  intro n1 w2 h2
  have hp : 2 ^ k ≤ 1024 := Nat.pow_le_pow_right (by omega : 0 < 2) hk
  have e2 : IntKind.i64.wrap ((1 : Int) * 2 ^ (min ((k : Int).toNat) (IntKind.bits .i64))) = ((2 ^ k : Nat) : Int) := by
    have : min ((k : Int).toNat) (IntKind.bits .i64) = k := by rw [Int.toNat_natCast]; exact Nat.min_eq_left (by show k ≤ 64; omega)
    rw [this, Int.one_mul]
    exact wN (by simp) (by omega)
  refine ⟨fun I u z => ∃ i : Nat, I = i ∧ i ≤ 2 ^ k ∧ z = 2 ^ k - i ∧ Grow w2 u ∧ ∀ j, j < i → holdsP (modelP k j) cs = false, ⟨_, 0, rfl, Nat.zero_le _, rfl, Mod.refl _, fun j hj => by omega⟩, ?_⟩
  rintro I u z _ ⟨i, rfl, hi, rfl, g, hno⟩
  have bu := h2.has.grow g
  refine ⟨_, cell_add bu rfl, by omega, ?_⟩
  rw [e2]
  refine cnd_i (fun r => ?_) (fun r => ?_)
  · have r : i < 2 ^ k := by rw [decide_eq_true_eq] at r; omega
    have gd : Grow w2 u.drew := g.drew
    have fin : ∀ {v : World}, Grow w2 v → ∃ x16 : Int, v.cell? ((Addr.mk n1 0 none).add 0) = some (.int .i64 x16) ∧ 
        Calls Try.prog 86 #[.int .i64 x16, .int .i64 (i : Int)] v fun e w17 => ∃ r18_p : Option Addr, ∃ r18_n : Nat, ∃ r18_c : Nat, e = .returned (.slice r18_p r18_n r18_c) ∧ 
        (∀ _ : holdsP (modelP k i) cs = true, ∃ (q : Option Addr) (m c : Nat) (r : Bool), Ending.returned (Value.tuple #[.slice r18_p r18_n r18_c, .bool true]) = .returned (.tuple #[.slice q m c, .bool r]) ∧ (r = true ↔ ∃ i, i < 2 ^ k ∧ holdsP (modelP k i) cs = true) ∧ Grow w w17) := fun {v} gv => by
      refine ⟨_, cell_add (h2.has.grow gv) rfl, (refModel_ok (by omega) (by omega) v).mono ?_⟩
      rintro e w17 ⟨⟨p', c', rfl, _, _⟩, g17⟩
      exact ⟨_, _, _, rfl, fun hh => ⟨_, _, _, true, rfl, ⟨fun _ => ⟨i, r, hh⟩, fun _ => rfl⟩, h2.mod.trans (gv.trans g17)⟩⟩
    have next : ∀ {v : World}, Grow w2 v → holdsP (modelP k i) cs = false → ∃ k5, k5 < 2 ^ k - i ∧ ∃ i' : Nat, IntKind.i64.wrap ((i : Int) + 1) = i' ∧ i' ≤ 2 ^ k ∧ k5 = 2 ^ k - i' ∧ Grow w2 v ∧ ∀ j, j < i' → holdsP (modelP k j) cs = false := fun {v} gv hh => by
      refine ⟨_, by omega, i + 1, wN (by omega) (by omega), r, rfl, gv, fun j hj => ?_⟩
      by_cases e : j < i
      · exact hno j e
      · obtain rfl : j = i := by omega
        exact hh
    refine ⟨_, cell_add (h2.has.grow gd) rfl, ⟨_, _, _, _, cells2 (h2.has.grow gd), (refModel_ok (by omega) (by omega) _).mono ?_⟩, (refModel_ok (by omega) (by omega) _).mono ?_⟩
    · rintro e w12 ⟨⟨p', c', rfl, o, _⟩, g12⟩
      refine ⟨_, _, _, rfl, (refHolds_ok (hc.grow (h2.mod.trans (gd.trans g12))) hn hx o.vw (modelP_len k i).symm (by unfold maxLen; omega)).mono ?_⟩
      rintro e w14 ⟨rfl, g14⟩
      refine ⟨_, rfl, cnd_i (fun hh => ?_) (fun hh => next ((gd.trans g12).trans g14) hh)⟩
      obtain ⟨x, hx', hcall⟩ := fin ((gd.trans g12).trans g14)
      refine ⟨x, hx', hcall.mono ?_⟩
      rintro e w17 ⟨p2, n2, c2, rfl, hK⟩
      exact ⟨p2, n2, c2, rfl, hK hh⟩
    · rintro e w12 ⟨⟨p', c', rfl, o, _⟩, g12⟩
      refine ⟨_, _, _, rfl, _, _, _, _, cells2 (h2.has.grow (gd.trans g12)), (refHolds_ok (hc.grow (h2.mod.trans (gd.trans g12))) hn hx o.vw (modelP_len k i).symm (by unfold maxLen; omega)).mono ?_⟩
      rintro e w14 ⟨rfl, g14⟩
      refine ⟨_, rfl, cnd_i (fun hh => ?_) (fun hh => next ((gd.trans g12).trans g14) hh)⟩
      obtain ⟨x, hx', hcall⟩ := fin ((gd.trans g12).trans g14)
      refine ⟨x, hx', hcall.mono ?_⟩
      rintro e w17 ⟨p2, n2, c2, rfl, hK⟩
      exact ⟨p2, n2, c2, rfl, hK hh⟩
  · have r : i = 2 ^ k := by rw [decide_eq_false_iff_not] at r; omega
    subst r
    exact ⟨_, _, _, false, rfl, ⟨fun e => (by cases e), fun ⟨j, hj, hh⟩ => by rw [hno j hj] at hh; cases hh⟩, h2.mod.trans g⟩

theorem nz_of (h : ∀ c ∈ cs, c.length ≤ 4096 ∧ ∀ x ∈ c, litB x = true ∧ amt x ≤ k) : NZ cs := fun c hc x hx => litB_nz ((h c hc).2 x hx).1

theorem RupTruth_calls {al : List Stp} (hc : V2 (Value.int .i64) w p hs cs) (hn : n = cs.length) (hl : SV w q al) (hm : m = al.length) :
    Calls Try.prog fathomlaw07_RupTruth.id #[.agg #[.int .i64 k, .slice p n d], .slice q m c] w fun e w' => e = .returned (.bool true) ∧ Grow w w' := by
  subst hn hm
  refine fathomlaw07_RupTruth.calls ?_
  intro n1 w2 h2
  refine ⟨_, _, _, _, cells2 h2.has, (small_ok (hc.grow h2.mod) rfl).mono ?_⟩
  rintro e w5 ⟨r, rfl, h40, g5⟩
  have G5 := h2.mod.trans g5
  refine ⟨_, rfl, cnd_i (fun _ => awk7 G5) (fun rs => (light04_ok (hl.grow G5) rfl).mono ?_)⟩
  have h40 := h40 (by simpa using rs)
  rintro e w9 ⟨r9, rfl, g9⟩
  have G9 := G5.trans g9
  refine ⟨_, rfl, cnd_i (fun _ => awk7 G9) (fun _ => cnd_i (fun _ => awk7 G9) (fun r30 => ?_))⟩
  have h30 : al.length ≤ 30 := by rw [decide_eq_false_iff_not] at r30; omega
  have b9 := (h2.has.grow g5).grow g9
  refine ⟨_, _, _, _, cells2 b9, (refCnf_ok (hc.grow G9) rfl).mono ?_⟩
  rintro e w17 ⟨rfl, g17⟩
  have G17 := G9.trans g17
  have b17 := b9.grow g17
  refine ⟨_, rfl, ?_⟩
  cases hcn : cnfB k cs with
  | false => exact cnd_t rfl (awk7 G17)
  | true =>
  have hL := cnf_lits hcn
  have hk0 : 0 ≤ k := by
    unfold cnfB at hcn
    simp only [Bool.and_eq_true, decide_eq_true_eq] at hcn
    exact hcn.1.1
  refine cnd_f rfl ⟨_, cell_add b17 rfl, cnd_i (fun _ => awk7 G17) (fun r8 => ?_)⟩
  have h8 : k ≤ 8 := by rw [decide_eq_false_iff_not] at r8; omega
  obtain ⟨kn, rfl⟩ : ∃ kn : Nat, k = kn := ⟨k.toNat, by omega⟩
  refine ⟨_, _, _, _, cells2 b17, (rupProves_ok (hc.grow G17) rfl h40 (hl.grow G17) rfl h30).mono ?_⟩
  rintro e w26 ⟨rfl, g26⟩
  have G26 := G17.trans g26
  refine ⟨_, _, rfl, _, _, _, _, cells2 (b17.grow g26), (refSat7_ok (by omega) (hc.grow G26) rfl (by unfold maxLen; omega)).mono ?_⟩
  rintro e w31 ⟨q', m', c', r, rfl, hr, g31⟩
  have G31 := G26.trans g31
  refine ⟨_, _, _, _, rfl, cnd_i (fun _ => awk7 G31) (fun he => cnd_i (fun _ => awk7 G31) (fun hr2 => ?_))⟩
  exfalso
  have hr2 : r = true := by simpa using hr2
  obtain ⟨i, _, hh⟩ := hr.1 hr2
  have he : (if cnfB (kn : Int) cs && mayP al then pvP cs al else (0, 1)).2 = 0 := by simpa using he
  rw [hcn, Bool.true_and] at he
  cases hmy : mayP al with
  | false => rw [hmy] at he; exact absurd he (by simp)
  | true =>
    rw [hmy] at he
    simp only [if_true] at he
    refine pv_true (nz_of hL) (fun s hs x hx => ?_) (mdl_asg _) (holds_hol hh) he
    unfold mayP at hmy
    rw [List.all_eq_true] at hmy
    exact litB_nz ((clB_all (hmy s hs)).1 x hx)

theorem RupImplied_calls {ml : List Int} {e0 f0 : Nat} (hc : V2 (Value.int .i64) w p hs cs) (hn : n = cs.length) (hl : Vw (Value.int .i64) w q l) (hm : m = l.length) (hm2 : m ≤ maxLen) (hml : Vw (Value.int .i64) w r ml) (he : e0 = ml.length) (he2 : e0 ≤ maxLen) :
    Calls Try.prog fathomlaw07_RupImplied.id #[.agg #[.int .i64 k, .slice p n d], .slice q m c, .slice r e0 f0] w fun e w' => e = .returned (.bool true) ∧ Grow w w' := by
  subst hn hm
  refine fathomlaw07_RupImplied.calls ?_
  intro n1 w2 h2
  refine ⟨_, _, _, _, cells2 h2.has, (small_ok (hc.grow h2.mod) rfl).mono ?_⟩
  rintro e w5 ⟨r, rfl, h40, g5⟩
  have G5 := h2.mod.trans g5
  have b5 := h2.has.grow g5
  refine ⟨_, rfl, cnd_i (fun _ => awk7 G5) (fun rs => short_ok.mono ?_)⟩
  have h40 := h40 (by simpa using rs)
  rintro e _ ⟨rfl, rfl⟩
  refine ⟨_, rfl, cnd_i (fun _ => awk7 G5) (fun rs2 => ?_)⟩
  refine ⟨_, _, _, _, cells2 b5, (rupUnit_ok (hc.grow G5) rfl (by omega) (hl.grow G5) rfl hm2).mono ?_⟩
  rintro e w15 ⟨r1, rfl, hr1, g15⟩
  have G15 := G5.trans g15
  have b15 := b5.grow g15
  refine ⟨_, rfl, cnd_i (fun _ => awk7 G15) (fun ru => ?_)⟩
  obtain ⟨hcn, hcl, hu⟩ := hr1.1 (by simpa using ru)
  have hL := cnf_lits hcn
  have hl1 := clB_all hcl
  refine ⟨fun I u z => ∃ i : Nat, I = i ∧ i ≤ l.length ∧ z = l.length - i ∧ Grow w15 u ∧ ∀ x ∈ l.take i, valP ml x ≠ 0, ⟨_, 0, rfl, Nat.zero_le _, rfl, Mod.refl _, fun x hx => by simp at hx⟩, ?_⟩
  rintro I u z _ ⟨i, rfl, hi, rfl, gu, hv⟩
  have Gu := G15.trans gu
  refine cnd_i (fun r => ?_) (fun r => ?_)
  · have r : i < l.length := by simpa using r
    refine (hl.grow Gu).ix 0 (by omega) rfl (by omega) fun a e => ⟨_, e, ?_⟩
    rw [Int.toNat_natCast]
    refine (refValue_ok (hml.grow Gu) he he2 _).mono ?_
    rintro e w26 ⟨rfl, g26⟩
    refine ⟨_, rfl, cnd_i (fun _ => awk7 (Gu.trans g26)) (fun r2 => ⟨_, by omega, i + 1, wN (by omega) (by omega), r, rfl, gu.trans g26, fun x hx => ?_⟩)⟩
    rcases (mem_take_succ' r).1 hx with hx | rfl
    · exact hv x hx
    · simpa using r2
  · have r : i = l.length := by simp at r; omega
    subst r
    rw [List.take_length] at hv
    refine ⟨_, _, _, _, cells2 (b15.grow gu), (refHolds_ok (hc.grow Gu) rfl (by unfold maxLen; omega) (hml.grow Gu) he he2).mono ?_⟩
    rintro e w32 ⟨rfl, g32⟩
    have G32 := Gu.trans g32
    refine ⟨_, rfl, cnd_i (fun _ => awk7 G32) (fun rh => (refClauseV_ok (hml.grow G32) he he2 (hl.grow G32) rfl hm2).mono ?_)⟩
    have hh : holdsP ml cs = true := by simpa using rh
    rintro e w36 ⟨rfl, g36⟩
    have hP : ∀ x, valP ml (-x) = 1 → ¬ valP ml x = 1 := fun x hx hx' => by
      have hlx : litB x = true := by
        cases hb : litB x with
        | true => rfl
        | false =>
          unfold valP at hx'
          rw [if_pos (.inl hb)] at hx'
          omega
      rw [valP_neg hlx] at hx
      omega
    have key : clvP ml l = 1 := by
      rw [clvP_one, List.any_eq_true]
      obtain ⟨x, hx, e⟩ := uB_true (P := fun x => valP ml x = 1) (nz_of hL) hP (fun c hc => by
        unfold holdsP at hh
        rw [List.all_eq_true] at hh
        obtain ⟨x, hx, e⟩ := List.any_eq_true.1 (hh c hc)
        exact ⟨x, hx, by simpa using e⟩) (fun x hx => by
        rcases valP_cases ml x with e | e | e
        · exact absurd e (hv x hx)
        · exact .inl e
        · exact .inr (by rw [valP_neg (hl1.1 x hx), e]; rfl)) hu
      exact ⟨x, hx, by simpa using e⟩
    rw [key]
    exact ⟨_, rfl, cnd_t rfl (awk7 (G32.trans g36))⟩

theorem RupKeeps_calls (hc : V2 (Value.int .i64) w p hs cs) (hn : n = cs.length) (hl : Vw (Value.int .i64) w q l) (hm : m = l.length) (hm2 : m ≤ maxLen) :
    Calls Try.prog fathomlaw07_RupKeeps.id #[.agg #[.int .i64 k, .slice p n d], .slice q m c] w fun e w' => e = .returned (.bool true) ∧ Grow w w' := by
  subst hn hm
  refine fathomlaw07_RupKeeps.calls ?_
  intro n1 w2 h2
  have e1 := h2.num
  refine ⟨_, _, _, _, cells2 h2.has, (small_ok (hc.grow h2.mod) rfl).mono ?_⟩
  rintro e w5 ⟨r, rfl, h40, g5⟩
  have G5 := h2.mod.trans g5
  have b5 := h2.has.grow g5
  refine ⟨_, rfl, cnd_i (fun _ => awk7 G5) (fun rs => short_ok.mono ?_)⟩
  have h40 := h40 (by simpa using rs)
  rintro e _ ⟨rfl, rfl⟩
  refine ⟨_, rfl, cnd_i (fun _ => awk7 G5) (fun rs2 => ?_)⟩
  refine ⟨_, _, _, _, cells2 b5, (refCnf_ok (hc.grow G5) rfl).mono ?_⟩
  rintro e w15 ⟨rfl, g15⟩
  have G15 := G5.trans g15
  have b15 := b5.grow g15
  refine ⟨_, rfl, ?_⟩
  cases hcn : cnfB k cs with
  | false => exact cnd_t rfl (awk7 G15)
  | true =>
  have hL := cnf_lits hcn
  refine cnd_f rfl ⟨_, cell_add b15 rfl, cnd_i (fun _ => awk7 G15) (fun r7 => ?_)⟩
  have h7 : k ≤ 7 := by rw [decide_eq_false_iff_not] at r7; omega
  intro n22 w23 h23
  have G23 := G15.trans h23.mod
  refine (refCnf_ok (k := 7) (V2.one h23.has (hl.grow G23) rfl hm2) rfl).mono ?_
  rintro e w24 ⟨rfl, g24⟩
  have G24 := G23.trans g24
  have b24 := (b15.grow h23.mod).grow g24
  refine ⟨_, rfl, cnd_i (fun _ => awk7 G24) (fun r24 => ?_)⟩
  have hcl7 : cnfB 7 [l] = true := by simpa using r24
  have hL7 := cnf_lits hcl7 l (List.mem_singleton.2 rfl)
  refine ⟨_, _, _, _, cells2 b24, (rupFirst_ok (hc.grow G24) rfl (by omega) (hl.grow G24) rfl hm2).mono ?_⟩
  rintro e w30 ⟨r1, rfl, hr1, g30⟩
  have G30 := G24.trans g30
  refine ⟨_, rfl, cnd_i (fun _ => awk7 G30) (fun rf => ?_)⟩
  obtain ⟨_, hcl, hf⟩ := hr1.1 (by simpa using rf)
  refine store_f (b24.grow g30) rfl rfl fun w34 b34 m34 => ⟨_, _, _, _, cells2 b34, ?_⟩
  have G34 : Grow w w34 := G30.then m34 fun j hj e => by omega
  refine (refSat7_ok (k := 7) (by omega) (hc.grow G34) rfl (by unfold maxLen; omega)).mono ?_
  rintro e w37 ⟨q1, m1, c1, s1, rfl, hs1, g37⟩
  have G37 := G34.trans g37
  refine ⟨_, _, _, _, rfl, ?_⟩
  intro n40 w41 h41
  have e40 := h41.num
  have G41 := G37.trans h41.mod
  have hln := hc.n
  have i41 := G41.size
  have z34 := G34.size
  have z37 := G37.size
  have ib := b34.lt
  refine ⟨_, _, _, cell_add ((b34.grow g37).grow h41.mod) rfl, ?_⟩
  refine Ow.appV (l := ([] : List Sl)) sl_sl_int (New.empty h41) (hc.h.grow G41) rfl hln.symm (fun _ => rfl) (by simp; omega) fun w43 p43 c43 o43 m43 hp43 hz43 => ?_
  rw [List.nil_append] at o43 ⊢
  have G43 : Grow w w43 := G41.then m43 fun j hj e => by have := blk_some e; omega
  have f43 : ∀ j, blk p43 = some j → w.heap.size ≤ j := fun j hj => by
    rcases hp43 with rfl | rfl
    · have := blk_some hj; omega
    · have := blk_some hj; omega
  intro n45 w46 h46
  have e45 := h46.num
  have G46 := G43.trans h46.mod
  refine Ow.appV sl_sl_int (o43.grow h46.mod) (has_vw (l := [(⟨q, l.length, c⟩ : Sl)]) h46.has rfl) rfl rfl (fun _ => rfl) (by simp; omega) fun w47 p47 c47 o47 m47 hp47 hz47 => ?_
  have G47 : Grow w w47 := G46.then m47 fun j hj e => by have := f43 j e; omega
  have el : (hs ++ [(⟨q, l.length, c⟩ : Sl)]).length = (cs ++ [l]).length := by simp [hln]
  rw [el]
  have V47 : V2 (Value.int .i64) w47 p47 (hs ++ [⟨q, l.length, c⟩]) (cs ++ [l]) := ((hc.vr.app (VR.one (s := ⟨q, l.length, c⟩) hl rfl hm2)).grow G47).v2 o47.vw
  refine (refSat7_ok (k := 7) (by omega) V47 rfl (by simp; unfold maxLen; omega)).mono ?_
  rintro e w49 ⟨q2, m2, c2, s2, rfl, hs2, g49⟩
  have key : s1 = s2 := by
    rw [Bool.eq_iff_iff, hs1, hs2]
    constructor
    · rintro ⟨i, _, hh⟩
      obtain ⟨P', a, b, c⟩ := fB_true (nz_of hL) (fun x hx => litB_nz (hL7.2 x hx).1) (mdl_asg _) (holds_hol hh) hf
      refine hol_holds a (cs := cs ++ [l]) (fun c' hc' => ?_) (fun c' hc' x hx => ?_)
      · rcases List.mem_append.1 hc' with h | h
        · exact b c' h
        · rw [List.mem_singleton] at h; subst h; exact c
      · rcases List.mem_append.1 hc' with h | h
        · have := (hL c' h).2 x hx
          exact ⟨this.1, by have := this.2; omega⟩
        · rw [List.mem_singleton] at h; subst h
          have := hL7.2 x hx
          exact ⟨this.1, by have := this.2; omega⟩
    · rintro ⟨i, hi, hh⟩
      refine ⟨i, hi, ?_⟩
      unfold holdsP at hh ⊢
      rw [List.all_append, Bool.and_eq_true] at hh
      exact hh.1
  subst key
  exact ⟨_, _, _, _, rfl, cnd_t (by cases s1 <;> rfl) (awk7 (G47.trans g49))⟩

/-! ## Told of what arguments are -/
theorem cnf_of_rdc {v : Value} (h : RdV w (.cons (.int .i64) (.cons (.sl (.sl (.int .i64))) .nil)) v) : ∃ k q j d hs cs, v = .agg #[.int .i64 k, .slice q j d] ∧ j = cs.length ∧ j ≤ d ∧ V2 (Value.int .i64) w q hs cs := by
  obtain ⟨cs, rfl, x, y, rfl, ⟨k, rfl, hk⟩, z, u, rfl, hz, rfl⟩ := h
  have hv : ∃ s, z = [s] ∧ RdV w (.sl (.sl (.int .i64))) s := by
    rcases hz with rfl | ⟨a', len', cap', rfl, g⟩
    · exact ⟨_, rfl, .inl rfl⟩
    · exact ⟨_, rfl, .inr ⟨a', len', cap', rfl, g⟩⟩
  obtain ⟨s, rfl, hs'⟩ := hv
  obtain ⟨q, m, d, ss, rows, rfl, hm, hm1, hm2, hc⟩ := rows_of_rd (fun v => ints_of_rd') hs'
  exact ⟨k, q, m, d, ss, rows, rfl, hm, hm1, hc⟩
theorem RupUnits_law (v0 v1 : Value) (W : World) (h0 : RdV W (.cons (.int .i64) (.cons (.sl (.sl (.int .i64))) .nil)) v0) (h1 : RdV W (.sl (.int .i64)) v1) : Calls Try.prog fathomlaw07_RupUnits.id #[v0, v1] W fun e W' => e = .returned (.bool true) ∧ Grow W W' := by
  obtain ⟨k, q, j, d, hs, cs, rfl, hj, _, hc, _⟩ := cnf_of_rd h0
  obtain ⟨p, n, c, l, rfl, hn, b1, b2, ha⟩ := ints_of_rd' h1
  exact RupUnits_calls hc hj ha hn (Nat.le_trans b1 b2)
theorem RupKeeps_law (v0 v1 : Value) (W : World) (h0 : RdV W (.cons (.int .i64) (.cons (.sl (.sl (.int .i64))) .nil)) v0) (h1 : RdV W (.sl (.int .i64)) v1) : Calls Try.prog fathomlaw07_RupKeeps.id #[v0, v1] W fun e W' => e = .returned (.bool true) ∧ Grow W W' := by
  obtain ⟨k, q, j, d, hs, cs, rfl, hj, _, hc, _⟩ := cnf_of_rd h0
  obtain ⟨p, n, c, l, rfl, hn, b1, b2, ha⟩ := ints_of_rd' h1
  exact RupKeeps_calls hc hj ha hn (Nat.le_trans b1 b2)
theorem RupImplied_law (v0 v1 v2 : Value) (W : World) (h0 : RdV W (.cons (.int .i64) (.cons (.sl (.sl (.int .i64))) .nil)) v0) (h1 : RdV W (.sl (.int .i64)) v1) (h2 : RdV W (.sl (.int .i64)) v2) : Calls Try.prog fathomlaw07_RupImplied.id #[v0, v1, v2] W fun e W' => e = .returned (.bool true) ∧ Grow W W' := by
  obtain ⟨k, q, j, d, hs, cs, rfl, hj, _, hc, _⟩ := cnf_of_rd h0
  obtain ⟨p, n, c, l, rfl, hn, b1, b2, ha⟩ := ints_of_rd' h1
  obtain ⟨p2, n2, c2, m, rfl, hn2, b3, b4, hm⟩ := ints_of_rd' h2
  exact RupImplied_calls hc hj ha hn (Nat.le_trans b1 b2) hm hn2 (Nat.le_trans b3 b4)
theorem RupTruth_law (v0 v1 : Value) (W : World) (h0 : RdV W (.cons (.int .i64) (.cons (.sl (.sl (.int .i64))) .nil)) v0) (h1 : RdV W (.sl (.cons .bool (.cons (.sl (.int .i64)) .nil))) v1) : Calls Try.prog fathomlaw07_RupTruth.id #[v0, v1] W fun e W' => e = .returned (.bool true) ∧ Grow W W' := by
  obtain ⟨k, q, j, d, hs, cs, rfl, hj, _, hc, _⟩ := cnf_of_rd h0
  obtain ⟨p, n, c, al, rfl, hn, _, ha⟩ := steps_of_rd h1
  exact RupTruth_calls hc hj ha hn
theorem RupProves_law (v0 v1 : Value) (W : World) (h0 : RdV W (.cons (.int .i64) (.cons (.sl (.sl (.int .i64))) .nil)) v0) (h1 : RdV W (.sl (.cons .bool (.cons (.sl (.int .i64)) .nil))) v1) : Calls Try.prog fathomlaw07_RupProves.id #[v0, v1] W fun e W' => e = .returned (.bool true) ∧ Grow W W' := by
  obtain ⟨k, q, j, d, hs, cs, rfl, hj, hd, hc⟩ := cnf_of_rdc h0
  obtain ⟨p, n, c, al, rfl, hn, _, ha⟩ := steps_of_rd h1
  exact RupProves_calls hc hj hd ha hn
theorem RupDoes_law (v0 v1 : Value) (W : World) (h0 : RdV W (.cons (.int .i64) (.cons (.sl (.sl (.int .i64))) .nil)) v0) (h1 : RdV W (.cons .bool (.cons (.sl (.int .i64)) .nil)) v1) : Calls Try.prog fathomlaw07_RupDoes.id #[v0, v1] W fun e W' => e = .returned (.bool true) ∧ Grow W W' := by
  obtain ⟨k, q, j, d, hs, cs, rfl, hj, hd, hc⟩ := cnf_of_rdc h0
  obtain ⟨b, p, n, c, l, rfl, hn, b1, ha⟩ := step1_of_rd h1
  exact RupDoes_calls hc hj hd ha hn b1

end Go.Proofs.Ytdaiolinnpligaa.W
