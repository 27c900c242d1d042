/- Layer 1: clauses in order, and what is resolved. -/
import Derived.Test.YtlpmapeojecenaaLit1
namespace Go.Proofs.Ytlpmapeojecenaa.W
open Go Go.Fw Go.RowKit Go.SoP Go.LiP
variable {w : World} {p q : Option Addr} {n c : Nat} {l : List Int}

theorem refTaut_ok (h : Vw (Value.int .i64) w p l) (hn : n = l.length) (hm : n ≤ maxLen) (hl : ∀ x ∈ l, litB x = true) : Calls Try.prog fathomref01_Taut.id #[.slice p n c] w fun e w' => e = .returned (.bool (taut l)) ∧ Grow w w' := by
  refine fathomref01_Taut.calls ?_
  have hm' := hm
  unfold maxLen at hm'
  refine ⟨fun I w' k => ∃ t : Nat, I = t ∧ t ≤ l.length ∧ k = l.length - t ∧ (∀ x ∈ l.take t, -x ∉ l) ∧ Grow w w', ⟨_, 0, rfl, Nat.zero_le _, rfl, by simp, Mod.refl w⟩, ?_⟩
  rintro I w1 k _ ⟨t, rfl, ht, rfl, ha, G⟩
  refine cnd_i (fun s => ?_) (fun s => ⟨?_, G⟩)
  · have s : t < l.length := by simp at s; omega
    refine (h.grow G).ix 0 (by omega) hn (by omega) fun a e => ⟨_, e, ?_⟩
    rw [Int.toNat_natCast]
    have hb := litB_bd (hl _ (mem_getD s))
    have ew : IntKind.i64.wrap (0 - l.getD t 0) = -(l.getD t 0) := by rw [wrap64_of (by omega) (by omega)]; omega
    rw [ew]
    refine (has_ok (h.grow G) hn hm _).mono ?_
    rintro e w2 ⟨rfl, g2⟩
    refine ⟨_, rfl, cnd_i (fun s2 => ⟨?_, G.trans g2⟩) (fun s2 => ⟨_, ?_, t + 1, wN (by omega) (by omega), by omega, rfl, ?_, G.trans g2⟩)⟩
    · have s2 : -(l.getD t 0) ∈ l := by simpa using s2
      have : taut l = true := List.any_eq_true.2 ⟨_, mem_getD s, by simpa using s2⟩
      rw [this]
    · omega
    · have s2 : -(l.getD t 0) ∉ l := by simpa using s2
      intro x hx
      rcases (mem_take_succ s).1 hx with e | e
      · exact ha x e
      · rw [e]; exact s2
  · have : t = l.length := by simp at s; omega
    subst this
    rw [List.take_length] at ha
    have : taut l = false := by
      rw [← Bool.not_eq_true]
      intro h
      obtain ⟨x, hx, hy⟩ := List.any_eq_true.1 h
      exact ha x hx (by simpa using hy)
    rw [this]

/-- One more row at the end of a row of one's own, that is younger than a world. -/
theorem app_fresh {W0 : World} {l : List Int} (o : OwI ty_int w p c l) (G : Grow W0 w) (fr : ∀ b, blk p = some b → W0.heap.size ≤ b) {m k : Nat} {news : List Int} (v : Vw (Value.int .i64) w q news) (hn : n = l.length) (hm : m = news.length) (hlen : l.length + news.length ≤ 1000000) {K : World → Option Addr → Nat → Nat → Prop}
    (hK : ∀ w' p' c', OwI ty_int w' p' c' (l ++ news) → Grow W0 w' → (∀ b, blk p' = some b → W0.heap.size ≤ b) → K w' p' (l ++ news).length c') :
    ∃ w', ∃ p' n' c', (Builtin.append_ #[ty_sl_int, ty_sl_int] ty_sl_int #[.slice p n c, .slice q m k]).run Try.prog w = .ok (.slice p' n' c') w' ∧ K w' p' n' c' := by
  refine o.appV sl_int v hn hm oneInt (by omega) fun w2 p2 c2 o2 m2 hp2 hs2 => ?_
  refine hK w2 p2 c2 o2 (G.then m2 fun b hb e => ?_) fun b hb => ?_
  · have := fr b e; omega
  · rcases hp2 with rfl | rfl
    · exact fr b hb
    · have := blk_some hb; have := G.size; omega

theorem ep0 (p : Option Addr) : p.map (·.add (0 * 1)) = p := by cases p <;> simp [Addr.add]
theorem Vw.takeV (h : Vw (Value.int .i64) w p l) {k : Nat} (hk : k ≤ l.length) : Vw (Value.int .i64) w p (l.take k) := by
  have := h.part (i := 0) (m := k) (by omega)
  rwa [ep0, List.drop_zero] at this

theorem refOrder_fr (h : Vw (Value.int .i64) w p l) (hn : n = l.length) (hm : n ≤ 100000) (hl : ∀ x ∈ l, litB x = true) : Calls Try.prog fathomref01_Order.id #[.slice p n c] w fun e w' => ∃ (q : Option Addr) (d : Nat), e = .returned (.slice q (norm l).length d) ∧ OwI ty_int w' q d (norm l) ∧ Grow w w' ∧ (∀ b, blk q = some b → w.heap.size ≤ b) := by
  refine fathomref01_Order.calls ?_
  intro n1 w1 h1
  have e1 := h1.num
  refine ⟨fun P N C I w' k => ∃ t : Nat, I = t ∧ t ≤ n ∧ k = n - t ∧ N = (ordN l t).length ∧ OwI ty_int w' P C (ordN l t) ∧ Grow w w' ∧ (∀ b, blk P = some b → w.heap.size ≤ b), ⟨_, 0, rfl, Nat.zero_le _, rfl, rfl, New.empty h1, h1.mod, fun b hb => by have := blk_some hb; omega⟩, ?_⟩
  rintro P N C I w2 k _ ⟨t, rfl, ht, rfl, rfl, o2, g2, f2⟩
  refine cnd_i (fun s => ?_) (fun s => ?_)
  · have s : t < n := by simpa using s
    have sl : t < l.length := by omega
    have hx := hl _ (mem_getD sl)
    have hol := norm_len_aux (c := l) t
    have hcap : (ordN l t).length ≤ C ∨ ordN l t = [] := by
      rcases o2.un with ⟨_, _, h⟩ | ⟨_, _, _, _, h, _⟩
      · exact .inr h
      · exact .inl h
    refine (h.grow g2).ix 0 (by omega) hn (by omega) fun a e => ⟨_, e, ?_⟩
    rw [Int.toNat_natCast]
    refine (has_ok o2.vw rfl (by unfold maxLen; omega) _).mono ?_
    rintro e w3 ⟨rfl, g3⟩
    have G3 := g2.trans g3
    have o3 := o2.grow g3
    have es : ordN l (t + 1) = if l.getD t 0 ∈ ordN l t then ordN l t else insN (ordN l t) (l.getD t 0) := rfl
    refine ⟨_, rfl, cnd_i (fun s2 => ?_) (fun s2 => ?_)⟩
    · have s2 : l.getD t 0 ∈ ordN l t := by simpa using s2
      rw [if_pos s2] at es
      refine ⟨_, ?_, t + 1, wN (by omega) (by omega), by omega, rfl, by rw [es], by rw [es]; exact o3, G3, f2⟩
      omega
    · have s2 : l.getD t 0 ∉ ordN l t := by simpa using s2
      rw [if_neg s2] at es
      have hom : ∀ y ∈ ordN l t, litB y = true := fun y hy => hl y (List.mem_of_mem_take ((ordN_isN (c := l) (k := t) (by omega)).mem y |>.1 hy))
      -- what follows the place
      have put : ∀ {w4 : World} {at_ : Nat}, Grow w w4 → at_ = posN (ordN l t) (l.getD t 0) → OwI ty_int w4 P C (ordN l t) →
          ∀ (n24 : Nat) (w25 : World), New (.cells #[] 3) w4 n24 w25 →
            slK P (ordN l t).length C 1 none (some (at_ : Int)) none fun s26_p s26_n s26_c =>
            ∃ w27 : World, ∃ r28_p : Option Addr, ∃ r28_n : Nat, ∃ r28_c : Nat, (Builtin.append_ #[26, 26] 26 #[.slice (some (Addr.mk n24 0 none)) 0 0, .slice s26_p s26_n s26_c]).run Try.prog w25 = .ok (.slice r28_p r28_n r28_c) w27 ∧
            ixK p n (t : Int) 1 fun a29 =>
            ∃ x30 : Int, w27.cell? a29 = some (.int .i64 x30) ∧
            ∀ (n31 : Nat) (w32 : World), New (.cells #[.int .i64 x30] 3) w27 n31 w32 →
            ∃ w33 : World, ∃ r34_p : Option Addr, ∃ r34_n : Nat, ∃ r34_c : Nat, (Builtin.append_ #[26, 26] 26 #[.slice r28_p r28_n r28_c, .slice (some (Addr.mk n31 0 none)) 1 1]).run Try.prog w32 = .ok (.slice r34_p r34_n r34_c) w33 ∧
            slK P (ordN l t).length C 1 (some (at_ : Int)) none none fun s35_p s35_n s35_c =>
            ∃ w36 : World, ∃ r37_p : Option Addr, ∃ r37_n : Nat, ∃ r37_c : Nat, (Builtin.append_ #[26, 26] 26 #[.slice r34_p r34_n r34_c, .slice s35_p s35_n s35_c]).run Try.prog w33 = .ok (.slice r37_p r37_n r37_c) w36 ∧
            ∃ k5, k5 < n - t ∧ ∃ t2 : Nat, IntKind.i64.wrap ((t : Int) + 1) = t2 ∧ t2 ≤ n ∧ k5 = n - t2 ∧ r37_n = (ordN l t2).length ∧ OwI ty_int w36 r37_p r37_c (ordN l t2) ∧ Grow w w36 ∧ (∀ b, blk r37_p = some b → w.heap.size ≤ b) := by
        intro w4 at_ g4 hat o4 n24 w25 h25
        have hp : at_ ≤ (ordN l t).length := by rw [hat]; exact posN_le _ _
        have hC : at_ ≤ C := by
          rcases hcap with h | h
          · omega
          · rw [h] at hp; simp at hp; omega
        have hins : insN (ordN l t) (l.getD t 0) = (ordN l t).take at_ ++ [l.getD t 0] ++ (ordN l t).drop at_ := by rw [hat]; rfl
        have e25 := h25.num
        have s4 := g4.size
        have O25 := o4.grow h25.mod
        refine slK_i 0 at_ C rfl rfl rfl (Nat.le_refl _) hC (Nat.zero_le _) ?_
        have ep : (if C = 0 then P else P.map (·.add (0 * 1))) = P := by rw [ep0]; split <;> rfl
        rw [ep, Nat.sub_zero, Nat.sub_zero]
        have ov : OwI ty_int w25 (some ⟨n24, 0, none⟩) 0 [] := New.empty h25
        have ht1 : ((ordN l t).take at_).length = at_ := by rw [List.length_take]; omega
        refine app_fresh (W0 := w4) ov h25.mod (fun b hb => by have := blk_some hb; omega) (Vw.takeV O25.vw hp) rfl ht1.symm (by rw [ht1]; simp; omega) fun w27 p27 c27 o27 g27 f27 => ?_
        rw [List.nil_append] at o27 ⊢
        refine ((h.grow (g4.trans g27))).ix 0 (by omega) hn (by omega) fun a e => ⟨_, e, ?_⟩
        rw [Int.toNat_natCast]
        intro n31 w32 h32
        have e32 := h32.num
        have v32 : Vw (Value.int .i64) w32 (some ⟨n31, 0, none⟩) [l.getD t 0] := by
          intro j hj
          have : j = 0 := by simpa using hj
          subst this
          exact ⟨_, rfl, cell_add h32.has rfl⟩
        have l32 : ((ordN l t).take at_ ++ [l.getD t 0]).length = at_ + 1 := by rw [List.length_append, ht1]; rfl
        refine app_fresh (W0 := w4) (o27.grow h32.mod) (g27.trans h32.mod) f27 v32 rfl rfl (by rw [ht1]; simp; omega) fun w33 p33 c33 o33 g33 f33 => ?_
        refine slK_i at_ (ordN l t).length C rfl rfl rfl (Nat.le_refl _) (by rcases hcap with h | h; omega; rw [h]; exact Nat.zero_le _) hp ?_
        have ld : ((ordN l t).drop at_).length = (ordN l t).length - at_ := List.length_drop
        have vd : Vw (Value.int .i64) w33 (if C = at_ then P else P.map (·.add (at_ * 1))) ((ordN l t).drop at_) := by
          by_cases e : at_ = (ordN l t).length
          · rw [e, List.drop_length]; exact Vw.nil
          · have hlt : (ordN l t).length ≤ C := by
              rcases hcap with h | h
              · exact h
              · rw [h] at hp e; simp at hp; simp [hp] at e
            rw [if_neg (by omega)]
            have := (o4.grow g33).vw.part (i := at_) (m := (ordN l t).length - at_) (by omega)
            rwa [List.take_of_length_le (by rw [ld]; exact Nat.le_refl _)] at this
        refine app_fresh (W0 := w4) o33 g33 f33 vd rfl ld.symm (by rw [l32, ld]; omega) fun w36 p36 c36 o36 g36 f36 => ?_
        rw [← hins] at o36 ⊢
        refine ⟨_, ?_, t + 1, wN (by omega) (by omega), by omega, rfl, by rw [es], by rw [es]; exact o36, g4.trans g36, fun b hb => by have := f36 b hb; omega⟩
        omega
      refine ⟨fun J w' k => ∃ j : Nat, J = j ∧ j ≤ (ordN l t).length ∧ k = (ordN l t).length - j ∧ (∀ i, i < j → bef ((ordN l t).getD i 0) (l.getD t 0) < 0) ∧ Grow w3 w', ⟨_, 0, rfl, Nat.zero_le _, rfl, fun i hi => by omega, Mod.refl w3⟩, ?_⟩
      rintro J w4 k _ ⟨j, rfl, hj, rfl, hlo, g4⟩
      have G4 := G3.trans g4
      have o4 := o3.grow g4
      refine cnd_i (fun r => ?_) (fun r => ?_)
      · have r : j < (ordN l t).length := by simpa using r
        refine o4.drew.ix 0 (by omega) rfl (by omega) fun a e => ⟨_, e, (h.grow G4).drew.ix 0 (by omega) hn (by omega) fun a e => ⟨_, e, ?_⟩⟩
        rw [Int.toNat_natCast, Int.toNat_natCast]
        refine (ahead_ok (hom _ (mem_getD r)) hx _).mono ?_
        rintro e w5 ⟨rfl, g5⟩
        refine ⟨_, rfl, cnd_i (fun r2 => ⟨_, ?_, j + 1, wN (by omega) (by omega), by omega, rfl, fun i hi => ?_, g4.drew.trans g5⟩) (fun r2 => ?_)⟩
        · omega
        · have r2 : bef ((ordN l t).getD j 0) (l.getD t 0) < 0 := by simpa using r2
          by_cases e : i = j
          · subst e; exact r2
          · exact hlo i (by omega)
        · have r2 : ¬ bef ((ordN l t).getD j 0) (l.getD t 0) < 0 := by simpa using r2
          exact put (G4.drew.trans g5) (posN_uniq hlo hj fun _ => r2) (o4.drew.grow g5)
      · have r : j = (ordN l t).length := by simp at r; omega
        exact put G4.drew (posN_uniq hlo hj fun h => by omega) o4.drew
  · have s : t = l.length := by simp at s; omega
    subst s
    exact ⟨P, C, rfl, o2, g2, f2⟩
theorem refOrder_ok (h : Vw (Value.int .i64) w p l) (hn : n = l.length) (hm : n ≤ 100000) (hl : ∀ x ∈ l, litB x = true) : Calls Try.prog fathomref01_Order.id #[.slice p n c] w fun e w' => ∃ (q : Option Addr) (d : Nat), e = .returned (.slice q (norm l).length d) ∧ OwI ty_int w' q d (norm l) ∧ Grow w w' := by
  refine (refOrder_fr h hn hm hl).mono ?_
  rintro e w' ⟨q, d, rfl, o, g, _⟩
  exact ⟨q, d, rfl, o, g⟩
end Go.Proofs.Ytlpmapeojecenaa.W
