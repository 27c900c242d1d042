/- Layer 12: what is left of what was learned, the level that is gone back to, and how many levels there are. -/
import Derived.Test.YtlpmapeojecenaaLearn8
namespace Go.Proofs.Ytlpmapeojecenaa.W
open Go Go.Fw Go.RowKit Go.SoP Go.LiP Go.LeP
variable {W0 w w' W u : World} {p q : Option Addr} {n c m d ns b1 b2 b3 nb : Nat} {tr : List As} {l ld : List Int} {s h : Int → Bool}

theorem Kn.keep {S : Nat → Prop} (k : Kn W0 w ns p n c tr b1 b2 b3 ld h) (m : Mod S w w') (h0 : ∀ b, S b → W0.heap.size ≤ b) (h1 : ¬ S ns) (h2 : ¬ S b1) (h3 : ¬ S b2) (h4 : ¬ S b3) : Kn W0 w' ns p n c tr b1 b2 b3 ld h := by
  obtain ⟨S, ⟨nb, s, M, hs⟩, ⟨nk, s2, K, hk, hi⟩, d1, d2, d3, f⟩ := k
  exact ⟨S.keep m h0 h1 h2, ⟨nb, s, M.keep m h3, hs⟩, ⟨nk, s2, K.keep m h4, hk, hi⟩, d1, d2, d3, f⟩

/-- What is left of a beginning of what was learned. -/
def sh (tr : List As) (ld : List Int) : List Int → List Int
  | [] => []
  | x :: t => x :: t.filter fun y => decide (0 < lv tr y) && !idle tr ld y
theorem sh_all : sh tr ld ld = shr tr ld := by cases ld <;> rfl
theorem sh_succ {k : List Int} {t : Nat} (h : t < k.length) : sh tr ld (k.take (t + 1)) = sh tr ld (k.take t) ++ (if t = 0 ∨ (decide (0 < lv tr (k.getD t 0)) && !idle tr ld (k.getD t 0)) = true then [k.getD t 0] else []) := by
  cases k with
  | nil => simp at h
  | cons x k =>
    cases t with
    | zero => simp [sh]
    | succ t =>
      have h' : t < k.length := by simpa using h
      have e : (x :: k).getD (t + 1) 0 = k.getD t 0 := by simp
      rw [e, List.take_succ_cons, List.take_succ_cons]
      show x :: _ = (x :: _) ++ _
      rw [filter_succ h', List.cons_append]
      congr 2
      by_cases hc : (decide (0 < lv tr (k.getD t 0)) && !idle tr ld (k.getD t 0)) = true
      · rw [if_pos hc, if_pos (.inr hc)]
      · rw [if_neg hc, if_neg (by rintro (e | e); omega; exact hc e)]
theorem sh_len (k : List Int) : (sh tr ld k).length ≤ k.length := by
  cases k with
  | nil => exact Nat.le_refl _
  | cons x t => simp [sh]; exact List.length_filter_le _ _

def SInv (w w17 : World) (n13 : Nat) (p : Option Addr) (n c : Nat) (tr : List As) (b n11 n16 : Nat) (ld : List Int) (P : Option Addr) (N C : Nat) (I : Int) (u : World) (z : Nat) : Prop :=
  ∃ (t : Nat) (h : Int → Bool), I = t ∧ t ≤ ld.length ∧ z = ld.length - t ∧ N = (sh tr ld (ld.take t)).length ∧ OwI ty_int u P C (sh tr ld (ld.take t)) ∧ (∀ b, blk P = some b → w17.heap.size ≤ b) ∧ Kn w u n13 p n c tr b n11 n16 ld h ∧ w17.heap.size ≤ u.heap.size

theorem learnShorten_ok (h : TV w p tr) (hn : n = tr.length) (hmay : mayT tr = true) (hq : Vw (Value.int .i64) w q ld) (hk : m = ld.length) (hx : m ≤ 100000) (hb : ∀ x ∈ ld, Br1 tr x) :
    Calls Try.prog learn_Shorten.id #[.slice p n c, .slice q m d] w fun e w' => ∃ (q2 : Option Addr) (d2 : Nat), e = .returned (.slice q2 (shr tr ld).length d2) ∧ OwI ty_int w' q2 d2 (shr tr ld) ∧ Grow w w' := by
  refine learn_Shorten.calls ?_
  obtain ⟨ok, hl⟩ := mayT_ok hmay
  refine (sound_ok h hn).mono ?_
  rintro e w1 ⟨rfl, g1⟩
  refine ⟨_, rfl, cnd_f (by rw [hmay]; rfl) ?_⟩
  refine (breaks_ok (h.grow g1) hn ok hl (hq.grow g1) hk (by unfold maxLen; omega) fun x hx => (hb x hx).isl).mono ?_
  rintro e w5 ⟨rfl, g5⟩
  refine ⟨_, rfl, cnd_f (by rw [brk_iff.2 hb]; rfl) ?_⟩
  have G5 := g1.trans g5
  refine (places_ok (h.grow G5) hn ok hl).mono ?_
  rintro e w9 ⟨b, rfl, M9, g9, fb⟩
  refine ⟨_, rfl, fun n11 w12 h12 n13 w14 h14 => ?_⟩
  have e11 := h12.num
  have e13 := h14.num
  have s5 := G5.size
  have s9 := g9.size
  have s12 := h12.size
  have s14 := h14.size
  have lb := M9.lt
  have S14 : Stu w w14 n13 p n c tr b n11 := ⟨h, hn, ok, hl, ((G5.trans g9).trans h12.mod).trans h14.mod, h14.has, (M9.grow h12.mod).grow h14.mod, by omega, by omega, by omega⟩
  have M14 : MS Try.prog ty_int ty_bool w14 n11 0 fun _ => false := (MS.new h12).grow h14.mod
  refine (add_ok S14 M14 hq hk (by omega) (fun x hx => (hb x hx).isl) 0).mono ?_
  rintro e w15 ⟨rfl, S15, nb15, s15, _, M15, hs15⟩
  refine ⟨rfl, fun n16 w17 h17 => ?_⟩
  have e16 := h17.num
  have s17 := h17.size
  have l15 := M15.lt
  have lb15 := S15.M.lt
  have ln15 := S15.h.lt
  have sG := S15.G.size
  have k17 : Kn w w17 n13 p n c tr b n11 n16 ld fun _ => false := by
    refine ⟨S15.grow h17.mod, ⟨nb15, s15, M15.grow h17.mod, fun x => ?_⟩, ⟨0, _, MK.new h17, Nat.zero_le _, fun x _ e => by simp at e⟩, by omega, by omega, by omega, by omega⟩
    rw [hs15 x, Bool.false_or]
    refine decide_eq_decide.2 ⟨fun h => h.1, fun h => ⟨h, fun e => ?_⟩⟩
    have := litB_bd (hb x h).isl
    exact this.1 e
  refine ⟨SInv w w17 n13 p n c tr b n11 n16 ld, ⟨_, 0, _, rfl, Nat.zero_le _, rfl, rfl, Ow.nil _ _ _, fun b hb => by simp [blk] at hb, k17, Nat.le_refl _⟩, ?_⟩
  rintro P N C I w23 z _ ⟨t, hh, rfl, ht, rfl, rfl, O, fr, K, z23⟩
  refine cnd_i (fun r => ?_) (fun r => ?_)
  · have r : t < ld.length := by simp at r; omega
    have hlen := sh_len (tr := tr) (ld := ld) (ld.take t)
    have hlt := List.length_take_le t ld
    refine (hq.grow K.S.G).ix 0 (by omega) hk (by omega) fun a e => ⟨_, e, ?_⟩
    rw [Int.toNat_natCast]
    have hB := hb _ (mem_getD r)
    have es := sh_succ (tr := tr) (ld := ld) r
    have lk23 := K.S.h.lt
    have app : ∀ {u : World} {hh : Int → Bool}, OwI ty_int u P C (sh tr ld (ld.take t)) → Kn w u n13 p n c tr b n11 n16 ld hh → w17.heap.size ≤ u.heap.size → (t = 0 ∨ (decide (0 < lv tr (ld.getD t 0)) && !idle tr ld (ld.getD t 0)) = true) → ∀ (n26 : Nat) (w27 : World), New (.cells #[.int .i64 (ld.getD t 0)] 3) u n26 w27 → 
        ∃ w28 : World, ∃ r29_p : Option Addr, ∃ r29_n : Nat, ∃ r29_c : Nat, (Builtin.append_ #[ty_sl_int, ty_sl_int] ty_sl_int #[.slice P (sh tr ld (ld.take t)).length C, .slice (some (Addr.mk n26 0 none)) 1 1]).run Try.prog w27 = .ok (.slice r29_p r29_n r29_c) w28 ∧ 
        ∃ k20, k20 < ld.length - t ∧ SInv w w17 n13 p n c tr b n11 n16 ld r29_p r29_n r29_c (IntKind.i64.wrap ((t : Int) + (1 : Int))) w28 k20 := by
      intro u hh O K zu hc n26 w27 h27
      rw [if_pos hc] at es
      have e26 := h27.num
      have s27 := h27.size
      refine (O.grow h27.mod).app1 sl_int _ h27.has rfl rfl oneInt (by omega) fun w28 p' c' o' m' hp' hs' => ?_
      refine ⟨_, ?_, t + 1, hh, wN (by omega) (by omega), by omega, rfl, by rw [es, List.length_append]; rfl, by rw [es]; exact o', fun b hb => ?_, (K.grow h27.mod).keep m' (fun b e => ?_) (fun e => ?_) (fun e => ?_) (fun e => ?_) (fun e => ?_), by omega⟩
      · omega
      · rcases hp' with rfl | rfl
        · exact fr b hb
        · have := blk_some hb; omega
      all_goals
        have := fr _ e
        omega
    have skip : ∀ {u : World} {hh : Int → Bool}, OwI ty_int u P C (sh tr ld (ld.take t)) → Kn w u n13 p n c tr b n11 n16 ld hh → w17.heap.size ≤ u.heap.size → ¬ (t = 0 ∨ (decide (0 < lv tr (ld.getD t 0)) && !idle tr ld (ld.getD t 0)) = true) → 
        ∃ k20, k20 < ld.length - t ∧ SInv w w17 n13 p n c tr b n11 n16 ld P (sh tr ld (ld.take t)).length C (IntKind.i64.wrap ((t : Int) + (1 : Int))) u k20 := by
      intro u hh O K zu hc
      rw [if_neg hc, List.append_nil] at es
      exact ⟨_, by omega, t + 1, hh, wN (by omega) (by omega), by omega, rfl, by rw [es], by rw [es]; exact O, fr, K, zu⟩
    refine cnd_i (fun r2 => app O K z23 (.inl (by simp at r2; omega))) (fun r2 => ?_)
    have r2 : t ≠ 0 := by intro e; subst e; simp at r2
    refine (level_ok K.S hB).mono ?_
    rintro e w30 ⟨rfl, g30⟩
    have s30 := g30.size
    refine ⟨_, rfl, cnd_i (fun r3 => ?_) (fun r3 => skip (O.grow g30) (K.grow g30) (by omega) fun e => by rcases e with e | e; exact r2 e; rw [Bool.and_eq_true] at e; rw [e.1] at r3; simp at r3)⟩
    refine (idleP_ok _ (K.grow g30) hB rfl).mono ?_
    rintro e w32 ⟨rfl, h2, k32, _, _, m32⟩
    have s32 := m32.size
    have O32 := (O.grow g30).keep m32 fun b hb (e : b = n16) => by have := fr b hb; omega
    refine ⟨_, rfl, cnd_i (fun r4 => app O32 k32 (by omega) (.inr ?_)) (fun r4 => skip O32 k32 (by omega) fun e => ?_)⟩
    · rw [Bool.and_eq_true]; exact ⟨r3, r4⟩
    · rcases e with e | e
      · exact r2 e
      · rw [Bool.and_eq_true] at e; rw [e.2] at r4; simp at r4
  · have r : t = ld.length := by simp at r; omega
    subst r
    rw [List.take_length, sh_all] at O ⊢
    exact ⟨_, _, rfl, O, K.S.G⟩

theorem refShorten_ok (h : TV w p tr) (hn : n = tr.length) (hmay : mayT tr = true) (hm : n ≤ 1000) (hc : n ≤ c) (hq : Vw (Value.int .i64) w q ld) (hk : m = ld.length) (hx : m ≤ 100000) (hb : ∀ x ∈ ld, Br1 tr x) :
    Calls Try.prog fathomref12_Shorten.id #[.slice p n c, .slice q m d] w fun e w' => ∃ (q2 : Option Addr) (d2 : Nat), e = .returned (.slice q2 (shr tr ld).length d2) ∧ OwI ty_int w' q2 d2 (shr tr ld) ∧ Grow w w' := by
  refine fathomref12_Shorten.calls ?_
  obtain ⟨ok, hl⟩ := mayT_ok hmay
  refine (refMay12_ok h hn hm hc fun i hi => by have := ok.le hi; omega).mono ?_
  rintro e w1 ⟨rfl, g1⟩
  refine ⟨_, rfl, cnd_f (by rw [hmay]; rfl) ?_⟩
  refine (refBreaks_ok (h.grow g1) hn (by unfold maxLen; omega) ok.isl (hq.grow g1) hk (by unfold maxLen; omega)).mono ?_
  rintro e w3 ⟨rfl, g3⟩
  refine ⟨_, rfl, cnd_f (by rw [brk_iff.2 hb]; rfl) fun n5 w6 h6 => ?_⟩
  have G3 := g1.trans g3
  have s3 := G3.size
  have e5 := h6.num
  refine ⟨fun P N C I u z => ∃ t : Nat, I = t ∧ t ≤ ld.length ∧ z = ld.length - t ∧ N = (sh tr ld (ld.take t)).length ∧ OwI ty_int u P C (sh tr ld (ld.take t)) ∧ (∀ b, blk P = some b → w.heap.size ≤ b) ∧ Grow w u,
    ⟨_, 0, rfl, Nat.zero_le _, rfl, rfl, New.empty h6, fun b hb => by have := blk_some hb; omega, G3.trans h6.mod⟩, ?_⟩
  rintro P N C I w12 z _ ⟨t, rfl, ht, rfl, rfl, O, fr, G⟩
  refine cnd_i (fun r => ?_) (fun r => ?_)
  · have r : t < ld.length := by simp at r; omega
    have hlen := sh_len (tr := tr) (ld := ld) (ld.take t)
    have hlt := List.length_take_le t ld
    have hB := hb _ (mem_getD r)
    have es := sh_succ (tr := tr) (ld := ld) r
    have rd : ∀ {u : World} {K : Addr → Prop}, Grow w u → (∀ a, u.cell? a = some (.int .i64 (ld.getD t 0)) → K a) → ixK q m (t : Int) 1 K := fun g hk' => (hq.grow g).ix 0 (by omega) hk (by omega) fun a e => hk' a (by rw [Int.toNat_natCast] at e; exact e)
    have app : ∀ {u : World}, Grow w12 u → (t = 0 ∨ (decide (0 < lv tr (ld.getD t 0)) && !idle tr ld (ld.getD t 0)) = true) → ∀ (n26 : Nat) (w27 : World), New (.cells #[.int .i64 (ld.getD t 0)] 3) u n26 w27 → 
        ∃ w28 : World, ∃ r29_p : Option Addr, ∃ r29_n : Nat, ∃ r29_c : Nat, (Builtin.append_ #[ty_sl_int, ty_sl_int] ty_sl_int #[.slice P (sh tr ld (ld.take t)).length C, .slice (some (Addr.mk n26 0 none)) 1 1]).run Try.prog w27 = .ok (.slice r29_p r29_n r29_c) w28 ∧ 
        ∃ k20, k20 < ld.length - t ∧ ∃ t2 : Nat, IntKind.i64.wrap ((t : Int) + (1 : Int)) = t2 ∧ t2 ≤ ld.length ∧ k20 = ld.length - t2 ∧ r29_n = (sh tr ld (ld.take t2)).length ∧ OwI ty_int w28 r29_p r29_c (sh tr ld (ld.take t2)) ∧ (∀ b, blk r29_p = some b → w.heap.size ≤ b) ∧ Grow w w28 := by
      intro u g hc n26 w27 h27
      rw [if_pos hc] at es
      have G' := (G.trans g).trans h27.mod
      have := G'.size
      refine ((O.grow g).grow h27.mod).app1 sl_int _ h27.has rfl rfl oneInt (by omega) fun w28 p' c' o' m' hp' hs' => ?_
      refine ⟨_, ?_, t + 1, wN (by omega) (by omega), by omega, rfl, by rw [es, List.length_append]; rfl, by rw [es]; exact o', fun b hb => ?_, G'.then m' fun x hx e => ?_⟩
      · omega
      · rcases hp' with rfl | rfl
        · exact fr b hb
        · have := blk_some hb; omega
      · have := fr x e; omega
    have skip : ∀ {u : World}, Grow w12 u → ¬ (t = 0 ∨ (decide (0 < lv tr (ld.getD t 0)) && !idle tr ld (ld.getD t 0)) = true) → 
        ∃ k20, k20 < ld.length - t ∧ ∃ t2 : Nat, IntKind.i64.wrap ((t : Int) + (1 : Int)) = t2 ∧ t2 ≤ ld.length ∧ k20 = ld.length - t2 ∧ (sh tr ld (ld.take t)).length = (sh tr ld (ld.take t2)).length ∧ OwI ty_int u P C (sh tr ld (ld.take t2)) ∧ (∀ b, blk P = some b → w.heap.size ≤ b) ∧ Grow w u := by
      intro u g hc
      rw [if_neg hc, List.append_nil] at es
      exact ⟨_, by omega, t + 1, wN (by omega) (by omega), by omega, rfl, by rw [es], by rw [es]; exact O.grow g, fr, G.trans g⟩
    refine cnd_i (fun r2 => rd G fun a e => ⟨_, e, app (Mod.refl _) (.inl (by simp at r2; omega))⟩) (fun r2 => rd G fun a e => ⟨_, e, ?_⟩)
    have r2 : t ≠ 0 := by intro e; subst e; simp at r2
    refine (Level12_ok (h.grow G) hn (by unfold maxLen; omega) ok hB).mono ?_
    rintro e w21 ⟨rfl, g21⟩
    refine ⟨_, rfl, cnd_i (fun r3 => rd (G.trans g21) fun a e => ⟨_, e, ?_⟩) (fun r3 => skip g21 fun e => by rcases e with e | e; exact r2 e; rw [Bool.and_eq_true] at e; rw [e.1] at r3; simp at r3)⟩
    refine (refIdle_ok ok hl hn hk (by unfold maxLen; omega) _ (h.grow (G.trans g21)) (hq.grow (G.trans g21)) hB rfl).mono ?_
    rintro e w25 ⟨rfl, g25⟩
    refine ⟨_, rfl, cnd_i (fun r4 => rd (G.trans (g21.trans g25)) fun a e => ⟨_, e, app (g21.trans g25) (.inr ?_)⟩) (fun r4 => skip (g21.trans g25) fun e => ?_)⟩
    · rw [Bool.and_eq_true]; exact ⟨r3, r4⟩
    · rcases e with e | e
      · exact r2 e
      · rw [Bool.and_eq_true] at e; rw [e.2] at r4; simp at r4
  · have r : t = ld.length := by simp at r; omega
    subst r
    rw [List.take_length, sh_all] at O ⊢
    exact ⟨_, _, rfl, O, G⟩

theorem imax_mx {k : List Int} {t : Nat} (h : t < k.length) : imax (mxL tr (k.take t)) (lv tr (k.getD t 0)) = mxL tr (k.take (t + 1)) := by
  rw [mxL_succ h]; rfl

theorem learnBack_ok (h : TV w p tr) (hn : n = tr.length) (hmay : mayT tr = true) (hq : Vw (Value.int .i64) w q ld) (hk : m = ld.length) (hx : m ≤ 100000) (hd : m ≤ d) (hb : ∀ x ∈ ld, Br1 tr x) :
    Calls Try.prog learn_Back.id #[.slice p n c, .slice q m d] w fun e w' => e = .returned (.int .i64 (if ld.isEmpty then -1 else mxL tr (ld.drop 1))) ∧ Grow w w' := by
  refine learn_Back.calls ?_
  obtain ⟨ok, hl⟩ := mayT_ok hmay
  refine (sound_ok h hn).mono ?_
  rintro e w1 ⟨rfl, g1⟩
  refine ⟨_, rfl, cnd_f (by rw [hmay]; rfl) (cnd_i (fun r => ?_) (fun r => ?_))⟩
  · have : ld = [] := List.eq_nil_of_length_eq_zero (by simp at r; omega)
    subst this
    exact ⟨rfl, g1⟩
  have hpos : 0 < ld.length := by
    rcases Nat.eq_zero_or_pos ld.length with e | e
    · rw [hk, e] at r; simp at r
    · exact e
  refine (breaks_ok (h.grow g1) hn ok hl (hq.grow g1) hk (by unfold maxLen; omega) fun x hx => (hb x hx).isl).mono ?_
  rintro e w3 ⟨rfl, g3⟩
  refine ⟨_, rfl, cnd_f (by rw [brk_iff.2 hb]; rfl) ?_⟩
  have G3 := g1.trans g3
  refine (places_ok (h.grow G3) hn ok hl).mono ?_
  rintro e w5 ⟨b, rfl, M5, g5, fb⟩
  refine ⟨_, rfl, slK_i 1 m d rfl rfl rfl (Nat.le_refl _) hd (by omega) ?_⟩
  have hie : ld.isEmpty = false := by cases ld <;> simp at hpos ⊢
  rw [hie]
  have G5 := G3.trans g5
  have ldl : (ld.drop 1).length = m - 1 := by rw [List.length_drop]; omega
  have V5 : Vw (Value.int .i64) w5 (if d = 1 then q else q.map (·.add (1 * 1))) (ld.drop 1) := by
    by_cases e : d = 1
    · have : ld.drop 1 = [] := List.eq_nil_of_length_eq_zero (by omega)
      rw [this]; exact Vw.nil
    · rw [if_neg e]
      have := (hq.grow G5).part (i := 1) (m := m - 1) (by omega)
      rwa [List.take_of_length_le (by omega)] at this
  refine ⟨fun L I u z => ∃ t : Nat, I = t ∧ t ≤ (ld.drop 1).length ∧ z = (ld.drop 1).length - t ∧ L = mxL tr ((ld.drop 1).take t) ∧ Grow w5 u, ⟨_, 0, rfl, Nat.zero_le _, rfl, rfl, Mod.refl _⟩, ?_⟩
  rintro L I w13 z _ ⟨t, rfl, ht, rfl, rfl, G⟩
  refine cnd_i (fun r => ?_) (fun r => ?_)
  · have r : t < (ld.drop 1).length := by simp at r ⊢; omega
    refine (V5.grow G).ix 0 (by omega) ldl.symm (by omega) fun a e => ⟨_, e, ?_⟩
    rw [Int.toNat_natCast]
    have hB := hb _ (List.mem_of_mem_drop (mem_getD r))
    have hbd := litB_bd hB.isl
    refine (amount12_ok (by omega) (by omega) w13).mono ?_
    rintro e w16 ⟨rfl, g16⟩
    refine ⟨_, rfl, w16, _, (M5.grow (G.trans g16)).look mapI_at (wf_am hB.isl), ?_⟩
    rw [atM_wrap hl hB.lt]
    refine (h.grow ((G5.trans G).trans g16)).ix hn _ rfl hB.lt fun a x C e1 e2 v => ⟨_, C.2.1, _, ?_, t + 1, wN (by omega) (by omega), by omega, rfl, ?_, G.trans g16⟩
    · omega
    · exact imax_mx r
  · have r : t = (ld.drop 1).length := by simp at r ht ⊢; omega
    subst r
    rw [List.take_length]
    exact ⟨rfl, G5.trans G⟩

theorem learnLevels_ok (h : TV w p tr) (hn : n = tr.length) (hmay : mayT tr = true) (hq : Vw (Value.int .i64) w q ld) (hk : m = ld.length) (hx : m ≤ 100000) (hb : ∀ x ∈ ld, Br1 tr x) :
    Calls Try.prog learn_Levels.id #[.slice p n c, .slice q m d] w fun e w' => ∃ v : Int, e = .returned (.int .i64 v) ∧ v ≤ m ∧ Grow w w' := by
  refine learn_Levels.calls ?_
  obtain ⟨ok, hl⟩ := mayT_ok hmay
  refine (sound_ok h hn).mono ?_
  rintro e w1 ⟨rfl, g1⟩
  refine ⟨_, rfl, cnd_f (by rw [hmay]; rfl) ?_⟩
  refine (places_ok (h.grow g1) hn ok hl).mono ?_
  rintro e w3 ⟨b, rfl, M3, g3, fb⟩
  refine ⟨_, rfl, fun n5 w6 h6 => ?_⟩
  have s1 := g1.size
  have s3 := g3.size
  have e5 := h6.num
  have lb := M3.lt
  refine ⟨fun I u z => ∃ (t nb : Nat) (s : Int → Bool), I = t ∧ t ≤ ld.length ∧ z = ld.length - t ∧ nb ≤ t ∧ MS Try.prog ty_int ty_bool u n5 nb s ∧ MI Try.prog ty_int ty_int u b tr.length (atM tr) ∧ Grow w u, ⟨_, 0, 0, _, rfl, Nat.zero_le _, rfl, Nat.le_refl _, MS.new h6, M3.grow h6.mod, (g1.trans g3).trans h6.mod⟩, ?_⟩
  rintro I w11 z _ ⟨t, nb, s, rfl, ht, rfl, hnb, M, Mb, G⟩
  refine cnd_i (fun r => ?_) (fun r => ?_)
  · have r : t < ld.length := by simp at r; omega
    refine (hq.grow G).ix 0 (by omega) hk (by omega) fun a e => ⟨_, e, ?_⟩
    rw [Int.toNat_natCast]
    have hB := hb _ (mem_getD r)
    have hbd := litB_bd hB.isl
    refine (amount12_ok (by omega) (by omega) w11).mono ?_
    rintro e w14 ⟨rfl, g14⟩
    have hlv := lv_bd ok hl hB
    refine ⟨_, rfl, w14, _, (Mb.grow g14).look mapI_at (wf_am hB.isl), cnd_i (fun r2 => ?_) (fun r2 => ?_)⟩
    · rw [atM_wrap hl hB.lt]
      refine (h.grow (G.trans g14)).ix hn _ rfl hB.lt fun a x C e1 e2 v => ⟨_, C.2.1, ?_⟩
      obtain ⟨w20, hr, M20, m20⟩ := (M.grow g14).put mapB_in (by unfold maxLen; omega) (a := (nth tr (atN tr (am (ld.getD t 0)))).lev) (wf64 (by unfold lv at hlv; omega) (by unfold lv at hlv; omega))
      refine ⟨w20, hr, _, ?_, t + 1, nb + 1, _, wN (by omega) (by omega), by omega, rfl, by omega, M20, (Mb.grow g14).keep m20 fun (e : b = n5) => by omega, Mod.fresh (G.trans g14) m20 (by omega)⟩
      omega
    · exact ⟨_, by omega, t + 1, nb, s, wN (by omega) (by omega), by omega, rfl, by omega, M.grow g14, Mb.grow g14, G.trans g14⟩
  · have r : t = ld.length := by simp at r; omega
    obtain ⟨c', hc', hr⟩ := M.len mapB_in 3
    exact ⟨_, hr, _, rfl, by omega, G⟩
end Go.Proofs.Ytlpmapeojecenaa.W
