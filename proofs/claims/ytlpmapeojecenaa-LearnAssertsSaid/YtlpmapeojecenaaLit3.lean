/- Layer 1: Norm, Resolve and the value of a clause. -/
import Derived.Test.YtlpmapeojecenaaLit2
namespace Go.Proofs.Ytlpmapeojecenaa.W
open Go Go.Fw Go.RowKit Go.SoP Go.LiP
variable {w : World} {p q : Option Addr} {n c : Nat} {l : List Int}

/-- A list is put in order, and like ones taken out. -/
theorem sortc_ok (o : OwI ty_int w p c l) (hn : n = l.length) (hm : n ≤ 100000) (hl : ∀ x ∈ l, litB x = true) {K : Ending → World → Prop}
    (hK : ∀ w', OwI ty_int w' p c (norm l) → Mod (Bk p) w w' → K (.returned (.slice p (norm l).length c)) w') :
    Calls Try.prog slices_SortFunc_int_int.id #[.slice p n c, .func (.func lit_before.id) #[] #[]] w fun e w1 => e = .returned (.tuple #[]) ∧ Calls Try.prog slices_Compact_int_int.id #[.slice p n c] w1 K := by
  have X : Cx w p n l lit_before.id #[] bef := by
    refine ⟨hn, by omega, before_ent, fun x hx y hy w' _ => ?_, bef_ord⟩
    have : (#[] ++ #[Value.int .i64 x, .int .i64 y] ++ #[] : Array Value) = #[.int .i64 x, .int .i64 y] := by simp
    rw [this]
    exact before_ok (hl x hx) (hl y hy) w'
  refine (sort_ok X o).mono ?_
  rintro e w1 ⟨rfl, l1, o1, m1, p1, s1⟩
  refine ⟨rfl, (compact_ok o1 (by rw [hn, p1.length_eq]) (by omega)).mono ?_⟩
  rintro e w2 ⟨rfl, o2, m2⟩
  have : ddN l1 l1.length = norm l := (ddN_isN p1 s1).uniq (norm_isN l)
  rw [this] at o2 ⊢
  exact hK w2 o2 (m1.trans m2)

theorem clB_lit {l : List Int} (h : clB l = true) : ∀ x ∈ l, litB x = true := (clB_all h).1
theorem norm_lit (hl : ∀ x ∈ l, litB x = true) : ∀ x ∈ norm l, litB x = true := fun x hx => hl x (((norm_isN l).mem x).1 hx)
theorem nil_if {b : Bool} {l : List Int} : (if b then l else []).length = if b then l.length else 0 := by cases b <;> rfl

/-- What Norm answers. -/
theorem norm_ok (h : Vw (Value.int .i64) w p l) (hn : n = l.length) (hm : n ≤ maxLen) : Calls Try.prog lit_Norm.id #[.slice p n c] w fun e w' => ∃ (q : Option Addr) (d : Nat) (m : List Int), m = (if clB l then norm l else []) ∧ e = .returned (.tuple #[.slice q m.length d, .bool (clB l && taut l)]) ∧ OwI ty_int w' q d m ∧ Grow w w' := by
  refine lit_Norm.calls ?_
  refine (litCheck_ok h hn hm).mono ?_
  rintro e w1 ⟨rfl, g1⟩
  cases hc : clB l with
  | false => exact ⟨_, rfl, cnd_t rfl ⟨none, 0, [], rfl, rfl, Ow.nil _ _ _, g1⟩⟩
  | true =>
  have hll := clB_lit hc
  have hlen := (clB_all hc).2
  refine ⟨_, rfl, cnd_f rfl ((clone_ok (h.grow g1) hn (by omega)).mono ?_)⟩
  rintro e w2 ⟨q, d, rfl, o2, g2, f2⟩
  refine ⟨_, _, _, rfl, sortc_ok o2 rfl (by omega) hll fun w4 o4 m4 => ?_⟩
  have g4 : Grow w w4 := (g1.trans g2).then m4 fun b hb e => by
    have := f2 b e; have := g1.size; omega
  have hnl := norm_len l
  have nz : ∀ x ∈ l, x ≠ 0 := fun x hx => (litB_bd (hll x hx)).1
  have ta := taut_adj (norm_isN l) nz
  refine ⟨_, _, _, rfl, fun I w' k => ∃ t : Nat, I = t ∧ 1 ≤ t ∧ (∀ i, 0 < i → i < t → i < (norm l).length → (norm l).getD i 0 ≠ -((norm l).getD (i - 1) 0)) ∧ k = (norm l).length - t ∧ OwI ty_int w' q d (norm l) ∧ Grow w w', ⟨_, 1, rfl, Nat.le_refl _, fun i i1 i2 => by omega, rfl, o4, g4⟩, ?_⟩
  rintro I w5 k _ ⟨t, rfl, t1, ha, rfl, o5, g5⟩
  refine cnd_i (fun s => ?_) (fun s => ?_)
  · have s : t < (norm l).length := by simpa using s
    have e1 : IntKind.i64.wrap ((t : Int) - 1) = ((t - 1 : Nat) : Int) := wN (by omega) (by omega)
    rw [e1]
    refine o5.drew.ix 0 (by omega) rfl (by omega) fun a e => ⟨_, e, o5.drew.ix 0 (by omega) rfl (by omega) fun a e => ⟨_, e, ?_⟩⟩
    rw [Int.toNat_natCast, Int.toNat_natCast]
    have hb := litB_bd (norm_lit hll _ (mem_getD (l := norm l) (t := t - 1) (by omega)))
    have ew : IntKind.i64.wrap (0 - (norm l).getD (t - 1) 0) = -((norm l).getD (t - 1) 0) := by rw [wrap64_of (by omega) (by omega)]; omega
    rw [ew]
    refine cnd_i (fun s2 => ?_) (fun s2 => ⟨_, ?_, t + 1, wN (by omega) (by omega), by omega, fun i i1 i2 i3 => ?_, rfl, o5.drew, g5.drew⟩)
    · have s2 : (norm l).getD t 0 = -((norm l).getD (t - 1) 0) := by simpa using s2
      have : taut l = true := ta.2 ⟨t, by omega, s, s2⟩
      exact ⟨q, d, norm l, rfl, by rw [this]; rfl, o5.drew, g5.drew⟩
    · omega
    · have s2 : (norm l).getD t 0 ≠ -((norm l).getD (t - 1) 0) := by simpa using s2
      by_cases e : i = t
      · subst e; exact s2
      · exact ha i i1 (by omega) i3
  · have s : (norm l).length ≤ t := by simp at s; omega
    have : taut l = false := by
      rw [← Bool.not_eq_true]
      intro h
      obtain ⟨i, i1, i2, i3⟩ := ta.1 h
      exact ha i i1 (by omega) i2 i3
    exact ⟨q, d, norm l, rfl, by rw [this]; rfl, o5, g5⟩

def wo (l : List Int) (x : Int) : List Int := l.filter fun y => y != x
theorem wo_succ {t : Nat} {x : Int} (h : t < l.length) : wo (l.take (t + 1)) x = wo (l.take t) x ++ (if l.getD t 0 != x then [l.getD t 0] else []) := by
  unfold wo
  rw [List.take_add_one, List.filter_append]
  have : l[t]? = some (l.getD t 0) := by simp [List.getD, h]
  rw [this]
  simp only [Option.toList_some, List.filter_cons, List.filter_nil]
theorem wo_len {x : Int} : (wo l x).length ≤ l.length := List.length_filter_le _ _

theorem without_ok (h : Vw (Value.int .i64) w p l) (hn : n = l.length) (hm : n ≤ 100000) (x : Int) : Calls Try.prog fathomref01_Without.id #[.slice p n c, .int .i64 x] w fun e w' => ∃ (q : Option Addr) (d : Nat), e = .returned (.slice q (wo l x).length d) ∧ OwI ty_int w' q d (wo l x) ∧ Grow w w' ∧ (∀ b, blk q = some b → w.heap.size ≤ b) := by
  refine fathomref01_Without.calls ?_
  intro n1 w1 h1
  have e1 := h1.num
  refine ⟨fun P N C I w' k => ∃ t : Nat, I = t ∧ t ≤ n ∧ k = n - t ∧ N = (wo (l.take t) x).length ∧ OwI ty_int w' P C (wo (l.take t) x) ∧ Grow w w' ∧ (∀ b, blk P = some b → w.heap.size ≤ b), ⟨_, 0, rfl, Nat.zero_le _, rfl, rfl, New.empty h1, h1.mod, fun b hb => by have := blk_some hb; omega⟩, ?_⟩
  rintro P N C I w2 k _ ⟨t, rfl, ht, rfl, rfl, o2, g2, f2⟩
  refine cnd_i (fun s => ?_) (fun s => ?_)
  · have s : t < n := by simpa using s
    have sl : t < l.length := by omega
    have hw := wo_len (l := l.take t) (x := x)
    rw [List.length_take] at hw
    have es := wo_succ (x := x) sl
    refine (h.grow g2).ix 0 (by omega) hn (by omega) fun a e => ⟨_, e, ?_⟩
    rw [Int.toNat_natCast]
    refine cnd_i (fun s2 => ?_) (fun s2 => ?_)
    · rw [if_pos s2] at es
      refine (h.grow g2).ix 0 (by omega) hn (by omega) fun a e => ⟨_, e, ?_⟩
      rw [Int.toNat_natCast]
      intro n31 w32 h32
      have v32 : Vw (Value.int .i64) w32 (some ⟨n31, 0, none⟩) [l.getD t 0] := by
        intro j hj
        have : j = 0 := by simpa using hj
        subst this
        exact ⟨_, rfl, cell_add h32.has rfl⟩
      refine app_fresh (W0 := w) (o2.grow h32.mod) (g2.trans h32.mod) f2 v32 rfl rfl (by simp; omega) fun w33 p33 c33 o33 g33 f33 => ?_
      refine ⟨_, ?_, t + 1, wN (by omega) (by omega), by omega, rfl, by rw [es], by rw [es]; exact o33, g33, f33⟩
      omega
    · rw [if_neg (by rw [s2]; exact Bool.false_ne_true), List.append_nil] at es
      refine ⟨_, ?_, t + 1, wN (by omega) (by omega), by omega, rfl, by rw [es], by rw [es]; exact o2, g2, f2⟩
      omega
  · have s : t = l.length := by simp at s; omega
    subst s
    rw [List.take_length] at o2 ⊢
    exact ⟨P, C, rfl, o2, g2, f2⟩

/-- What Resolve tells: an error, or what is resolved. -/
def resE (a b : List Int) (v : Int) : Int := if clB a = false ∨ clB b = false ∨ v < 1 ∨ v > 1048576 then 1 else if v ∉ a ∨ -v ∉ b then 4 else 0
def resL (a b : List Int) (v : Int) : List Int := if resE a b v = 0 then norm (wo a v ++ wo b (-v)) else []

theorem resolve_ok {a b : List Int} {m d : Nat} (h : Vw (Value.int .i64) w p a) (hn : n = a.length) (hm : n ≤ maxLen) (h2 : Vw (Value.int .i64) w q b) (hn2 : m = b.length) (hm2 : m ≤ maxLen) (v : Int) :
    Calls Try.prog lit_Resolve.id #[.slice p n c, .slice q m d, .int .i64 v] w fun e w' => ∃ (r : Option Addr) (k : Nat), e = .returned (.tuple #[.slice r (resL a b v).length k, .int .i64 (resE a b v)]) ∧ OwI ty_int w' r k (resL a b v) ∧ Grow w w' := by
  refine lit_Resolve.calls ?_
  have bad : ∀ {w' : World} {z : Int}, Grow w w' → resE a b v = z → z ≠ 0 → ∃ (r : Option Addr) (k : Nat), Ending.returned (.tuple #[.slice none 0 0, .int .i64 z]) = .returned (.tuple #[.slice r (resL a b v).length k, .int .i64 (resE a b v)]) ∧ OwI ty_int w' r k (resL a b v) ∧ Grow w w' := by
    intro w' z g hz h0
    have : resL a b v = [] := by unfold resL; rw [if_neg (by rw [hz]; exact h0)]
    rw [this, hz]
    exact ⟨none, 0, rfl, Ow.nil _ _ _, g⟩
  refine (litCheck_ok h hn hm).mono ?_
  rintro e w1 ⟨rfl, g1⟩
  cases ha : clB a with
  | false => exact ⟨_, rfl, cnd_t rfl (bad g1 (by unfold resE; rw [if_pos (.inl ha)]) (by decide))⟩
  | true =>
  refine ⟨_, rfl, cnd_f rfl ((litCheck_ok (h2.grow g1) hn2 hm2).mono ?_)⟩
  rintro e w2 ⟨rfl, g2⟩
  have G2 := g1.trans g2
  cases hb : clB b with
  | false => exact ⟨_, rfl, cnd_t rfl (bad G2 (by unfold resE; rw [if_pos (.inr (.inl hb))]) (by decide))⟩
  | true =>
  refine ⟨_, rfl, cnd_f rfl (cnd_i (fun s => bad G2 (by unfold resE; rw [if_pos (.inr (.inr (.inl (by simpa using s))))]) (by decide)) (fun s => cnd_i (fun s2 => bad G2 (by unfold resE; rw [if_pos (.inr (.inr (.inr (by simpa using s2))))]) (by decide)) (fun s2 => ?_)))⟩
  have s : ¬ v < 1 := by simpa using s
  have s2 : ¬ v > 1048576 := by simpa using s2
  have hE : resE a b v = if v ∉ a ∨ -v ∉ b then 4 else 0 := by unfold resE; rw [if_neg (by rw [ha, hb]; simp; omega)]
  have ew : IntKind.i64.wrap (0 - v) = -v := by rw [wrap64_of (by omega) (by omega)]; omega
  rw [ew]
  refine (contains_ok (h.grow G2) hn hm v).mono ?_
  rintro e w3 ⟨rfl, g3⟩
  refine ⟨_, rfl, cnd_i (fun s3 => bad (G2.trans g3) (by rw [hE, if_pos (.inl (by simpa using s3))]) (by decide)) (fun s3 => ?_)⟩
  refine (contains_ok (h2.grow (G2.trans g3)) hn2 hm2 (-v)).mono ?_
  rintro e w4 ⟨rfl, g4⟩
  have G4 := (G2.trans g3).trans g4
  refine ⟨_, rfl, cnd_i (fun s4 => bad G4 (by rw [hE, if_pos (.inr (by simpa using s4))]) (by decide)) (fun s4 => ?_)⟩
  have s3 : v ∈ a := by simpa using s3
  have s4 : -v ∈ b := by simpa using s4
  have hE0 : resE a b v = 0 := by rw [hE, if_neg (by simp [s3, s4])]
  have hL : resL a b v = norm (wo a v ++ wo b (-v)) := by unfold resL; rw [if_pos hE0]
  rw [hE0, hL]
  have la := (clB_all ha).2
  have lb := (clB_all hb).2
  refine ⟨fun P N C I w' k => ∃ t : Nat, I = t ∧ t ≤ n ∧ k = n - t ∧ N = (wo (a.take t) v).length ∧ OwI ty_int w' P C (wo (a.take t) v) ∧ Grow w w' ∧ (∀ b, blk P = some b → w.heap.size ≤ b), ⟨_, 0, rfl, Nat.zero_le _, rfl, rfl, Ow.nil _ _ _, G4, fun b hb => by simp [blk] at hb⟩, ?_⟩
  rintro P N C I w5 k _ ⟨t, rfl, ht, rfl, rfl, o5, g5, f5⟩
  have hw := wo_len (l := a.take t) (x := v)
  rw [List.length_take] at hw
  refine cnd_i (fun r => ?_) (fun r => ?_)
  · have r : t < n := by simpa using r
    have sl : t < a.length := by omega
    have es := wo_succ (x := v) sl
    refine (h.grow g5).ix 0 (by omega) hn (by omega) fun a' e => ⟨_, e, ?_⟩
    rw [Int.toNat_natCast]
    refine cnd_i (fun s2 => ?_) (fun s2 => ?_)
    · rw [if_pos s2] at es
      intro n31 w32 h32
      have v32 : Vw (Value.int .i64) w32 (some ⟨n31, 0, none⟩) [a.getD t 0] := by
        intro j hj
        have : j = 0 := by simpa using hj
        subst this
        exact ⟨_, rfl, cell_add h32.has rfl⟩
      refine app_fresh (W0 := w) (o5.grow h32.mod) (g5.trans h32.mod) f5 v32 rfl rfl (by simp; omega) fun w33 p33 c33 o33 g33 f33 => ?_
      refine ⟨_, ?_, t + 1, wN (by omega) (by omega), by omega, rfl, by rw [es], by rw [es]; exact o33, g33, f33⟩
      omega
    · rw [if_neg (by rw [s2]; exact Bool.false_ne_true), List.append_nil] at es
      refine ⟨_, ?_, t + 1, wN (by omega) (by omega), by omega, rfl, by rw [es], by rw [es]; exact o5, g5, f5⟩
      omega
  · have r : t = a.length := by simp at r; omega
    subst r
    rw [List.take_length] at o5 ⊢
    clear hw
    have hwa := wo_len (l := a) (x := v)
    refine ⟨fun P N C I w' k => ∃ t : Nat, I = t ∧ t ≤ m ∧ k = m - t ∧ N = (wo a v ++ wo (b.take t) (-v)).length ∧ OwI ty_int w' P C (wo a v ++ wo (b.take t) (-v)) ∧ Grow w w' ∧ (∀ b, blk P = some b → w.heap.size ≤ b), ⟨_, 0, rfl, Nat.zero_le _, rfl, by simp [wo], by simpa [wo] using o5, g5, f5⟩, ?_⟩
    clear o5 g5 f5
    rintro P N C I w5 k _ ⟨t, rfl, ht, rfl, rfl, o5, g5, f5⟩
    have hw := wo_len (l := b.take t) (x := -v)
    rw [List.length_take] at hw
    refine cnd_i (fun r => ?_) (fun r => ?_)
    · have r : t < m := by simpa using r
      have sl : t < b.length := by omega
      have es := wo_succ (x := -v) sl
      refine (h2.grow g5).ix 0 (by omega) hn2 (by omega) fun a e => ⟨_, e, ?_⟩
      rw [Int.toNat_natCast]
      refine cnd_i (fun s2 => ?_) (fun s2 => ?_)
      · rw [if_pos s2] at es
        intro n31 w32 h32
        have v32 : Vw (Value.int .i64) w32 (some ⟨n31, 0, none⟩) [b.getD t 0] := by
          intro j hj
          have : j = 0 := by simpa using hj
          subst this
          exact ⟨_, rfl, cell_add h32.has rfl⟩
        refine app_fresh (W0 := w) (o5.grow h32.mod) (g5.trans h32.mod) f5 v32 rfl rfl (by simp; omega) fun w33 p33 c33 o33 g33 f33 => ?_
        rw [List.append_assoc, ← es] at o33 ⊢
        refine ⟨_, ?_, t + 1, wN (by omega) (by omega), by omega, rfl, rfl, o33, g33, f33⟩
        omega
      · rw [if_neg (by rw [s2]; exact Bool.false_ne_true), List.append_nil] at es
        refine ⟨_, ?_, t + 1, wN (by omega) (by omega), by omega, rfl, by rw [es], by rw [es]; exact o5, g5, f5⟩
        omega
    · have r : t = b.length := by simp at r; omega
      subst r
      rw [List.take_length] at o5 ⊢
      have hwb := wo_len (l := b) (x := -v)
      have hlit : ∀ x ∈ wo a v ++ wo b (-v), litB x = true := by
        intro x hx
        rcases List.mem_append.1 hx with h | h
        · exact clB_lit ha x ((List.mem_filter.1 h).1)
        · exact clB_lit hb x ((List.mem_filter.1 h).1)
      refine sortc_ok o5 rfl (by simp; omega) hlit fun w6 o6 m6 => ?_
      exact ⟨_, _, _, rfl, _, _, rfl, o6, g5.then m6 fun b hb e => by have := f5 b e; omega⟩
end Go.Proofs.Ytlpmapeojecenaa.W
