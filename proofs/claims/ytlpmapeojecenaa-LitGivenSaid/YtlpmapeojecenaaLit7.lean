/- Layer 1: a formula where a literal is true. -/
import Derived.Test.YtlpmapeojecenaaLit6
namespace Go.Proofs.Ytlpmapeojecenaa.W
open Go Go.Fw Go.RowKit Go.SoP Go.LiP
variable {w : World} {p q : Option Addr} {n c : Nat} {l : List Int}

theorem sl_sl_int : slOk Try.prog ty_sl_sl_int ty_sl_int 24 = true := by kernel_rfl

/-- slices.IndexFunc over ints: the first place. -/
theorem idxF_ok (h : Vw (Value.int .i64) w p l) (hn : n = l.length) (hm : n ≤ maxLen) {fid : FuncId} {fv : Array Value} (he : entB Try.prog fid = true) (pr : Int → Bool)
    (hf : ∀ x ∈ l, ∀ w', Grow w w' → Calls Try.prog fid (#[] ++ #[.int .i64 x] ++ fv) w' fun e w2 => e = .returned (.bool (pr x)) ∧ Grow w' w2) :
    Calls Try.prog slices_IndexFunc_int_int.id #[.slice p n c, .func (.func fid) #[] fv] w fun e w' => Grow w w' ∧ ((e = .returned (.int .i64 (-1)) ∧ ∀ t, t < l.length → pr (l.getD t 0) = false) ∨
      ∃ t : Nat, e = .returned (.int .i64 t) ∧ t < l.length ∧ pr (l.getD t 0) = true ∧ ∀ j, j < t → pr (l.getD j 0) = false) := by
  refine slices_IndexFunc_int_int.calls ?_
  unfold maxLen at hm
  refine ⟨fun v w' k => ∃ t : Nat, v = t ∧ t ≤ l.length ∧ k = l.length - t ∧ (∀ j, j < t → pr (l.getD j 0) = false) ∧ Grow w w', ⟨_, 0, rfl, Nat.zero_le _, rfl, fun j hj => by omega, Mod.refl w⟩, ?_⟩
  rintro v w5 k _ ⟨t, rfl, ht, rfl, ha, G⟩
  refine cnd_i (fun q => ?_) (fun q => ⟨G, .inl ⟨rfl, fun j hj => ha j (by simp at q; omega)⟩⟩)
  have q' : t < l.length := by simp at q; omega
  refine (h.grow G).ix 0 (by omega) hn (by omega) fun a e => ⟨_, e, ?_⟩
  rw [he]
  show Calls _ _ _ _ _
  rw [Int.toNat_natCast]
  refine (hf _ (mem_getD q') w5 G).mono ?_
  rintro e w8 ⟨rfl, g8⟩
  refine ⟨_, rfl, cnd_i (fun s => ⟨G.trans g8, .inr ⟨t, rfl, q', s, ha⟩⟩) (fun s => ⟨_, ?_, t + 1, wN (by omega) (by omega), by omega, rfl, fun j hj => ?_, G.trans g8⟩)⟩
  · omega
  · by_cases e : j = t
    · subst e; exact s
    · exact ha j (by omega)

theorem filter_succ {f : Int → Bool} {t : Nat} (h : t < l.length) : (l.take (t + 1)).filter f = (l.take t).filter f ++ (if f (l.getD t 0) then [l.getD t 0] else []) := by
  rw [List.take_add_one, List.filter_append]
  have : l[t]? = some (l.getD t 0) := by simp [List.getD, h]
  rw [this]
  simp only [Option.toList_some, List.filter_cons, List.filter_nil]

/-- slices.DeleteFunc over ints. -/
theorem delete_ok (o : OwI ty_int w p c l) (hn : n = l.length) (hm : n ≤ 1000000) {fid : FuncId} {fv : Array Value} (he : entB Try.prog fid = true) (pr : Int → Bool)
    (hf : ∀ x ∈ l, ∀ w', Mod (Bk p) w w' → Calls Try.prog fid (#[] ++ #[.int .i64 x] ++ fv) w' fun e w2 => e = .returned (.bool (pr x)) ∧ Grow w' w2) :
    Calls Try.prog slices_DeleteFunc_int_int.id #[.slice p n c, .func (.func fid) #[] fv] w fun e w' => e = .returned (.slice p (l.filter fun x => !pr x).length c) ∧ OwI ty_int w' p c (l.filter fun x => !pr x) ∧ Mod (Bk p) w w' := by
  refine slices_DeleteFunc_int_int.calls ?_
  refine (idxF_ok o.vw hn (by unfold maxLen; omega) he pr fun x hx w' g => hf x hx w' (g.mono fun _ _ => False.elim)).mono ?_
  rintro e w1 ⟨g1, ⟨rfl, hno⟩ | ⟨t, rfl, ht, hpt, hlo⟩⟩
  · have : (l.filter fun x => !pr x) = l := by
      rw [List.filter_eq_self]
      intro x hx
      obtain ⟨j, hj, e⟩ := List.mem_iff_getElem.1 hx
      have := hno j hj
      simp only [List.getD, List.getElem?_eq_getElem hj, Option.getD_some, e] at this
      rw [this]; rfl
    rw [this]
    exact ⟨_, rfl, cnd_t rfl ⟨by rw [hn], o.grow g1, g1.mono fun _ _ => False.elim⟩⟩
  · have M1 : Mod (Bk p) w w1 := g1.mono fun _ _ => False.elim
    have hcl : l.length ≤ c := by
      rcases o.un with ⟨_, _, rfl⟩ | ⟨_, _, _, _, h, _⟩
      · simp at ht
      · exact h
    have f0 : (l.take t).filter (fun x => !pr x) = l.take t := by
      rw [List.filter_eq_self]
      intro x hx
      obtain ⟨j, hj, e⟩ := List.mem_iff_getElem.1 hx
      rw [List.length_take] at hj
      have h2 := hlo j (by omega)
      rw [List.getElem_take] at e
      simp only [List.getD, List.getElem?_eq_getElem (show j < l.length by omega), Option.getD_some, e] at h2
      rw [h2]; rfl
    have f1 : (l.take (t + 1)).filter (fun x => !pr x) = l.take t := by
      rw [filter_succ ht, f0, hpt]; simp
    refine ⟨_, rfl, cnd_f (by simp) ?_⟩
    have et : IntKind.i64.wrap ((t : Int) + 1) = ((t + 1 : Nat) : Int) := wN (by omega) (by omega)
    rw [et]
    refine ⟨fun I J w' k => ∃ (i j : Nat) (cur : List Int), I = i ∧ J = j ∧ i < j ∧ j ≤ n ∧ k = n - j ∧ cur.length = n ∧ (∀ x, j ≤ x → x < n → cur.getD x 0 = l.getD x 0) ∧ cur.take i = (l.take j).filter (fun x => !pr x) ∧ OwI ty_int w' p c cur ∧ Mod (Bk p) w w', ⟨_, t, t + 1, l, rfl, rfl, by omega, by omega, rfl, hn.symm, fun _ _ _ => rfl, f1.symm, o.grow g1, M1⟩, ?_⟩
    rintro I J w2 k _ ⟨i, j, cur, rfl, rfl, hij, hj, rfl, hc, hx, hd, o2, m2⟩
    refine cnd_i (fun s => ?_) (fun s => ?_)
    · have s : j < n := by simpa using s
      have sl : j < l.length := by omega
      refine o2.ix 0 (by omega) hc.symm (by omega) fun a e => ⟨_, e, ?_⟩
      rw [Int.toNat_natCast, hx j (Nat.le_refl _) s, he]
      show Calls _ _ _ _ _
      refine (hf _ (mem_getD sl) w2 m2).mono ?_
      rintro e w3 ⟨rfl, g3⟩
      have fs := filter_succ (f := fun x => !pr x) sl
      refine ⟨_, rfl, cnd_i (fun r => ?_) (fun r => ?_)⟩
      · rw [if_pos r] at fs
        refine (o2.grow g3).st (l.getD j 0) rfl rfl (by omega) hc.symm (by omega) fun w4 o4 m4 => ?_
        rw [Int.toNat_natCast] at o4
        refine ⟨_, ?_, i + 1, j + 1, _, wN (by omega) (by omega), wN (by omega) (by omega), by omega, by omega, rfl, by simpa using hc, fun x x1 x2 => ?_, ?_, o4, (m2.grow g3).trans m4⟩
        · omega
        · rw [getD_setI (by omega), if_neg (by omega)]
          exact hx x (by omega) x2
        · rw [take_set_succ (by omega), hd, fs]
      · rw [if_neg (by rw [r]; exact Bool.false_ne_true), List.append_nil] at fs
        refine ⟨_, ?_, i, j + 1, cur, rfl, wN (by omega) (by omega), by omega, by omega, rfl, hc, fun x x1 x2 => hx x (by omega) x2, by rw [hd, fs], o2.grow g3, m2.grow g3⟩
        omega
    · have s : j = n := by simp at s; omega
      have e0 : l.take j = l := List.take_of_length_le (by omega)
      rw [e0] at hd
      have hdl : (l.filter fun x => !pr x).length = i := by rw [← hd]; simp; omega
      refine slK_i i n c rfl rfl rfl (by omega) (by omega) (by omega) ?_
      rw [if_neg (by omega)]
      refine o2.clear sl_int int_zero (x := (0 : Int)) rfl rfl (by omega) (by omega) fun w3 o3 m3 => ?_
      refine slK_i 0 i c rfl rfl rfl (by omega) (by omega) (by omega) ?_
      rw [if_neg (by omega), Nat.sub_zero, Nat.sub_zero, ep0, hdl]
      rw [hd] at o3
      exact ⟨rfl, o3, m2.trans m3⟩

/-- A formula that grows: its variable, and its rows. -/
structure Out (W0 w : World) (nb : Nat) (k : Int) (P : Option Addr) (C : Nat) (hs : List Sl) (rows : List (List Int)) : Prop where
  o : OV (Value.int .i64) ty_sl_int w P C hs rows
  H : Has w nb #[.int .i64 k, .slice P hs.length C]
  G : Grow W0 w
  f : ∀ b, OV.foot P hs b → W0.heap.size ≤ b ∧ b ≠ nb
  nb : W0.heap.size ≤ nb
theorem Out.grow {W0 w' : World} {nb : Nat} {k : Int} {P : Option Addr} {C : Nat} {hs : List Sl} {rows : List (List Int)} (t : Out W0 w nb k P C hs rows) (g : Grow w w') : Out W0 w' nb k P C hs rows :=
  ⟨t.o.grow g, t.H.grow g, t.G.trans g, t.f, t.nb⟩

theorem Out.put {W0 : World} {nb : Nat} {k : Int} {P : Option Addr} {C : Nat} {hs : List Sl} {rows : List (List Int)} (t : Out W0 w nb k P C hs rows) {d : Nat} {row : List Int} (r : OwI ty_int w q d row) (rq : ∀ b, blk q = some b → W0.heap.size ≤ b ∧ b ≠ nb ∧ ¬ OV.foot P hs b)
    (hl : hs.length ≤ 1000000) (hr : row.length ≤ maxLen) {R : World → Prop} (hR : ∀ w' P' C' hs', Out W0 w' nb k P' C' hs' (rows ++ [row]) → hs'.length = hs.length + 1 → R w') :
    ∀ (n1 : Nat) (w1 : World), New (.cells #[.slice q row.length d] ty_sl_int) w n1 w1 → ∃ w2 : World, ∃ (P' : Option Addr) (N' C' : Nat), (Builtin.append_ #[ty_sl_sl_int, ty_sl_sl_int] ty_sl_sl_int #[.slice P hs.length C, .slice (some (Addr.mk n1 0 none)) 1 1]).run Try.prog w1 = .ok (.slice P' N' C') w2 ∧
      ∃ w3 : World, StoreAt ((Addr.mk nb 0 none).add 1) 0 [.slice P' N' C'] w2 w3 ∧ R w3 := by
  intro n1 w1 h1
  have t1 := t.grow h1.mod
  have e1 := h1.num
  have v1 : Vw Sl.v w1 (some ⟨n1, 0, none⟩) [⟨q, row.length, d⟩] := by
    intro j hj
    have : j = 0 := by simpa using hj
    subst this
    exact ⟨_, rfl, cell_add h1.has rfl⟩
  have rt : ∀ b, rfoot [⟨q, row.length, d⟩] b → blk q = some b := by
    rintro b ⟨s, hs, _, h⟩
    rw [List.mem_singleton] at hs
    subst hs
    exact h
  have szg := t1.G.size
  refine t1.o.app sl_sl_int (ns := [⟨q, row.length, d⟩]) (nrows := [row]) v1 (VR.one (r.grow h1.mod).vw rfl hr) rfl rfl (fun b hb e => (rq b (rt b hb)).2.2 (.inl e)) (by simp; omega) fun w2 P2 C2 o2 m2 hp2 hz2 => ?_
  have H2 : Has w2 nb #[.int .i64 k, .slice P hs.length C] := t1.H.keep m2 fun e => (t1.f nb (.inl e)).2 rfl
  have n1nb : nb < w1.heap.size := t1.H.lt
  refine store_f H2 rfl rfl fun w3 H3 m3 => ?_
  have f3 : ∀ b, OV.foot P2 (hs ++ [⟨q, row.length, d⟩]) b → W0.heap.size ≤ b ∧ b ≠ nb := by
    rintro b (e | e)
    · rcases hp2 with rfl | rfl
      · exact t1.f b (.inl e)
      · have := blk_some e; exact ⟨by omega, by omega⟩
    · rcases rfoot_app.1 e with e | e
      · exact t1.f b (.inr e)
      · have := rq b (rt b e); exact ⟨this.1, this.2.1⟩
  refine hR w3 P2 C2 _ ⟨o2.keep m3 fun b hb e => (f3 b hb).2 e, H3, ?_, f3, t1.nb⟩ (by simp)
  exact (t1.G.then m2 fun b hb e => by have := (t1.f b (.inl e)).1; omega).then m3 fun b hb e => by have := t1.nb; omega

/-- Which clauses are left, and how. -/
def givP (l : Int) (cs : List (List Int)) : List (List Int) := if litB l then (cs.filter fun c => !decide (l ∈ c)).map fun c => wo c (-l) else cs
theorem givP_succ {l : Int} {cs : List (List Int)} {t : Nat} (ht : t < cs.length) : givP l (cs.take (t + 1)) = givP l (cs.take t) ++ (if litB l && decide (l ∈ cs.getD t []) then [] else [(cs.getD t []).filter fun x => !(litB l && (x == -l))]) := by
  have : cs[t]? = some (cs.getD t []) := by simp [List.getD, ht]
  unfold givP
  cases hl : litB l
  · simp only [Bool.false_eq_true, if_false, Bool.false_and, Bool.not_false]
    rw [List.take_add_one, this, List.filter_eq_self.2 (fun _ _ => rfl)]; rfl
  · simp only [if_true, Bool.true_and]
    rw [List.take_add_one, List.filter_append, List.map_append, this]
    congr 1
    simp only [Option.toList_some, List.filter_cons, List.filter_nil]
    by_cases h : l ∈ cs.getD t []
    · rw [decide_eq_true h]; rfl
    · rw [decide_eq_false h]; rfl
theorem givP_len (l : Int) (cs : List (List Int)) : (givP l cs).length ≤ cs.length := by
  unfold givP
  split
  · rw [List.length_map]; exact List.length_filter_le _ _
  · exact Nat.le_refl _

theorem given1_ok {l : Int} (hl : -9223372036854775808 ≤ l ∧ l < 9223372036854775808) {nb : Nat} (h : Has w nb #[.int .i64 l]) (x : Int) : Calls Try.prog lit_Given_1.id #[.int .i64 x, .pointer (some ⟨nb, 0, none⟩)] w fun e w' => e = .returned (.bool (litB l && (x == -l))) ∧ Grow w w' := by
  refine lit_Given_1.calls ?_
  refine ⟨_, cell_of h rfl, (is_ok1 l w).mono ?_⟩
  rintro e w1 ⟨rfl, g1⟩
  refine ⟨_, rfl, cnd_i (fun s => ⟨_, cell_of (h.grow g1) rfl, ?_, g1⟩) (fun s => ⟨by rw [s]; rfl, g1⟩)⟩
  have := litB_bd s
  rw [s, wrap64_of (by omega) (by omega), Int.zero_sub]
  rfl
theorem given1_ent : entB Try.prog lit_Given_1.id = true := by kernel_rfl
end Go.Proofs.Ytlpmapeojecenaa.W
