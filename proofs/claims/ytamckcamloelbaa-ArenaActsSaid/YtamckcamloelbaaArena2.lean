/- Layer 2: an arena in memory; what is got, dropped, swapped. -/
import Derived.Test.YtamckcamloelbaaArena1
namespace Go.Proofs.Ytamckcamloelbaa.W
open Go Go.Fw Go.RowKit Go.ArP

theorem ixK_off {p : Option Addr} {n m o : Nat} {i : Int} {K : Addr → Prop} (h : ixK p n ((o : Int) + i) 1 K) (h0 : 0 ≤ i) (h1 : i < m) : ixK (p.map (·.add (o * 1))) m i 1 K := by
  obtain ⟨a, rfl, _, _, hk⟩ := h
  refine ⟨_, rfl, h0, h1, ?_⟩
  rw [Nat.mul_one, Nat.mul_one, add_add]
  rwa [Nat.mul_one, show ((o : Int) + i).toNat = o + i.toNat by omega] at hk

abbrev AS.it (x : AS) (i : Nat) : It := x.l.getD i ([], true)

theorem AS.bd {x : AS} {a : Int} {i : Nat} (h : At x.l a i) : 0 ≤ a ∧ a + ((x.it i).1.length + 2) ≤ (wds x.l).length ∧ (off x.l i : Int) = a := ⟨h.bd.1, h.bd.2, h.2.1⟩
theorem AS.oe {x : AS} {i : Nat} (h : i < x.l.length) : off x.l i + ((x.it i).1.length + 2) ≤ (wds x.l).length := off_end h
/-- Where the literals of an item stand. -/
def AS.lp (x : AS) (i : Nat) : Option Addr := if (x.it i).1.length = 0 then x.p else x.p.map (·.add ((off x.l i + 2) * 1))

theorem ARep.lits {w : World} {b : Nat} {x : AS} (h : ARep w b x) {i : Nat} (hi : i < x.l.length) : Vw (Value.int .i64) w (x.lp i) (x.it i).1 := by
  unfold AS.lp
  split
  · rename_i e
    rw [List.eq_nil_of_length_eq_zero e]
    exact Vw.nil
  · have := h.o.vw.part (i := off x.l i + 2) (m := (x.it i).1.length) (by have := AS.oe hi; omega)
    rwa [lits_at hi] at this

theorem lits_ok {w : World} {b : Nat} {x : AS} (h : ARep w b x) {a : Int} {i : Nat} (ha : At x.l a i) : Calls Try.prog arena_Arena_lits.id #[ptr b, .int .i64 a] w fun e w' => e = .returned (.slice (x.lp i) (x.it i).1.length (x.it i).1.length) ∧ w' = w := by
  refine arena_Arena_lits.calls ?_
  have hb := AS.bd ha
  have hc := h.o.cap
  unfold maxLen at hc
  refine ⟨_, rfl, _, _, _, cell_add h.me rfl, h.o.ix 0 (by omega) rfl (by omega) fun a3 e3 => ⟨_, e3, _, rfl, _, _, _, cell_add h.me rfl, ?_⟩⟩
  have e0 : (wds x.l).getD a.toNat 0 = ((x.it i).1.length : Int) := by
    rw [show a.toNat = off x.l i by have := ha.2.1; omega, word0 ha.1]
  rw [e0]
  have e1 : IntKind.i64.wrap (a + 2) = a + 2 := wrap64_of (by omega) (by omega)
  have e2 : IntKind.i64.wrap (a + 2 + ((x.it i).1.length : Int)) = a + 2 + (x.it i).1.length := wrap64_of (by omega) (by omega)
  rw [e1, e2]
  have hoff := ha.2.1
  have hcp : (wds x.l).length ≤ x.c := by
    rcases h.o.un with ⟨_, _, e⟩ | ⟨g, cur, _, _, h1, _⟩
    · rw [e]; exact Nat.zero_le _
    · exact h1
  refine slK_i (off x.l i + 2) (off x.l i + 2 + (x.it i).1.length) (off x.l i + 2 + (x.it i).1.length) (by simp only [Option.getD_some]; omega) (by simp only [Option.getD_some]; omega) (by simp only [Option.getD_some]; omega) (by omega) (by omega) (by omega) ⟨?_, rfl⟩
  have e3 : off x.l i + 2 + (x.it i).1.length - (off x.l i + 2) = (x.it i).1.length := by omega
  rw [e3]
  have e4 : (off x.l i + 2 + (x.it i).1.length = off x.l i + 2) = ((x.it i).1.length = 0) := by apply propext; omega
  simp only [e4]
  rfl

theorem get_ok {w : World} {b : Nat} {x : AS} (h : ARep w b x) (hw : (wds x.l).length ≤ 4194304) {a : Int} (ha : (Lit.int .i64 a).wf = true) :
    Calls Try.prog arena_Arena_Get.id #[ptr b, .int .i64 a] w fun e w' => ((∃ i, At x.l a i ∧ ∃ p c, e = .returned (.tuple #[.slice p (x.it i).1.length c, .bool true]) ∧ OwI ty_int w' p c (x.it i).1 ∧ ∀ k, blk p = some k → w.heap.size ≤ k) ∨ ((∀ i, ¬ At x.l a i) ∧ e = .returned (.tuple #[.slice none 0 0, .bool false]))) ∧ Grow w w' := by
  refine arena_Arena_Get.calls ?_
  refine (has_ok h ha).mono ?_
  rintro e w1 ⟨⟨r, rfl, hr⟩, rfl⟩
  refine ⟨_, rfl, cnd_i (fun t => ?_) (fun t => ?_)⟩ <;> simp only [Bool.not_eq_true', Bool.not_eq_false'] at t
  · refine ⟨.inr ⟨fun i hi => ?_, rfl⟩, Mod.refl w1⟩
    rw [hr.2 ⟨i, hi⟩] at t
    cases t
  · obtain ⟨i, hi⟩ := hr.1 t
    have hb := AS.bd hi
    refine ⟨_, rfl, _, _, _, cell_add h.me rfl, h.o.ix 0 (by omega) rfl (by omega) fun a3 e3 => ⟨_, e3, ?_⟩⟩
    have e0 : (wds x.l).getD a.toNat 0 = ((x.it i).1.length : Int) := by
      rw [show a.toNat = off x.l i by have := hi.2.1; omega, word0 hi.1]
    rw [e0]
    refine make_i sl_int int_zero (f := Value.int .i64) (x := 0) rfl (x.it i).1.length rfl (by omega) fun w7 o7 g7 z7 => ?_
    refine (lits_ok (h.grow g7) hi).mono ?_
    rintro e w9 ⟨rfl, rfl⟩
    refine ⟨_, _, _, rfl, ?_⟩
    have := o7.copy (t := 49) (ty := 3) (o := 0) (d := (x.it i).1.length) (k := (x.it i).1.length) sl_int ((h.grow g7).lits hi.1) rfl (by simp) oneInt (K := fun w11 => ∃ r12 : Int, True ∧ OwI ty_int w11 (some ⟨w1.heap.size, 0, none⟩) (x.it i).1.length (x.it i).1 ∧ Grow w1 w11) (fun w' o' m' hz => ⟨0, trivial, by simpa using o', g7.then m' fun k hk e => by simp [blk] at e; omega⟩)
    simp only [Nat.zero_mul, Option.map_some, add_at, Nat.add_zero] at this
    obtain ⟨w11, r, hrun, _, _, o11, g11⟩ := this
    refine ⟨w11, r, hrun, .inl ⟨i, hi, _, _, rfl, o11, fun k hk => ?_⟩, g11⟩
    simp [blk] at hk; omega

end Go.Proofs.Ytamckcamloelbaa.W
