/- Layer 16: which numbers stand in a list, for words. -/
import Derived.Test.YtambabpklfeaoaaAgm1
import Derived.Test.YtambabpklfeaoaaBits
namespace Go.Proofs.Ytambabpklfeaoaa.W
open Go Go.Fw Go.RowKit Go.TsP Go.AgP
theorem wN {x : Int} {i : Nat} (h : x = i) (hb : i < 9223372036854775808) : IntKind.i64.wrap x = i := by
  subst h
  exact wrap64_of (by omega) (by omega)

variable {w : World} {p q : Option Addr} {n c : Nat} {l : List Int}
theorem mem_take_succ {t : Nat} {x : Int} (h : t < l.length) : x ∈ l.take (t + 1) ↔ x ∈ l.take t ∨ x = l.getD t 0 := by
  rw [List.take_add_one, List.mem_append]
  have : l[t]? = some (l.getD t 0) := by simp [List.getD, h]
  rw [this]; simp
theorem mem_getD {t : Nat} (h : t < l.length) : l.getD t 0 ∈ l := by simp [List.getD, h]

theorem index_ok (h : Vw (Value.int .i64) w p l) (hn : n = l.length) (hm : n ≤ maxLen) (x : Int) : Calls Try.prog slices_Index_int_int.id #[.slice p n c, .int .i64 x] w fun e w' => ∃ r : Int, e = .returned (.int .i64 r) ∧ (r ≥ 0 ↔ x ∈ l) ∧ Grow w w' := by
  refine slices_Index_int_int.calls ?_
  unfold maxLen at hm
  refine ⟨fun I w' k => ∃ t : Nat, I = t ∧ t ≤ l.length ∧ k = l.length - t ∧ x ∉ l.take t ∧ Grow w w', ⟨_, 0, rfl, Nat.zero_le _, rfl, by simp, Mod.refl w⟩, ?_⟩
  rintro I w1 k _ ⟨t, rfl, ht, rfl, ha, G⟩
  refine cnd_i (fun s => ?_) (fun s => ⟨-1, rfl, ?_, G⟩)
  · have s : t < l.length := by simp at s; omega
    refine (h.grow G).ix 0 (by omega) hn (by omega) fun a e => ⟨_, e, ?_⟩
    rw [Int.toNat_natCast]
    refine cnd_i (fun s2 => ⟨(t : Int), rfl, ?_, G⟩) (fun s2 => ⟨_, ?_, t + 1, wN (by omega) (by omega), by omega, rfl, ?_, G⟩)
    · have s2 : x = l.getD t 0 := by simpa using s2
      exact ⟨fun _ => by rw [s2]; exact mem_getD s, fun _ => by omega⟩
    · omega
    · have s2 : x ≠ l.getD t 0 := by simpa using s2
      rw [mem_take_succ s]
      rintro (e | e)
      · exact ha e
      · exact s2 e
  · have : t = l.length := by simp at s; omega
    subst this
    rw [List.take_length] at ha
    exact ⟨fun h => by omega, fun h => absurd h ha⟩
theorem contains_ok (h : Vw (Value.int .i64) w p l) (hn : n = l.length) (hm : n ≤ maxLen) (x : Int) : Calls Try.prog slices_Contains_int_int.id #[.slice p n c, .int .i64 x] w fun e w' => e = .returned (.bool (decide (x ∈ l))) ∧ Grow w w' := by
  refine slices_Contains_int_int.calls ?_
  refine (index_ok h hn hm x).mono ?_
  rintro e w1 ⟨r, rfl, hr, g1⟩
  exact ⟨_, rfl, by rw [decide_eq_decide.2 hr], g1⟩

theorem has_ok (h : Vw (Value.int .i64) w p l) (hn : n = l.length) (hm : n ≤ maxLen) (x : Int) : Calls Try.prog fathomref01_Has.id #[.slice p n c, .int .i64 x] w fun e w' => e = .returned (.bool (decide (x ∈ l))) ∧ Grow w w' := by
  refine fathomref01_Has.calls ?_
  unfold maxLen at hm
  refine ⟨fun I w' k => ∃ t : Nat, I = t ∧ t ≤ l.length ∧ k = l.length - t ∧ x ∉ l.take t ∧ Grow w w', ⟨_, 0, rfl, Nat.zero_le _, rfl, by simp, Mod.refl w⟩, ?_⟩
  rintro I w1 k _ ⟨t, rfl, ht, rfl, ha, G⟩
  refine cnd_i (fun s => ?_) (fun s => ⟨?_, G⟩)
  · have s : t < l.length := by simp at s; omega
    refine (h.grow G).ix 0 (by omega) hn (by omega) fun a e => ⟨_, e, ?_⟩
    rw [Int.toNat_natCast]
    refine cnd_i (fun s2 => ⟨?_, G⟩) (fun s2 => ⟨_, ?_, t + 1, wN (by omega) (by omega), by omega, rfl, ?_, G⟩)
    · have s2 : l.getD t 0 = x := by simpa using s2
      rw [decide_eq_true (by rw [← s2]; exact mem_getD s)]
    · omega
    · have s2 : l.getD t 0 ≠ x := by simpa using s2
      rw [mem_take_succ s]
      rintro (e | e)
      · exact ha e
      · exact s2 e.symm
  · have : t = l.length := by simp at s; omega
    subst this
    rw [List.take_length] at ha
    rw [decide_eq_false ha]

theorem ow_capR {T : TypeId} {d : Nat} (h : OwI T w q d l) : l.length ≤ d := by
  rcases h.un with ⟨_, _, e⟩ | ⟨_, _, _, _, e, _⟩
  · rw [e]; exact Nat.zero_le _
  · exact e
end Go.Proofs.Ytambabpklfeaoaa.W
