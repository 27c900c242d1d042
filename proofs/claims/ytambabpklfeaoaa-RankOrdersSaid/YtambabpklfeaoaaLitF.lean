/- slices.IndexFunc and slices.ContainsFunc over ints. -/
import Derived.Test.YtambabpklfeaoaaGenRef
import Derived.Test.YtambabpklfeaoaaFwView
namespace Go.Proofs.Ytambabpklfeaoaa.W
open Go Go.Fw Go.RowKit

theorem getD_mem {l : List Int} {t : Nat} (h : t < l.length) (d : Int) : l.getD t d ∈ l := by
  simp [List.getD, h]

/-- slices.IndexFunc over ints. -/
theorem indexFunc_ok {p : Option Addr} {n c : Nat} {l : List Int} {w : World} (h : Vw (Value.int .i64) w p l) (hn : n = l.length) (hm : n ≤ maxLen) {fid : FuncId} {fv : Array Value} (he : entB Try.prog fid = true) (pr : Int → Bool)
    (hf : ∀ x ∈ l, ∀ w', Grow w w' → Calls Try.prog fid (#[] ++ #[.int .i64 x] ++ fv) w' fun e w2 => e = .returned (.bool (pr x)) ∧ Grow w' w2) :
    Calls Try.prog slices_IndexFunc_int_int.id #[.slice p n c, .func (.func fid) #[] fv] w fun e w' => (∃ r : Int, e = .returned (.int .i64 r) ∧ decide (r ≥ 0) = l.any pr) ∧ Grow w w' := by
  refine slices_IndexFunc_int_int.calls ?_
  unfold maxLen at hm
  refine ⟨fun v w' k => ∃ t : Nat, v = t ∧ t ≤ l.length ∧ k + t = l.length ∧ (l.take t).any pr = false ∧ Grow w w', ⟨l.length, 0, rfl, by omega, rfl, rfl, Mod.refl w⟩, ?_⟩
  rintro v w5 k _ ⟨t, rfl, ht, hk, ha, G⟩
  refine cnd_i (fun q => ?_) (fun q => ?_) <;> simp only [decide_eq_true_eq, decide_eq_false_iff_not] at q
  · have q' : t < l.length := by omega
    refine (h.grow G).ix 0 (by omega) hn q fun a e => ?_
    refine ⟨_, e, ?_⟩
    rw [he]
    show Calls _ _ _ _ _
    rw [Int.toNat_natCast]
    refine (hf _ (getD_mem q' 0) w5 G).mono ?_
    rintro e w8 ⟨rfl, g8⟩
    refine ⟨_, rfl, cnd_i (fun s => ?_) (fun s => ?_)⟩
    · refine ⟨⟨(t : Int), rfl, ?_⟩, G.trans g8⟩
      rw [decide_eq_true (by omega : (t : Int) ≥ 0)]
      exact (List.any_eq_true.2 ⟨_, getD_mem q' 0, s⟩).symm
    · refine ⟨k - 1, by omega, t + 1, ?_, by omega, by omega, ?_, G.trans g8⟩
      · rw [wrap64_of (by omega) (by omega)]; omega
      · rw [List.take_add_one, List.any_append, ha]
        have : l[t]? = some (l.getD t 0) := by simp [List.getD, q']
        simp only [this, Option.toList_some, List.any_cons, List.any_nil, s, Bool.or_false]
  · refine ⟨⟨-1, rfl, ?_⟩, G⟩
    have : t = l.length := by omega
    subst this
    rw [List.take_length] at ha
    rw [ha]; rfl

/-- slices.ContainsFunc over ints. -/
theorem containsFunc_ok {p : Option Addr} {n c : Nat} {l : List Int} {w : World} (h : Vw (Value.int .i64) w p l) (hn : n = l.length) (hm : n ≤ maxLen) {fid : FuncId} {fv : Array Value} (he : entB Try.prog fid = true) (pr : Int → Bool)
    (hf : ∀ x ∈ l, ∀ w', Grow w w' → Calls Try.prog fid (#[] ++ #[.int .i64 x] ++ fv) w' fun e w2 => e = .returned (.bool (pr x)) ∧ Grow w' w2) :
    Calls Try.prog slices_ContainsFunc_int_int.id #[.slice p n c, .func (.func fid) #[] fv] w fun e w' => e = .returned (.bool (l.any pr)) ∧ Grow w w' := by
  refine slices_ContainsFunc_int_int.calls ?_
  refine (indexFunc_ok h hn hm he pr hf).mono ?_
  rintro e w' ⟨⟨r, rfl, hr⟩, g⟩
  exact ⟨_, rfl, by rw [hr], g⟩

theorem args1 (v : Value) : (#[] ++ #[v] ++ #[] : Array Value) = #[v] := by simp

end Go.Proofs.Ytambabpklfeaoaa.W
