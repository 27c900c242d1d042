/- Layer 19: squares of bools. -/
import Derived.Test.YtambabpklfeaoaaRank5
namespace Go.Proofs.Ytambabpklfeaoaa.W
open Go Go.Fw Go.RowKit

/-- Is a list of rows a square? -/
def sqB (rows : List (List Bool)) : Bool := decide (rows.length ≤ 40) && rows.all fun r => decide (r.length = rows.length)

theorem squared1_ent : entB Try.prog rank_squared_1.id = true := by kernel_rfl

theorem getDrow_mem {rows : List (List Bool)} {t : Nat} (h : t < rows.length) : rows.getD t [] ∈ rows := by
  simp [List.getD, h]

theorem squared_ok {w : World} {p : Option Addr} {n c : Nat} {hs : List Sl} {rows : List (List Bool)} (h : V2 Value.bool w p hs rows) (hn : n = rows.length) (hm : n ≤ maxLen) :
    Calls Try.prog rank_squared.id #[.slice p n c] w fun e w' => e = .returned (.bool (sqB rows)) ∧ Grow w w' := by
  refine rank_squared.calls ?_
  unfold maxLen at hm
  intro n1 w2 h1
  have H := h1.has
  refine ⟨_, _, _, cell_of H rfl, cnd_i (fun q => ?_) (fun q => ⟨?_, h1.mod⟩)⟩ <;> simp only [decide_eq_true_eq, decide_eq_false_iff_not] at q
  · refine ⟨_, _, _, cell_of H rfl, ?_⟩
    obtain ⟨fid, hfid⟩ : ∃ fid : FuncId, fid = rank_squared_1.id := ⟨_, rfl⟩
    have he : entB Try.prog fid = true := hfid ▸ squared1_ent
    have cf : Calls Try.prog slices_ContainsFunc_bool_bool.id #[.slice p n c, .func (.func fid) #[] #[.pointer (some ⟨n1, 0, none⟩)]] w2 fun e w' => e = .returned (.bool (!rows.all fun r => decide (r.length = rows.length))) ∧ Grow w2 w' := by
      refine slices_ContainsFunc_bool_bool.calls ?_
      have ix : Calls Try.prog slices_IndexFunc_bool_bool.id #[.slice p n c, .func (.func fid) #[] #[.pointer (some ⟨n1, 0, none⟩)]] w2 fun e w' => (∃ r : Int, e = .returned (.int .i64 r) ∧ decide (r ≥ 0) = !rows.all fun r => decide (r.length = rows.length)) ∧ Grow w2 w' := by
        refine slices_IndexFunc_bool_bool.calls ?_
        refine ⟨fun v w' k => ∃ t : Nat, v = t ∧ t ≤ rows.length ∧ k + t = rows.length ∧ (∀ j, j < t → (rows.getD j []).length = rows.length) ∧ Grow w2 w', ⟨rows.length, 0, rfl, by omega, rfl, fun j hj => by omega, Mod.refl _⟩, ?_⟩
        rintro v w5 k _ ⟨t, rfl, ht, hk, ha, G⟩
        refine cnd_i (fun s => ?_) (fun s => ?_) <;> simp only [decide_eq_true_eq, decide_eq_false_iff_not] at s
        · have ht' : t < rows.length := by omega
          refine ((h.grow h1.mod).grow G).ix (by omega) hn s fun a sl e _ hl _ hv => ?_
          refine ⟨_, _, _, e, ?_⟩
          rw [he]
          refine cnd_t (b := true) rfl ?_
          rw [Int.toNat_natCast] at hl
          have ea : (#[] ++ #[Value.slice sl.p sl.n sl.c] ++ #[.pointer (some ⟨n1, 0, none⟩)] : Array Value) = #[.slice sl.p sl.n sl.c, .pointer (some ⟨n1, 0, none⟩)] := by simp
          rw [ea, hfid]
          refine rank_squared_1.calls ?_
          refine ⟨_, _, _, cell_of (H.grow G) rfl, _, rfl, cnd_i (fun b => ?_) (fun b => ?_)⟩
          · have b : (sl.n : Int) ≠ n := by simpa using b
            refine ⟨⟨(t : Int), rfl, ?_⟩, G⟩
            rw [decide_eq_true (by omega : (t : Int) ≥ 0)]
            have : (rows.all fun r => decide (r.length = rows.length)) = false := by
              rw [← Bool.not_eq_true, List.all_eq_true]
              intro hall
              have := of_decide_eq_true (hall _ (getDrow_mem ht'))
              omega
            rw [this]; rfl
          · have b : (sl.n : Int) = n := by simpa using b
            refine ⟨k - 1, by omega, t + 1, ?_, by omega, by omega, fun j hj => ?_, G⟩
            · rw [wrap64_of (by omega) (by omega)]; omega
            · by_cases e : j = t
              · subst e; omega
              · exact ha j (by omega)
        · refine ⟨⟨-1, rfl, ?_⟩, G⟩
          have : (rows.all fun r => decide (r.length = rows.length)) = true := by
            rw [List.all_eq_true]
            intro r hr
            obtain ⟨j, hj⟩ := List.getElem?_of_mem hr
            have hl := (List.getElem?_eq_some_iff.1 hj).1
            have := ha j (by omega)
            have e : rows.getD j [] = r := by simp [List.getD, hj]
            rw [e] at this
            exact decide_eq_true this
          rw [this]; rfl
      refine ix.mono ?_
      rintro e w' ⟨⟨r, rfl, hr⟩, g⟩
      exact ⟨_, rfl, by rw [hr], g⟩
    rw [hfid] at cf
    refine cf.mono ?_
    rintro e w5 ⟨rfl, g5⟩
    refine ⟨_, rfl, ?_, h1.mod.trans g5⟩
    unfold sqB
    rw [decide_eq_true (by omega : rows.length ≤ 40), Bool.not_not, Bool.true_and]
  · unfold sqB
    rw [decide_eq_false (by omega : ¬ rows.length ≤ 40)]; rfl

theorem refSquare_ok {w : World} {p : Option Addr} {n c : Nat} {hs : List Sl} {rows : List (List Bool)} (h : V2 Value.bool w p hs rows) (hn : n = rows.length) (hm : n ≤ maxLen) :
    Calls Try.prog fathomref19_Square.id #[.slice p n c] w fun e w' => e = .returned (.bool (sqB rows)) ∧ Grow w w' := by
  refine fathomref19_Square.calls ?_
  unfold maxLen at hm
  refine ⟨fun v w' k => ∃ t : Nat, v = t ∧ t ≤ rows.length ∧ k + t = rows.length ∧ (∀ j, j < t → (rows.getD j []).length = rows.length) ∧ Grow w w', ⟨rows.length, 0, rfl, by omega, rfl, fun j hj => by omega, Mod.refl _⟩, ?_⟩
  rintro v w5 k _ ⟨t, rfl, ht, hk, ha, G⟩
  refine cnd_i (fun s => ?_) (fun s => ⟨?_, G⟩) <;> simp only [decide_eq_true_eq, decide_eq_false_iff_not] at s
  · have ht' : t < rows.length := by omega
    refine (h.grow G).ix (by omega) hn s fun a sl e _ hl _ hv => ⟨_, _, _, e, cnd_i (fun b => ⟨?_, G⟩) (fun b => ?_)⟩ <;> rw [Int.toNat_natCast] at hl
    · have b : (sl.n : Int) ≠ n := by simpa using b
      have : (rows.all fun r => decide (r.length = rows.length)) = false := by
        rw [← Bool.not_eq_true, List.all_eq_true]
        intro hall
        have := of_decide_eq_true (hall _ (getDrow_mem ht'))
        omega
      unfold sqB
      rw [this, Bool.and_false]
    · have b : (sl.n : Int) = n := by simpa using b
      refine ⟨k - 1, by omega, t + 1, ?_, by omega, by omega, fun j hj => ?_, G⟩
      · rw [wrap64_of (by omega) (by omega)]; omega
      · by_cases e : j = t
        · subst e; omega
        · exact ha j (by omega)
  · have : (rows.all fun r => decide (r.length = rows.length)) = true := by
      rw [List.all_eq_true]
      intro r hr
      obtain ⟨j, hj⟩ := List.getElem?_of_mem hr
      have hl := (List.getElem?_eq_some_iff.1 hj).1
      have := ha j (by omega)
      have e : rows.getD j [] = r := by simp [List.getD, hj]
      rw [e] at this
      exact decide_eq_true this
    unfold sqB
    rw [this, Bool.and_true]
    congr 2
    exact decide_eq_decide.2 (by omega)
end Go.Proofs.Ytambabpklfeaoaa.W
