/- Maps from ints to bools that one has made. -/
import Derived.Test.YtamckcamloelbaaFwMem
import Derived.Maps.Own
import Derived.Maps.OwnSet
namespace Go.Fw
open Go Go.RowKit Go.Maps
variable {P : Program} {t k e : TypeId} {w w' : World} {b n : Nat} {s : Int → Bool}

/-- A type of maps from ints to bools. -/
def mapB (P : Program) (t k e : TypeId) : Bool :=
  (match P.underlying t with | some (.map k' e') => Nat.beq k' k && Nat.beq e' e | _ => false) && (match P.underlying k with | some (.int .i64) => true | _ => false) && (match P.underlying e with | some .bool => true | _ => false) && (match P.info? e with | some i => (match i.zero with | some (.bool false) => true | _ => false) | none => false)

theorem mapB_spec (h : mapB P t k e = true) : P.underlying t = some (.map k e) ∧ P.underlying k = some (.int .i64) ∧ P.underlying e = some .bool ∧ ∀ w, (zeroValue e).run P w = .ok (.bool false) w := by
  simp only [mapB, Bool.and_eq_true] at h
  obtain ⟨⟨⟨h1, h2⟩, h3⟩, h4⟩ := h
  split at h1
  · rename_i k' e' hu
    simp only [Bool.and_eq_true] at h1
    have e1 : k' = k := Nat.eq_of_beq_eq_true h1.1
    have e2 : e' = e := Nat.eq_of_beq_eq_true h1.2
    subst e1 e2
    refine ⟨hu, ?_, ?_, ?_⟩
    · split at h2
      · assumption
      · simp at h2
    · split at h3
      · assumption
      · simp at h3
    · intro w
      split at h4
      · rename_i i hi
        split at h4
        · rename_i hz
          unfold zeroValue
          simp only [Sem.run_bind, run_info_some hi, Result.andThen_ok, hz, Sem.run_pure]
        · simp at h4
      · simp at h4
  · simp at h1

/-- A map that one has made: what it tells of each int. -/
def MB (P : Program) (k e : TypeId) (w : World) (b n : Nat) (s : Int → Bool) : Prop :=
  ∃ D : DataW Unit, w.ownsMap P k (plainElem P e) b n D ∧ ∀ a : Int, D.atKey (.int .i64 a) (.lit (.bool false)) = .lit (.bool (s a))

theorem MB.lt (h : MB P k e w b n s) : b < w.heap.size := by obtain ⟨D, h, _⟩ := h; exact h.lt
theorem MB.keep {S : Nat → Prop} (h : MB P k e w b n s) (m : Mod S w w') (hs : ¬ S b) : MB P k e w' b n s := by
  have hl := h.lt
  obtain ⟨D, ⟨es, clock, hb, h⟩, hd⟩ := h
  exact ⟨D, ⟨es, clock, (m.block b hl hs).trans hb, h⟩, hd⟩
theorem MB.grow (h : MB P k e w b n s) (m : Grow w w') : MB P k e w' b n s := h.keep m id
theorem MB.put' (h : MB P k e w b n s) {c : Nat} (m : Mod (· = c) w w') (hne : b ≠ c) : MB P k e w' b n s := h.keep m hne

theorem MB.new {b : Nat} (h : New (.map #[] 0) w b w') : MB P k e w' b 0 fun _ => false := by
  obtain ⟨rfl, rfl⟩ := h
  exact ⟨.map [], World.ownsMap_made w P k _, fun a => rfl⟩

theorem MB.look (hm : mapB P t k e = true) (h : MB P k e w b n s) {a : Int} (ha : (Lit.int .i64 a).wf = true) : (Instr.lookup t (.map (some b)) (.int .i64 a) false).run P w = .ok (.bool (s a)) w := by
  obtain ⟨ht, hk, he, hz⟩ := mapB_spec hm
  obtain ⟨D, h, hd⟩ := h
  obtain ⟨v, ps, hr, hv⟩ := h.lookup (int_keyed hk) ht (hz w) (plainElem_bool he false) (keyOf_int_mk hk ha)
  rw [hd a] at hv
  have : v = .bool (s a) := by
    unfold plainElem at hv
    rw [he] at hv
    cases v <;> simp_all
  rw [hr, this]
theorem MB.put (hm : mapB P t k e = true) (h : MB P k e w b n s) (hn : n < maxLen) {a : Int} (ha : (Lit.int .i64 a).wf = true) (v : Bool) :
    ∃ w', (Instr.mapUpdate t (.map (some b)) (.int .i64 a) (.bool v)).run P w = .ok () w' ∧ MB P k e w' b (n + 1) (fun u => if u = a then v else s u) ∧ Mod (· = b) w w' := by
  obtain ⟨ht, hk, he, hz⟩ := mapB_spec hm
  obtain ⟨D, h, hd⟩ := h
  have him := h.isMap
  obtain ⟨w', hr, h', hg⟩ := h.update (int_keyed hk) ht hn (keyOf_int_mk hk ha) (plainElem_bool (H := Unit) he v)
  refine ⟨w', hr, ⟨_, h', fun u => ?_⟩, ⟨hg.os, hg.tape, hg.output, hg.size, fun i hi hn => hg.block i hi fun e => hn (Option.some.inj e)⟩⟩
  by_cases hu : u = a
  · subst hu
    exact (atKey_put_same him (show WideAt.IsKeyLit (.int .i64 u) from trivial) _ _).trans (by simp)
  · exact ((atKey_put_other (fun e => hu (by injection e)) _ _).trans (hd u)).trans (by simp [hu])

theorem MB.del (hm : mapB P t k e = true) (h : MB P k e w b n s) {a : Int} (ha : (Lit.int .i64 a).wf = true) (ty : TypeId) :
    ∃ w', (Builtin.delete_ #[t, k] ty #[.map (some b), .int .i64 a]).run P w = .ok (.tuple #[]) w' ∧ MB P k e w' b n (fun u => if u = a then false else s u) ∧ Mod (· = b) w w' := by
  obtain ⟨ht, hk, he, hz⟩ := mapB_spec hm
  obtain ⟨D, h, hd⟩ := h
  obtain ⟨w', hr, h', hg⟩ := h.drop (int_keyed hk) ht (keyOf_int_mk hk ha) ty
  have hg := hg.grown
  refine ⟨w', hr, ⟨_, h', fun u => ?_⟩, ⟨hg.os, hg.tape, hg.output, hg.size, fun i hi hn => hg.block i hi fun e => hn (Option.some.inj e)⟩⟩
  by_cases hu : u = a
  · subst hu
    exact (atKey_del_same _).trans (by simp)
  · exact ((atKey_del_other (fun e => hu (by injection e)) _).trans (hd u)).trans (by simp [hu])

theorem look_nilB (hm : mapB P t k e = true) {a : Int} (ha : (Lit.int .i64 a).wf = true) : (Instr.lookup t (.map none) (.int .i64 a) false).run P w = .ok (.bool false) w := by
  obtain ⟨ht, hk, he, hz⟩ := mapB_spec hm
  exact Maps.look_nil (P := P) (w := w) false (int_keyed hk) ht (hz w) (keyOf_int_mk hk ha)
theorem wf64 {a : Int} (h1 : -9223372036854775808 ≤ a) (h2 : a < 9223372036854775808) : (Lit.int .i64 a).wf = true := by
  simp [Lit.wf, IntKind.min, IntKind.max, IntKind.signed, IntKind.bits]; omega
end Go.Fw
