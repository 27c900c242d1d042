/- Maps from ints to bools that one has made. -/
import Derived.Test.YtambabpklfeaoaaFwMem
import Derived.Maps.Own
import Derived.Maps.OwnSet
import Derived.Maps.Range
import Derived.DeepKeys4
namespace Go.Fw
open Go Go.RowKit Go.Maps
variable {P : Program} {t k e : TypeId} {w w' : World} {b n : Nat} {s : Int → Bool}

/-- A type of maps from ints to bools. -/
def mapB (P : Program) (t k e : TypeId) : Bool :=
  (match P.underlying t with | some (.map k' e') => Nat.beq k' k && Nat.beq e' e | _ => false) && (match P.underlying k with | some (.int .i64) => true | _ => false) && (match P.underlying e with | some .bool => true | _ => false) && (match P.info? e with | some i => (match i.zero with | some (.bool false) => true | _ => false) | none => false)

theorem mapB_spec (h : mapB P t k e = true) : P.underlying t = some (.map k e) ∧ P.underlying k = some (.int .i64) ∧ P.underlying e = some .bool ∧ ∀ w, (zeroValue e).run P w = .ok (.bool false) w := by
  simp only [mapB, Bool.and_eq_true] at h
  obtain ⟨⟨⟨h1, h2⟩, h3⟩, h4⟩ := h
  split at h1
  · rename_i k' e' hu
    simp only [Bool.and_eq_true] at h1
    have e1 : k' = k := Nat.eq_of_beq_eq_true h1.1
    have e2 : e' = e := Nat.eq_of_beq_eq_true h1.2
    subst e1 e2
    refine ⟨hu, ?_, ?_, ?_⟩
    · split at h2
      · assumption
      · simp at h2
    · split at h3
      · assumption
      · simp at h3
    · intro w
      split at h4
      · rename_i i hi
        split at h4
        · rename_i hz
          unfold zeroValue
          simp only [Sem.run_bind, run_info_some hi, Result.andThen_ok, hz, Sem.run_pure]
        · simp at h4
      · simp at h4
  · simp at h1

/-- A map that one has made: what it tells of each int. -/
def MB (P : Program) (k e : TypeId) (w : World) (b n : Nat) (s : Int → Bool) : Prop :=
  ∃ D : DataW Unit, w.ownsMap P k (plainElem P e) b n D ∧ ∀ a : Int, D.atKey (.int .i64 a) (.lit (.bool false)) = .lit (.bool (s a))

theorem MB.lt (h : MB P k e w b n s) : b < w.heap.size := by obtain ⟨D, h, _⟩ := h; exact h.lt
theorem MB.keep {S : Nat → Prop} (h : MB P k e w b n s) (m : Mod S w w') (hs : ¬ S b) : MB P k e w' b n s := by
  have hl := h.lt
  obtain ⟨D, ⟨es, clock, hb, h⟩, hd⟩ := h
  exact ⟨D, ⟨es, clock, (m.block b hl hs).trans hb, h⟩, hd⟩
theorem MB.grow (h : MB P k e w b n s) (m : Grow w w') : MB P k e w' b n s := h.keep m id
theorem MB.put' (h : MB P k e w b n s) {c : Nat} (m : Mod (· = c) w w') (hne : b ≠ c) : MB P k e w' b n s := h.keep m hne

theorem MB.new {b : Nat} (h : New (.map #[] 0) w b w') : MB P k e w' b 0 fun _ => false := by
  obtain ⟨rfl, rfl⟩ := h
  exact ⟨.map [], World.ownsMap_made w P k _, fun a => rfl⟩

theorem MB.look (hm : mapB P t k e = true) (h : MB P k e w b n s) {a : Int} (ha : (Lit.int .i64 a).wf = true) : (Instr.lookup t (.map (some b)) (.int .i64 a) false).run P w = .ok (.bool (s a)) w := by
  obtain ⟨ht, hk, he, hz⟩ := mapB_spec hm
  obtain ⟨D, h, hd⟩ := h
  obtain ⟨v, ps, hr, hv⟩ := h.lookup (int_keyed hk) ht (hz w) (plainElem_bool he false) (keyOf_int_mk hk ha)
  rw [hd a] at hv
  have : v = .bool (s a) := by
    unfold plainElem at hv
    rw [he] at hv
    cases v <;> simp_all
  rw [hr, this]
theorem MB.put (hm : mapB P t k e = true) (h : MB P k e w b n s) (hn : n < maxLen) {a : Int} (ha : (Lit.int .i64 a).wf = true) (v : Bool) :
    ∃ w', (Instr.mapUpdate t (.map (some b)) (.int .i64 a) (.bool v)).run P w = .ok () w' ∧ MB P k e w' b (n + 1) (fun u => if u = a then v else s u) ∧ Mod (· = b) w w' := by
  obtain ⟨ht, hk, he, hz⟩ := mapB_spec hm
  obtain ⟨D, h, hd⟩ := h
  have him := h.isMap
  obtain ⟨w', hr, h', hg⟩ := h.update (int_keyed hk) ht hn (keyOf_int_mk hk ha) (plainElem_bool (H := Unit) he v)
  refine ⟨w', hr, ⟨_, h', fun u => ?_⟩, ⟨hg.os, hg.tape, hg.output, hg.size, fun i hi hn => hg.block i hi fun e => hn (Option.some.inj e)⟩⟩
  by_cases hu : u = a
  · subst hu
    exact (atKey_put_same him (show WideAt.IsKeyLit (.int .i64 u) from trivial) _ _).trans (by simp)
  · exact ((atKey_put_other (fun e => hu (by injection e)) _ _).trans (hd u)).trans (by simp [hu])

theorem MB.del (hm : mapB P t k e = true) (h : MB P k e w b n s) {a : Int} (ha : (Lit.int .i64 a).wf = true) (ty : TypeId) :
    ∃ w', (Builtin.delete_ #[t, k] ty #[.map (some b), .int .i64 a]).run P w = .ok (.tuple #[]) w' ∧ MB P k e w' b n (fun u => if u = a then false else s u) ∧ Mod (· = b) w w' := by
  obtain ⟨ht, hk, he, hz⟩ := mapB_spec hm
  obtain ⟨D, h, hd⟩ := h
  obtain ⟨w', hr, h', hg⟩ := h.drop (int_keyed hk) ht (keyOf_int_mk hk ha) ty
  have hg := hg.grown
  refine ⟨w', hr, ⟨_, h', fun u => ?_⟩, ⟨hg.os, hg.tape, hg.output, hg.size, fun i hi hn => hg.block i hi fun e => hn (Option.some.inj e)⟩⟩
  by_cases hu : u = a
  · subst hu
    exact (atKey_del_same _).trans (by simp)
  · exact ((atKey_del_other (fun e => hu (by injection e)) _).trans (hd u)).trans (by simp [hu])

theorem look_nilB (hm : mapB P t k e = true) {a : Int} (ha : (Lit.int .i64 a).wf = true) : (Instr.lookup t (.map none) (.int .i64 a) false).run P w = .ok (.bool false) w := by
  obtain ⟨ht, hk, he, hz⟩ := mapB_spec hm
  exact Maps.look_nil (P := P) (w := w) false (int_keyed hk) ht (hz w) (keyOf_int_mk hk ha)
theorem wf64 {a : Int} (h1 : -9223372036854775808 ≤ a) (h2 : a < 9223372036854775808) : (Lit.int .i64 a).wf = true := by
  simp [Lit.wf, IntKind.min, IntKind.max, IntKind.signed, IntKind.bits]; omega
end Go.Fw
/- Maps from ints to bools that tell a set, and rounds over them; maps from ints to ints. -/
namespace Go.Fw
open Go Go.RowKit Go.Maps
variable {P : Program} {t k e : TypeId} {w w' : World} {b r n cnt : Nat} {s lf : Int → Bool}

/-- A map of which all elements are true. -/
def MS (P : Program) (k e : TypeId) (w : World) (b n : Nat) (s : Int → Bool) : Prop :=
  ∃ D : DataW Unit, w.ownsMap P k (plainElem P e) b n D ∧ (∀ a : Int, D.atKey (.int .i64 a) (.lit (.bool false)) = .lit (.bool (s a))) ∧ ∀ a : Int, Maps.has D (.int .i64 a) = s a

theorem MS.mb (h : MS P k e w b n s) : MB P k e w b n s := by obtain ⟨D, h1, h2, _⟩ := h; exact ⟨D, h1, h2⟩
theorem MS.lt (h : MS P k e w b n s) : b < w.heap.size := h.mb.lt
theorem MS.keep {S : Nat → Prop} (h : MS P k e w b n s) (m : Mod S w w') (hs : ¬ S b) : MS P k e w' b n s := by
  have hl := h.lt
  obtain ⟨D, ⟨es, clock, hb, h⟩, hd⟩ := h
  exact ⟨D, ⟨es, clock, (m.block b hl hs).trans hb, h⟩, hd⟩
theorem MS.grow (h : MS P k e w b n s) (m : Grow w w') : MS P k e w' b n s := h.keep m id
theorem MS.drew (h : MS P k e w b n s) : MS P k e w.drew b n s := h.grow (Mod.refl w).drew
theorem MS.new {b : Nat} (h : New (.map #[] 0) w b w') : MS P k e w' b 0 fun _ => false := by
  obtain ⟨rfl, rfl⟩ := h
  exact ⟨.map [], World.ownsMap_made w P k _, fun a => rfl, fun a => rfl⟩
theorem MS.look (hm : mapB P t k e = true) (h : MS P k e w b n s) {a : Int} (ha : (Lit.int .i64 a).wf = true) : (Instr.lookup t (.map (some b)) (.int .i64 a) false).run P w = .ok (.bool (s a)) w := h.mb.look hm ha
theorem MS.put (hm : mapB P t k e = true) (h : MS P k e w b n s) (hn : n < maxLen) {a : Int} (ha : (Lit.int .i64 a).wf = true) :
    ∃ w', (Instr.mapUpdate t (.map (some b)) (.int .i64 a) (.bool true)).run P w = .ok () w' ∧ MS P k e w' b (n + 1) (fun u => if u = a then true else s u) ∧ Mod (· = b) w w' := by
  obtain ⟨ht, hk, he, hz⟩ := mapB_spec hm
  obtain ⟨D, h, hd, hh⟩ := h
  have him := h.isMap
  obtain ⟨w', hr, h', hg⟩ := h.update (int_keyed hk) ht hn (keyOf_int_mk hk ha) (plainElem_bool (H := Unit) he true)
  refine ⟨w', hr, ⟨_, h', fun u => ?_, fun u => ?_⟩, ⟨hg.os, hg.tape, hg.output, hg.size, fun i hi hn => hg.block i hi fun e => hn (Option.some.inj e)⟩⟩
  · by_cases hu : u = a
    · subst hu
      exact (atKey_put_same him (show WideAt.IsKeyLit (.int .i64 u) from trivial) _ _).trans (by simp)
    · exact ((atKey_put_other (fun e => hu (by injection e)) _ _).trans (hd u)).trans (by simp [hu])
  · by_cases hu : u = a
    · subst hu
      exact (has_put_same him (show WideAt.IsKeyLit (.int .i64 u) from trivial) _).trans (by simp)
    · exact ((has_put_other (fun e => hu (by injection e)) _).trans (hh u)).trans (by simp [hu])
theorem MS.del (hm : mapB P t k e = true) (h : MS P k e w b n s) {a : Int} (ha : (Lit.int .i64 a).wf = true) (ty : TypeId) :
    ∃ w', (Builtin.delete_ #[t, k] ty #[.map (some b), .int .i64 a]).run P w = .ok (.tuple #[]) w' ∧ MS P k e w' b n (fun u => if u = a then false else s u) ∧ Mod (· = b) w w' := by
  obtain ⟨ht, hk, he, hz⟩ := mapB_spec hm
  obtain ⟨D, h, hd, hh⟩ := h
  obtain ⟨w', hr, h', hg⟩ := h.drop (int_keyed hk) ht (keyOf_int_mk hk ha) ty
  have hg := hg.grown
  refine ⟨w', hr, ⟨_, h', fun u => ?_, fun u => ?_⟩, ⟨hg.os, hg.tape, hg.output, hg.size, fun i hi hn => hg.block i hi fun e => hn (Option.some.inj e)⟩⟩
  · by_cases hu : u = a
    · subst hu
      exact (atKey_del_same _).trans (by simp)
    · exact ((atKey_del_other (fun e => hu (by injection e)) _).trans (hd u)).trans (by simp [hu])
  · by_cases hu : u = a
    · subst hu
      exact has_del_same.trans (by simp)
    · exact ((has_del_other (fun e => hu (by injection e))).trans (hh u)).trans (by simp [hu])
/-- How many entries there are: at most as many as were put. -/
theorem MS.len (hm : mapB P t k e = true) (h : MS P k e w b n s) (ty : TypeId) : ∃ c : Nat, c ≤ n ∧ (Builtin.len_ #[t] ty #[.map (some b)]).run P w = .ok (.int .i64 c) w := by
  obtain ⟨ht, hk, he, hz⟩ := mapB_spec hm
  obtain ⟨D, h, hd, hh⟩ := h
  exact ⟨Maps.size D, h.size_le, h.len ht ty⟩

/-- A round over such a map under way: what is left, and how much. -/
def MR (P : Program) (k e : TypeId) (w : World) (b r n : Nat) (s lf : Int → Bool) (cnt : Nat) : Prop :=
  ∃ (D : DataW Unit) (left : Lit → Bool), w.ranges P k (plainElem P e) b r n D left cnt ∧ (∀ a : Int, D.atKey (.int .i64 a) (.lit (.bool false)) = .lit (.bool (s a))) ∧ (∀ a : Int, Maps.has D (.int .i64 a) = s a) ∧ ∀ a : Int, left (.int .i64 a) = lf a

theorem MR.ms (h : MR P k e w b r n s lf cnt) : MS P k e w b n s := by
  obtain ⟨D, left, h1, h2, h3, _⟩ := h
  exact ⟨D, h1.owns, h2, h3⟩
theorem MR.lt (h : MR P k e w b r n s lf cnt) : r < w.heap.size := by
  obtain ⟨D, left, h1, _⟩ := h
  exact h1.lt
theorem MR.keep {S : Nat → Prop} (h : MR P k e w b r n s lf cnt) (m : Mod S w w') (h1 : ¬ S b) (h2 : ¬ S r) : MR P k e w' b r n s lf cnt := by
  have hl1 := h.ms.lt
  have hl2 := h.lt
  obtain ⟨D, left, ⟨es, clock, since, seen, c0, hb, F, hs, hD, hr, rest⟩, h3⟩ := h
  exact ⟨D, left, ⟨es, clock, since, seen, c0, (m.block b hl1 h1).trans hb, F, hs, hD, (m.block r hl2 h2).trans hr, rest⟩, h3⟩
theorem MR.grow (h : MR P k e w b r n s lf cnt) (m : Grow w w') : MR P k e w' b r n s lf cnt := h.keep m id id
theorem MR.drew (h : MR P k e w b r n s lf cnt) : MR P k e w.drew b r n s lf cnt := h.grow (Mod.refl w).drew

theorem MS.range (hm : mapB P t k e = true) (h : MS P k e w b n s) : ∃ w' cnt, (Instr.range t (.map (some b))).run P w = .ok (.pointer (some ⟨w.heap.size, 0, none⟩)) w' ∧ MR P k e w' b w.heap.size n s s cnt ∧ Grow w w' := by
  obtain ⟨ht, hk, he, hz⟩ := mapB_spec hm
  obtain ⟨D, h, hd, hh⟩ := h
  obtain ⟨w', hr, hR, hg, _⟩ := h.range (int_keyed hk) ht
  exact ⟨w', _, hr, ⟨D, _, hR, hd, hh, hh⟩, ⟨hg.os, hg.tape, hg.output, hg.size, fun i hi _ => hg.block i hi (by simp)⟩⟩

theorem keyOf_int_inv {key : Value} {kl : Lit} (hk : P.underlying k = some (.int .i64)) (h : keyOf P k key = some kl) : ∃ a : Int, key = .int .i64 a ∧ kl = .int .i64 a ∧ (Lit.int .i64 a).wf = true := by
  cases key <;> simp [keyOf, hk, mapKey] at h
  rename_i q a
  obtain ⟨h1, rfl⟩ := h
  obtain ⟨rfl, h2⟩ := h1
  exact ⟨a, rfl, rfl, h2⟩

theorem MR.next (hm : mapB P t k e = true) (h : MR P k e w b r n s lf cnt) (ty : TypeId) :
    (cnt = 0 ∧ (∀ a, lf a = false) ∧ (Instr.next (.pointer (some ⟨r, 0, none⟩)) false ty).run P w = .ok (.tuple #[.bool false]) w) ∨
    ∃ (a : Int) (v : Value) (w' : World) (cnt' : Nat), lf a = true ∧ (Lit.int .i64 a).wf = true ∧ (Instr.next (.pointer (some ⟨r, 0, none⟩)) false ty).run P w = .ok (.tuple #[.bool true, .int .i64 a, v]) w' ∧
      (Instr.entry (.pointer (some ⟨r, 0, none⟩))).run P w' = .ok (.tuple #[.int .i64 a, v]) w' ∧ MR P k e w' b r n s (fun x => lf x && x != a) cnt' ∧ cnt' < cnt ∧ Mod (· = r) w w' := by
  obtain ⟨ht, hk, he, hz⟩ := mapB_spec hm
  obtain ⟨D, left, h, hd, hh, hl⟩ := h
  rcases h.next (int_keyed hk) ty with ⟨h0, h1, h2⟩ | ⟨key, v, kl, y, w', cnt', h1, h2, h3, h4, h5, h6, h7, h8, h9, h10⟩
  · exact .inl ⟨h0, fun a => by rw [← hl]; exact h1 _, h2⟩
  · obtain ⟨a, rfl, rfl, ha⟩ := keyOf_int_inv hk h1
    refine .inr ⟨a, v, w', cnt', by rw [← hl]; exact h2, ha, h5, h10, ⟨D, _, h6, hd, hh, fun x => ?_⟩, h7, ⟨h8.os, h8.tape, h8.output, h8.size, fun i hi hn => h8.block i hi fun e => hn (Option.some.inj e)⟩⟩
    show (left (.int .i64 x) && !(Lit.sameKey (.int .i64 x) (.int .i64 a))) = _
    rw [hl x]
    congr 1
    simp [Lit.sameKey, bne]
    rfl

/-- A type of maps from ints to ints. -/
def mapI (P : Program) (t k e : TypeId) : Bool :=
  (match P.underlying t with | some (.map k' e') => Nat.beq k' k && Nat.beq e' e | _ => false) && (match P.underlying k with | some (.int .i64) => true | _ => false) && (match P.underlying e with | some (.int .i64) => true | _ => false) && (match P.info? e with | some i => (match i.zero with | some (.int .i64 n) => n == 0 | _ => false) | none => false)

theorem mapI_spec (h : mapI P t k e = true) : P.underlying t = some (.map k e) ∧ P.underlying k = some (.int .i64) ∧ P.underlying e = some (.int .i64) ∧ ∀ w, (zeroValue e).run P w = .ok (.int .i64 0) w := by
  simp only [mapI, Bool.and_eq_true] at h
  obtain ⟨⟨⟨h1, h2⟩, h3⟩, h4⟩ := h
  split at h1
  · rename_i k' e' hu
    simp only [Bool.and_eq_true] at h1
    have e1 : k' = k := Nat.eq_of_beq_eq_true h1.1
    have e2 : e' = e := Nat.eq_of_beq_eq_true h1.2
    subst e1 e2
    refine ⟨hu, ?_, ?_, ?_⟩
    · split at h2
      · assumption
      · simp at h2
    · split at h3
      · assumption
      · simp at h3
    · intro w
      split at h4
      · rename_i i hi
        split at h4
        · rename_i n hz
          have : n = 0 := by simpa using h4
          subst this
          unfold zeroValue
          simp only [Sem.run_bind, run_info_some hi, Result.andThen_ok, hz, Sem.run_pure]
        · simp at h4
      · simp at h4
  · simp at h1

/-- A map from ints to ints: what it tells of each. -/
def MI (P : Program) (k e : TypeId) (w : World) (b n : Nat) (s : Int → Int) : Prop :=
  ∃ D : DataW Unit, w.ownsMap P k (plainElem P e) b n D ∧ ∀ a : Int, D.atKey (.int .i64 a) (.lit (.int .i64 0)) = .lit (.int .i64 (s a))
theorem MI.lt {s : Int → Int} (h : MI P k e w b n s) : b < w.heap.size := by obtain ⟨D, h, _⟩ := h; exact h.lt
theorem MI.keep {s : Int → Int} {S : Nat → Prop} (h : MI P k e w b n s) (m : Mod S w w') (hs : ¬ S b) : MI P k e w' b n s := by
  have hl := h.lt
  obtain ⟨D, ⟨es, clock, hb, h⟩, hd⟩ := h
  exact ⟨D, ⟨es, clock, (m.block b hl hs).trans hb, h⟩, hd⟩
theorem MI.grow {s : Int → Int} (h : MI P k e w b n s) (m : Grow w w') : MI P k e w' b n s := h.keep m id
theorem MI.drew {s : Int → Int} (h : MI P k e w b n s) : MI P k e w.drew b n s := h.grow (Mod.refl w).drew
theorem MI.new {b : Nat} (h : New (.map #[] 0) w b w') : MI P k e w' b 0 fun _ => 0 := by
  obtain ⟨rfl, rfl⟩ := h
  exact ⟨.map [], World.ownsMap_made w P k _, fun a => rfl⟩
theorem MI.look {s : Int → Int} (hm : mapI P t k e = true) (h : MI P k e w b n s) {a : Int} (ha : (Lit.int .i64 a).wf = true) : (Instr.lookup t (.map (some b)) (.int .i64 a) false).run P w = .ok (.int .i64 (s a)) w := by
  obtain ⟨ht, hk, he, hz⟩ := mapI_spec hm
  obtain ⟨D, h, hd⟩ := h
  obtain ⟨c, h1, h2, h3⟩ := h.lookup_int (int_keyed hk) ht he (hz w) (keyOf_int_mk hk ha)
  rw [hd a] at h2
  have : s a = c := by simpa using h2
  rw [h1, this]
theorem MI.put {s : Int → Int} (hm : mapI P t k e = true) (h : MI P k e w b n s) (hn : n < maxLen) {a : Int} (ha : (Lit.int .i64 a).wf = true) {v : Int} (hv : (Lit.int .i64 v).wf = true) :
    ∃ w', (Instr.mapUpdate t (.map (some b)) (.int .i64 a) (.int .i64 v)).run P w = .ok () w' ∧ MI P k e w' b (n + 1) (fun u => if u = a then v else s u) ∧ Mod (· = b) w w' := by
  obtain ⟨ht, hk, he, hz⟩ := mapI_spec hm
  obtain ⟨D, h, hd⟩ := h
  have him := h.isMap
  obtain ⟨w', hr, h', hg⟩ := h.update (int_keyed hk) ht hn (keyOf_int_mk hk ha) (plainElem_int (H := Unit) he hv)
  refine ⟨w', hr, ⟨_, h', fun u => ?_⟩, ⟨hg.os, hg.tape, hg.output, hg.size, fun i hi hn => hg.block i hi fun e => hn (Option.some.inj e)⟩⟩
  by_cases hu : u = a
  · subst hu
    exact (atKey_put_same him (show WideAt.IsKeyLit (.int .i64 u) from trivial) _ _).trans (by simp)
  · exact ((atKey_put_other (fun e => hu (by injection e)) _ _).trans (hd u)).trans (by simp [hu])
end Go.Fw
/- Maps whose keys are structs of two ints, to ints. -/
namespace Go.Fw
open Go Go.RowKit Go.Maps
variable {P : Program} {t k e : TypeId} {w w' : World} {b n : Nat} {s : Int × Int → Option Int}

/-- A type of structs of two ints that may be a key. -/
def gateB (P : Program) (k : TypeId) : Bool :=
  P.keyType k && Nat.beq (P.cellsOf k) 2 && !Nat.beq P.types.size 0 && (match P.underlying k with
    | some (.struct fs) => (fs.all (·.name != "_")) && (match fs.toList with
      | [f0, f1] => Nat.beq f0.offset 0 && Nat.beq f1.offset 1 && Nat.beq (P.cellsOf f0.type) 1 && Nat.beq (P.cellsOf f1.type) 1 && (match P.underlying f0.type with | some (.int .i64) => true | _ => false) && (match P.underlying f1.type with | some (.int .i64) => true | _ => false)
      | _ => false)
    | _ => false)
abbrev gv (x : Int × Int) : Value := .agg #[.int .i64 x.1, .int .i64 x.2]
theorem int_und {ty : TypeId} (h : (match P.underlying ty with | some (.int .i64) => true | _ => false) = true) : P.underlying ty = some (.int .i64) := by
  split at h
  · assumption
  · simp at h

theorem key_gate (h : gateB P k = true) {x : Int × Int} (h1 : (Lit.int .i64 x.1).wf = true) (h2 : (Lit.int .i64 x.2).wf = true) : ∃ l, keyOf P k (gv x) = some l := by
  simp only [gateB, Bool.and_eq_true] at h
  obtain ⟨⟨⟨hk, hc⟩, hz0⟩, h⟩ := h
  have hc : P.cellsOf k = 2 := Nat.eq_of_beq_eq_true hc
  split at h
  · rename_i fs hu
    simp only [Bool.and_eq_true] at h
    obtain ⟨hn, h⟩ := h
    split at h
    · rename_i f0 f1 hl
      simp only [Bool.and_eq_true] at h
      obtain ⟨⟨⟨⟨⟨o0, o1⟩, c0⟩, c1⟩, u0⟩, u1⟩ := h
      have o0 := Nat.eq_of_beq_eq_true o0
      have o1 := Nat.eq_of_beq_eq_true o1
      have c0 := Nat.eq_of_beq_eq_true c0
      have c1 := Nat.eq_of_beq_eq_true c1
      have u0 := int_und u0
      have u1 := int_und u1
      have hf : (gv x).formed P k = true := by simp [Value.formed, hu, hc]
      have hcl : (gv x).cells.toList = [.int .i64 x.1, .int .i64 x.2] := by simp [Value.cells]
      have k0 : P.keyLits P.types.size f0.type [.int .i64 x.1] = some [.int .i64 x.1] ∨ P.types.size = 0 := by
        cases hz : P.types.size with
        | zero => exact .inr rfl
        | succ z => left; unfold Program.keyLits; simp [u0, h1]
      have hz : P.types.size ≠ 0 := fun e => by rw [e] at hz0; simp at hz0
      have k0 := k0.resolve_right hz
      have k1 : P.keyLits P.types.size f1.type [.int .i64 x.2] = some [.int .i64 x.2] := by
        cases hz' : P.types.size with
        | zero => exact absurd hz' hz
        | succ z => unfold Program.keyLits; simp [u1, h2]
      have hkl : P.keyLits (P.types.size + 1) k [.int .i64 x.1, .int .i64 x.2] = some [.int .i64 x.1, .int .i64 x.2] := by
        unfold Program.keyLits
        simp only [hu]
        rw [if_pos ⟨by simp [hc], hn⟩, hl]
        simp only [List.mapM_cons, List.mapM_nil, o0, o1, c0, c1, List.drop_zero, List.take_succ_cons, List.take_zero, List.drop_succ_cons, k0, k1, Option.bind_eq_bind, Option.bind_some, Option.pure_def, Option.map_some]
        rfl
      refine ⟨.string (keyBytes [.int .i64 x.1, .int .i64 x.2]), ?_⟩
      unfold keyOf
      simp only [hu]
      rw [hk, hf, hcl, hkl]
      rfl
    · simp at h
  · simp at h

/-- A type of maps from such structs to ints. -/
def mapG (P : Program) (t k e : TypeId) : Bool :=
  (match P.underlying t with | some (.map k' e') => Nat.beq k' k && Nat.beq e' e | _ => false) && gateB P k && (match P.underlying e with | some (.int .i64) => true | _ => false) && (match P.info? e with | some i => (match i.zero with | some (.int .i64 n) => n == 0 | _ => false) | none => false)
theorem mapG_spec (h : mapG P t k e = true) : P.underlying t = some (.map k e) ∧ gateB P k = true ∧ P.underlying e = some (.int .i64) ∧ ∀ w, (zeroValue e).run P w = .ok (.int .i64 0) w := by
  simp only [mapG, Bool.and_eq_true] at h
  obtain ⟨⟨⟨h1, h2⟩, h3⟩, h4⟩ := h
  split at h1
  · rename_i k' e' hu
    simp only [Bool.and_eq_true] at h1
    have e1 : k' = k := Nat.eq_of_beq_eq_true h1.1
    have e2 : e' = e := Nat.eq_of_beq_eq_true h1.2
    subst e1 e2
    refine ⟨hu, h2, int_und h3, fun w => ?_⟩
    split at h4
    · rename_i i hi
      split at h4
      · rename_i n hz
        have : n = 0 := by simpa using h4
        subst this
        unfold zeroValue
        simp only [Sem.run_bind, run_info_some hi, Result.andThen_ok, hz, Sem.run_pure]
      · simp at h4
    · simp at h4
  · simp at h1

/-- Such a map: what it tells of each key that it has. -/
def MG (P : Program) (k e : TypeId) (w : World) (b n : Nat) (s : Int × Int → Option Int) : Prop :=
  ∃ D : DataW Unit, w.ownsMap P k (plainElem P e) b n D ∧ ∀ (x : Int × Int) (l : Lit), keyOf P k (gv x) = some l → D.atKey l (.lit (.int .i64 0)) = .lit (.int .i64 ((s x).getD 0)) ∧ Maps.has D l = (s x).isSome
theorem MG.lt (h : MG P k e w b n s) : b < w.heap.size := by obtain ⟨D, h, _⟩ := h; exact h.lt
theorem MG.keep {S : Nat → Prop} (h : MG P k e w b n s) (m : Mod S w w') (hs : ¬ S b) : MG P k e w' b n s := by
  have hl := h.lt
  obtain ⟨D, ⟨es, clock, hb, h⟩, hd⟩ := h
  exact ⟨D, ⟨es, clock, (m.block b hl hs).trans hb, h⟩, hd⟩
theorem MG.grow (h : MG P k e w b n s) (m : Grow w w') : MG P k e w' b n s := h.keep m id
theorem MG.new {b : Nat} (h : New (.map #[] 0) w b w') : MG P k e w' b 0 fun _ => none := by
  obtain ⟨rfl, rfl⟩ := h
  exact ⟨.map [], World.ownsMap_made w P k _, fun x l _ => ⟨rfl, rfl⟩⟩
theorem MG.look (hm : mapG P t k e = true) (K : Keyed P k) (h : MG P k e w b n s) {x : Int × Int} (h1 : (Lit.int .i64 x.1).wf = true) (h2 : (Lit.int .i64 x.2).wf = true) :
    (Instr.lookup t (.map (some b)) (gv x) true).run P w = .ok (.tuple #[.int .i64 ((s x).getD 0), .bool (s x).isSome]) w := by
  obtain ⟨ht, hk, he, hz⟩ := mapG_spec hm
  obtain ⟨D, h, hd⟩ := h
  obtain ⟨l, hl⟩ := key_gate hk h1 h2
  obtain ⟨v, ps, hr, hv⟩ := h.look_ok K ht (hz w) (plainElem_int he (by decide)) hl
  rw [(hd x l hl).1] at hv
  obtain ⟨c, rfl, hc, _⟩ := plainElem_int_inv he hv
  have : (s x).getD 0 = c := by
    have := congrArg Prod.fst hc
    simpa using this
  rw [hr, (hd x l hl).2, this]
theorem MG.put (hm : mapG P t k e = true) (K : Keyed P k) (h : MG P k e w b n s) (hn : n < maxLen) {x : Int × Int} (h1 : (Lit.int .i64 x.1).wf = true) (h2 : (Lit.int .i64 x.2).wf = true) {v : Int} (hv : (Lit.int .i64 v).wf = true) :
    ∃ w', (Instr.mapUpdate t (.map (some b)) (gv x) (.int .i64 v)).run P w = .ok () w' ∧ MG P k e w' b (n + 1) (fun u => if u = x then some v else s u) ∧ Mod (· = b) w w' := by
  obtain ⟨ht, hk, he, hz⟩ := mapG_spec hm
  obtain ⟨D, h, hd⟩ := h
  have him := h.isMap
  obtain ⟨l, hl⟩ := key_gate hk h1 h2
  obtain ⟨w', hr, h', hg⟩ := h.update K ht hn hl (plainElem_int (H := Unit) he hv)
  refine ⟨w', hr, ⟨_, h', fun u l' hl' => ?_⟩, ⟨hg.os, hg.tape, hg.output, hg.size, fun i hi hn => hg.block i hi fun e => hn (Option.some.inj e)⟩⟩
  by_cases hu : u = x
  · subst hu
    have : l' = l := Option.some.inj (hl'.symm.trans hl)
    subst this
    exact ⟨(atKey_put_same him (K.key hl) _ _).trans (by simp), (has_put_same him (K.key hl) _).trans (by simp)⟩
  · have hne : l' ≠ l := fun e => by
      subst e
      have := K.inj hl' hl
      injection this with this
      apply hu
      have e1 := congrArg (fun (a : Array Value) => a[0]?) this
      have e2 := congrArg (fun (a : Array Value) => a[1]?) this
      simp at e1 e2
      exact Prod.ext e1 e2
    show _ = DataW.lit (Lit.int .i64 ((if u = x then some v else s u).getD 0)) ∧ _ = (if u = x then some v else s u).isSome
    rw [if_neg hu]
    exact ⟨(atKey_put_other hne _ _).trans (hd u l' hl').1, (has_put_other hne _).trans (hd u l' hl').2⟩
end Go.Fw
