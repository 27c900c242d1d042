/- Slices of elements of some cells each, in rows that one has made or that are only looked at. -/
import Derived.Test.YtlpmapeojecenaaFwView
namespace Go.Fw
open Go Go.RowKit
variable {P : Program} {α : Type} {sz : Nat} {f : α → List Value} {T : TypeId} {w w' : World} {p q : Option Addr} {c : Nat} {l : List α}

/-- Elements that are so many cells. -/
structure Enc (sz : Nat) (f : α → List Value) : Prop where
  len : ∀ x, (f x).length = sz
  pos : 0 < sz
  one : ∀ x, ∀ v ∈ f x, v.oneCell' = true

theorem flat_len (hf : ∀ x, (f x).length = sz) : ∀ l : List α, (l.flatMap f).length = l.length * sz
  | [] => by simp
  | x :: l => by simp only [List.flatMap_cons, List.length_append, hf, flat_len hf l, List.length_cons]; rw [Nat.add_mul, Nat.one_mul, Nat.add_comm]
theorem flat_get (hf : ∀ x, (f x).length = sz) : ∀ (l : List α) (j i : Nat) (hj : j < l.length), i < sz → (l.flatMap f)[j * sz + i]? = (f l[j])[i]?
  | [], j, i, hj, _ => by simp at hj
  | x :: l, 0, i, _, hi => by
    simp only [List.flatMap_cons, Nat.zero_mul, Nat.zero_add, List.getElem_cons_zero]
    rw [List.getElem?_append_left (by rw [hf]; exact hi)]
  | x :: l, j + 1, i, hj, hi => by
    simp only [List.flatMap_cons, List.getElem_cons_succ]
    rw [List.getElem?_append_right (by rw [hf, Nat.add_mul, Nat.one_mul]; omega), hf, ← flat_get hf l j i (by simpa using hj) hi]
    congr 1
    rw [Nat.add_mul, Nat.one_mul]; omega
theorem flat_splice (hf : ∀ x, (f x).length = sz) (x : α) : ∀ (l : List α) (j : Nat), j < l.length → (l.flatMap f).take (j * sz) ++ f x ++ (l.flatMap f).drop (j * sz + sz) = (l.set j x).flatMap f
  | [], j, hj => by simp at hj
  | y :: l, 0, _ => by
    simp only [List.flatMap_cons, Nat.zero_mul, Nat.zero_add, List.take_zero, List.nil_append, List.set_cons_zero]
    rw [List.drop_append_of_le_length (by rw [hf]; exact Nat.le_refl _), List.drop_of_length_le (by rw [hf]; exact Nat.le_refl _), List.nil_append]
  | y :: l, j + 1, hj => by
    simp only [List.flatMap_cons, List.set_cons_succ]
    rw [← flat_splice hf x l j (by simpa using hj)]
    have e : (j + 1) * sz = sz + j * sz := by rw [Nat.add_mul, Nat.one_mul, Nat.add_comm]
    rw [e, List.take_append, List.drop_append, hf, List.take_of_length_le (by rw [hf]; omega), List.drop_of_length_le (by rw [hf]; omega), List.nil_append]
    simp only [List.append_assoc]
    congr 2
    · rw [show sz + j * sz - sz = j * sz by omega]
    · rw [show sz + j * sz + sz - sz = j * sz + sz by omega]

/-- A slice of such elements, in a row of its own. -/
def Row (sz : Nat) (f : α → List Value) (T : TypeId) (w : World) (p : Option Addr) (c : Nat) (l : List α) : Prop := w.ownsRow 0 T sz (.slice p l.length c) l.length (l.flatMap f)

theorem Row.nil (sz : Nat) (f : α → List Value) (T : TypeId) (w : World) : Row sz f T w none 0 [] := World.ownsRow_nil w 0 T sz

theorem Row.un (h : Row sz f T w p c l) : (p = none ∧ c = 0 ∧ l = []) ∨ ∃ g cur, p = some ⟨g, 0, none⟩ ∧ w.heap[g]? = some (.cells cur T (0, 0)) ∧ l.length ≤ c ∧ c ≤ maxLen ∧ cur.size = c * sz ∧ cur.toList.take (l.length * sz) = l.flatMap f := by
  rcases h.2 with ⟨h1, h2⟩ | ⟨g, cap, cur, h1, _, h2, h3, h4, h5, h6⟩
  · simp only [Value.slice.injEq] at h1
    exact .inl ⟨h1.1, h1.2.2, List.eq_nil_of_length_eq_zero h2⟩
  · simp only [Value.slice.injEq] at h1
    obtain ⟨rfl, _, rfl⟩ := h1
    exact .inr ⟨g, cur, rfl, h2, h3, h4, h5, h6⟩
theorem Row.of_some (hf : ∀ x, (f x).length = sz) {g : Nat} {cur : Array Value} (hg : w.heap[g]? = some (.cells cur T (0, 0))) (h1 : l.length ≤ c) (h2 : c ≤ maxLen) (h3 : cur.size = c * sz) (h4 : cur.toList.take (l.length * sz) = l.flatMap f) : Row sz f T w (some ⟨g, 0, none⟩) c l :=
  ⟨flat_len hf l, .inr ⟨g, c, cur, rfl, Nat.zero_le _, hg, h1, h2, h3, h4⟩⟩
theorem Row.lt (h : Row sz f T w p c l) : ∀ b, blk p = some b → b < w.heap.size := by
  intro b hb
  rcases h.un with ⟨rfl, _⟩ | ⟨g, cur, rfl, hg, _⟩
  · simp [blk] at hb
  · simp [blk] at hb
    subst hb
    rcases Nat.lt_or_ge g w.heap.size with h' | h'
    · exact h'
    · simp [Array.getElem?_eq_none h'] at hg
theorem Row.keep {S : Nat → Prop} (h : Row sz f T w p c l) (m : Mod S w w') (hs : ∀ b, blk p = some b → ¬ S b) : Row sz f T w' p c l := by
  have hl := h.lt
  rcases h.un with ⟨rfl, rfl, rfl⟩ | ⟨g, cur, rfl, hg, h1, h2, h3, h4⟩
  · exact Row.nil sz f T w'
  · exact ⟨h.1, .inr ⟨g, c, cur, rfl, Nat.zero_le _, (m.block g (hl g rfl) (hs g rfl)).trans hg, h1, h2, h3, h4⟩⟩
theorem Row.grow (h : Row sz f T w p c l) (m : Grow w w') : Row sz f T w' p c l := h.keep m fun _ _ => id
theorem Row.drew (h : Row sz f T w p c l) : Row sz f T w.drew p c l := h

/-- Elements of some cells each stand from an address on. -/
def Vr (sz : Nat) (f : α → List Value) (w : World) (p : Option Addr) (l : List α) : Prop := ∀ j (hj : j < l.length), ∃ a, p = some a ∧ CellsAt w (a.add (j * sz)) 0 (f l[j])

theorem CellsAt.keep {S : Nat → Prop} (m : Mod S w w') {a : Addr} (hs : ¬ S a.block) : ∀ {vs : List Value} {i : Nat}, CellsAt w a i vs → CellsAt w' a i vs
  | [], _, _ => trivial
  | _ :: _, _, ⟨h1, h2⟩ => ⟨cell_keep m h1 (by rw [add_block]; exact hs), CellsAt.keep m hs h2⟩

theorem Vr.keep {S : Nat → Prop} (h : Vr sz f w p l) (m : Mod S w w') (hs : ∀ b, blk p = some b → ¬ S b) : Vr sz f w' p l := by
  intro j hj
  obtain ⟨a, rfl, hc⟩ := h j hj
  exact ⟨a, rfl, hc.keep m (by rw [add_block]; exact hs _ rfl)⟩
theorem Vr.grow (h : Vr sz f w p l) (m : Grow w w') : Vr sz f w' p l := h.keep m fun _ _ => id
theorem Vr.drew (h : Vr sz f w p l) : Vr sz f w.drew p l := h.grow (Mod.refl w).drew
theorem Vr.nil : Vr sz f w p [] := fun j hj => by simp at hj

theorem Row.vr (E : Enc sz f) (h : Row sz f T w p c l) : Vr sz f w p l := by
  intro j hj
  rcases h.un with ⟨_, _, rfl⟩ | ⟨g, cur, rfl, hg, h1, h2, h3, h4⟩
  · simp at hj
  · refine ⟨_, rfl, ?_⟩
    rw [add_at, Nat.zero_add]
    refine CellsAt.of_get fun i v hi => ?_
    have hi' : i < sz := by rw [← E.len l[j]]; exact (List.getElem?_eq_some_iff.1 hi).1
    rw [add_at, Nat.zero_add]
    refine cell_of ⟨T, hg⟩ ?_
    have e : (cur.toList.take (l.length * sz))[j * sz + i]? = some v := by rw [h4, flat_get E.len l j i hj hi', hi]
    rw [List.getElem?_take] at e
    split at e
    · simpa using e
    · cases e

/-- An element is looked at. -/
theorem Vr.ix (h : Vr sz f w p l) {i : Int} {n : Nat} (d : α) (h0 : 0 ≤ i) (hn : n = l.length) (h1 : i < n) {K : Addr → Prop} (hk : ∀ a, CellsAt w a 0 (f (l.getD i.toNat d)) → K a) : ixK p n i sz K := by
  subst hn
  obtain ⟨a, rfl, hc⟩ := h i.toNat (by omega)
  refine ⟨_, rfl, h0, h1, hk _ ?_⟩
  have : l.getD i.toNat d = l[i.toNat]'(by omega) := by simp [List.getD, show i.toNat < l.length by omega]
  rw [this]; exact hc

theorem wr_list : ∀ (vs : List Value) (cs : Array Value) (o : Nat), o + vs.length ≤ cs.size → (wr cs o vs).toList = cs.toList.take o ++ vs ++ cs.toList.drop (o + vs.length)
  | [], cs, o, _ => by simp [wr]
  | v :: vs, cs, o, h => by
    simp only [List.length_cons] at h
    rw [wr, wr_list vs _ (o + 1) (by simp; omega)]
    simp only [Array.toList_setIfInBounds, List.length_cons]
    have h1 : o < cs.toList.length := by simp; omega
    have e1 : (cs.toList.set o v).take (o + 1) = cs.toList.take o ++ [v] := by
      rw [List.take_add_one, List.take_set_of_le (Nat.le_refl _), List.getElem?_set_self h1]
      simp
    have e2 : (cs.toList.set o v).drop (o + 1 + vs.length) = cs.toList.drop (o + (vs.length + 1)) := by
      rw [List.drop_set_of_lt (by omega), show o + 1 + vs.length = o + (vs.length + 1) by omega]
    rw [e1, e2]
    simp

theorem wr_size : ∀ (vs : List Value) (cs : Array Value) (o : Nat), (wr cs o vs).size = cs.size
  | [], _, _ => rfl
  | v :: vs, cs, o => by rw [wr, wr_size vs]; simp
theorem store_t {b off : Nat} {cs : Array Value} {t : TypeId} {K : World → Prop} : ∀ {vs : List Value} {i : Nat}, w.heap[b]? = some (.cells cs t) → off + i + vs.length ≤ cs.size → vs.all oneCell = true →
    (∀ w', w'.heap[b]? = some (.cells (wr cs (off + i) vs) t) → Mod (· = b) w w' → w'.heap.size = w.heap.size → K w') → ∃ w', StoreAt ⟨b, off, none⟩ i vs w w' ∧ K w' := by
  intro vs
  induction vs generalizing w cs with
  | nil => intro i h _ _ hk; exact ⟨w, rfl, hk w h (Mod.refl w) rfl⟩
  | cons v vs ih =>
    intro i h hl ho hk
    simp only [List.length_cons, List.all_cons, Bool.and_eq_true] at hl ho
    have h2 : (w.setCell ⟨b, off + i, none⟩ v).heap[b]? = some (.cells (cs.setIfInBounds (off + i) v) t) := set_heap h v (by omega)
    have hm : Mod (· = b) w (w.setCell ⟨b, off + i, none⟩ v) := ⟨rfl, rfl, rfl, by simp, fun k _ hk => Below.heap_setCell w _ v k hk⟩
    obtain ⟨w', hw, hk'⟩ := ih (i := i + 1) h2 (by simp; omega) ho.2 fun w' h1 h3 h4 => hk w' (by simpa only [wr, Nat.add_assoc] using h1) (hm.trans h3) (by rw [h4]; simp)
    refine ⟨w', ⟨⟨cs[off + i]'(by omega), cell_add ⟨t, h⟩ (by simp [show off + i < cs.size by omega])⟩, by rw [add_at]; exact frozen_of ⟨t, h⟩, ho.1, by rw [add_at]; exact hw⟩, hk'⟩

theorem take_splice {xs vs : List Value} {o n : Nat} (h : o + vs.length ≤ n) (hn : n ≤ xs.length) : (xs.take o ++ vs ++ xs.drop (o + vs.length)).take n = (xs.take n).take o ++ vs ++ (xs.take n).drop (o + vs.length) := by
  apply List.ext_getElem?
  intro j
  simp only [List.getElem?_take, List.getElem?_append, List.length_append, List.length_take, List.getElem?_drop]
  repeat' split
  all_goals first
    | rfl
    | omega
    | (congr 1; omega)

/-- An element is written, whole. -/
theorem Row.st (E : Enc sz f) (h : Row sz f T w p c l) {i : Int} {n : Nat} (x : α) {vs : List Value} (hv : vs = f x) (ho : vs.all oneCell = true) (h0 : 0 ≤ i) (hn : n = l.length) (h1 : i < n) {K : World → Prop}
    (hk : ∀ w', Row sz f T w' p c (l.set i.toNat x) → Mod (fun b => blk p = some b) w w' → K w') : ixK p n i sz fun a => ∃ w', StoreAt a 0 vs w w' ∧ K w' := by
  subst hn hv
  rcases h.un with ⟨_, _, rfl⟩ | ⟨g, cur, rfl, hg, h2, h3, h4, h5⟩
  · simp at h1; omega
  · refine ⟨_, rfl, h0, h1, ?_⟩
    rw [add_at, Nat.zero_add]
    have hb : i.toNat * sz + sz ≤ l.length * sz := by
      have : (i.toNat + 1) * sz ≤ l.length * sz := Nat.mul_le_mul_right _ (by omega)
      rwa [Nat.add_mul, Nat.one_mul] at this
    have hb2 : l.length * sz ≤ c * sz := Nat.mul_le_mul_right _ h2
    have hsz := E.len x
    refine store_t (cs := cur) hg (by rw [hsz]; omega) ho fun w' hw m _ => hk w' ?_ (m.mono fun k _ e => by simp [blk, e])
    refine Row.of_some E.len hw (by simpa using h2) h3 (by rw [wr_size]; exact h4) ?_
    rw [List.length_set, Nat.add_zero, wr_list _ _ _ (by rw [hsz]; omega), take_splice (by rw [hsz]; omega) (by simp; omega), hsz, h5, flat_splice E.len x l i.toNat (by omega)]

theorem flat_set (hf : ∀ x, (f x).length = sz) {x : α} {v : Value} {o : Nat} (ho : o < sz) : ∀ (l : List α) (j : Nat) (hj : j < l.length), f x = (f l[j]).set o v → (l.flatMap f).set (j * sz + o) v = (l.set j x).flatMap f
  | [], j, hj, _ => by simp at hj
  | y :: l, 0, _, hx => by
    simp only [List.getElem_cons_zero] at hx
    simp only [List.flatMap_cons, Nat.zero_mul, Nat.zero_add, List.set_cons_zero]
    rw [List.set_append_left _ _ (by rw [hf]; exact ho), hx]
  | y :: l, j + 1, hj, hx => by
    simp only [List.getElem_cons_succ] at hx
    simp only [List.flatMap_cons, List.set_cons_succ]
    rw [← flat_set hf ho l j (by simpa using hj) hx]
    have e : (j + 1) * sz = sz + j * sz := by rw [Nat.add_mul, Nat.one_mul, Nat.add_comm]
    rw [e, List.set_append_right _ _ (by rw [hf]; omega), hf]
    congr 2
    omega

/-- A field of an element is written. -/
theorem Row.stF (E : Enc sz f) (h : Row sz f T w p c l) {i : Int} {n o : Nat} {v : Value} (d x : α) (hx : f x = (f (l.getD i.toNat d)).set o v) (hso : o < sz) (ho : oneCell v = true) (h0 : 0 ≤ i) (hn : n = l.length) (h1 : i < n) {K : World → Prop}
    (hk : ∀ w', Row sz f T w' p c (l.set i.toNat x) → Mod (fun b => blk p = some b) w w' → K w') : ixK p n i sz fun a => ∃ w', StoreAt (a.add o) 0 [v] w w' ∧ K w' := by
  subst hn
  rcases h.un with ⟨_, _, rfl⟩ | ⟨g, cur, rfl, hg, h2, h3, h4, h5⟩
  · simp at h1; omega
  · refine ⟨_, rfl, h0, h1, ?_⟩
    rw [add_at, Nat.zero_add]
    show ∃ w', StoreAt ((Addr.mk g (i.toNat * sz) none).add o) 0 [v] w w' ∧ K w'
    rw [add_at]
    have hb : i.toNat * sz + sz ≤ l.length * sz := by
      have : (i.toNat + 1) * sz ≤ l.length * sz := Nat.mul_le_mul_right _ (by omega)
      rwa [Nat.add_mul, Nat.one_mul] at this
    have hb2 : l.length * sz ≤ c * sz := Nat.mul_le_mul_right _ h2
    refine store_t (cs := cur) hg (by simp; omega) (by simp [ho]) fun w' hw m _ => hk w' ?_ (m.mono fun k _ e => by simp [blk, e])
    refine Row.of_some E.len hw (by simpa using h2) h3 (by rw [wr_size]; exact h4) ?_
    have hl : i.toNat < l.length := by omega
    have e1 : (l.getD i.toNat d) = l[i.toNat] := by simp [List.getD, hl]
    rw [e1] at hx
    rw [List.length_set, ← flat_set E.len hso l i.toNat hl hx, ← h5, Nat.add_zero]
    simp only [wr, Array.toList_setIfInBounds, List.take_set]

/-- A type of slices, of elements of so many cells. -/
def slOkN (P : Program) (t e : TypeId) (sz bytes : Nat) : Bool :=
  (match P.underlying t with | some (.slice e') => Nat.beq e' e | _ => false) && (match P.info? e with | some i => Nat.beq i.size sz && Nat.beq i.bytes bytes && (match i.zero with | some z => Nat.beq z.cells.size sz | none => false) | none => false)

theorem slOkN_spec {t e bytes : Nat} (h : slOkN P t e sz bytes = true) : P.underlying t = some (.slice e) ∧ ∃ i z, P.info? e = some i ∧ i.zero = some z ∧ i.size = sz ∧ i.bytes = bytes ∧ z.cells.size = sz := by
  simp only [slOkN, Bool.and_eq_true] at h
  obtain ⟨h1, h2⟩ := h
  split at h1
  · rename_i e' he
    have : e' = e := Nat.eq_of_beq_eq_true h1
    subst this
    split at h2
    · rename_i i hi
      simp only [Bool.and_eq_true] at h2
      obtain ⟨⟨h3, h4⟩, h5⟩ := h2
      split at h5
      · rename_i z hz
        exact ⟨he, i, z, hi, hz, Nat.eq_of_beq_eq_true h3, Nat.eq_of_beq_eq_true h4, Nat.eq_of_beq_eq_true h5⟩
      · simp at h5
    · simp at h2
  · simp at h1

/-- The flat row of elements that stand from an address on. -/
theorem Vr.flat (E : Enc sz f) {a : Addr} (h : Vr sz f w (some a) l) : ∀ j u, (l.flatMap f)[j]? = some u → w.cell? (a.add j) = some u := by
  intro j u hj
  have hlt : j < l.length * sz := by rw [← flat_len E.len l]; exact (List.getElem?_eq_some_iff.1 hj).1
  have hd : j / sz < l.length := (Nat.div_lt_iff_lt_mul E.pos).2 hlt
  have hm := Nat.mod_lt j E.pos
  have e : j = j / sz * sz + j % sz := by rw [Nat.mul_comm]; exact (Nat.div_add_mod j sz).symm
  obtain ⟨a', ha, hc⟩ := h (j / sz) hd
  simp only [Option.some.injEq] at ha
  subst ha
  rw [e, flat_get E.len l _ _ hd hm] at hj
  have := hc.get (j % sz) u hj
  rw [add_add, Nat.zero_add, ← e] at this
  exact this

/-- A slice grows by elements that stand somewhere. -/
theorem Row.app {t ty e bytes : Nat} (E : Enc sz f) (hs : slOkN P t e sz bytes = true) (h : Row sz f e w p c l) {news : List α} {m k n : Nat} (h2 : Vr sz f w q news) (hn : n = l.length) (hm : m = news.length)
    (hlen : (l.length + news.length) * (bytes + 1) ≤ 140737488355328) {K : World → Option Addr → Nat → Nat → Prop}
    (hk : ∀ w' p' c', Row sz f e w' p' c' (l ++ news) → Mod (fun b => blk p = some b) w w' → (p' = p ∨ p' = some ⟨w.heap.size, 0, none⟩) → w.heap.size ≤ w'.heap.size → K w' p' (l ++ news).length c') :
    ∃ w', ∃ p' n' c', (Builtin.append_ #[t, t] ty #[.slice p n c, .slice q m k]).run P w = .ok (.slice p' n' c') w' ∧ K w' p' n' c' := by
  obtain ⟨ht, i, z, hi, hz, h1, hby, h3⟩ := slOkN_spec hs
  subst hn hm
  rcases Nat.eq_zero_or_pos news.length with h0 | hpos
  · have : news = [] := List.eq_nil_of_length_eq_zero h0
    subst this
    refine ⟨w, p, l.length, c, ?_, ?_⟩
    · rcases h.un with ⟨rfl, rfl, rfl⟩ | ⟨g, cur, rfl, hg, g1, g2, g3, g4⟩ <;> cases q <;>
        simp [Builtin.append_, run_underlying ht, sizeOf, typeInfo, Builtin.lenOf, Builtin.firstCells, loadCells, loadCellsFrom, storeCells, *]
    · have := hk w p c (by simpa using h) (Mod.refl w) (.inl rfl) (Nat.le_refl _)
      simpa using this
  · obtain ⟨a, rfl, _⟩ := h2 0 hpos
    have hb : (l.length + news.length) * bytes ≤ 140737488355328 := Nat.le_trans (Nat.mul_le_mul_left _ (Nat.le_succ _)) hlen
    have hb2 : l.length + news.length ≤ 140737488355328 := Nat.le_trans (Nat.le_mul_of_pos_right _ (Nat.succ_pos _)) hlen
    have hll : (l ++ news).length = l.length + news.length := by simp
    have hfl := flat_len E.len l
    have hfn := flat_len E.len news
    have hns : (news.flatMap f).length = news.length * i.size := by rw [hfn, h1]
    have hnc := h2.flat E
    have hone : ∀ u ∈ news.flatMap f, u.oneCell' = true := fun u hu => by obtain ⟨x, _, hx⟩ := List.mem_flatMap.1 hu; exact E.one x u hx
    have hle : l.length * sz + news.length * sz = (l.length + news.length) * sz := (Nat.add_mul _ _ _).symm
    have fresh : ∀ old, Row sz f e (w.drew.alloc (.cells ((l.flatMap f).toArray ++ (news.flatMap f).toArray ++ Builtin.zeroCells z.cells (grownCap w (l.length + news.length) old e - (l.length + news.length))) e))
        (some ⟨w.heap.size, 0, none⟩) (grownCap w (l.length + news.length) old e) (l ++ news) := by
      intro old
      have hge := grownCap_ge w (l.length + news.length) old e
      have hlm : grownCap w (l.length + news.length) old e ≤ maxLen := grownCap_le_maxLen w _ old e (by simp only [maxLen]; omega)
      refine Row.of_some E.len (cur := (l.flatMap f).toArray ++ (news.flatMap f).toArray ++ Builtin.zeroCells z.cells (grownCap w (l.length + news.length) old e - (l.length + news.length))) Array.getElem?_push_size (by omega) hlm ?_ ?_
      · simp only [Array.size_append, List.size_toArray, size_zeroCells, h3, hfl, hfn, hle]
        rw [← Nat.add_mul]; congr 1; omega
      · simp only [Array.toList_append, List.flatMap_append]
        rw [hll, ← hle, List.take_append_of_le_length (by simp [hfl, hfn]), List.take_of_length_le (by simp [hfl, hfn])]
    have gr : ∀ (o : Obj), Mod (fun b => blk p = some b) w (w.drew.alloc o) := fun o => ⟨rfl, rfl, rfl, by simp, fun k hk _ => Below.heap_alloc w.drew o k hk⟩
    rcases h.un with ⟨rfl, rfl, rfl⟩ | ⟨g, cur, rfl, hg, g1, g2, g3, g4⟩
    · have hr := run_append_nil (P := P) w t ty e i z ht hi hz a news.length k (news.flatMap f) hns hnc hpos (by simp at hb2; omega) (by rw [hby]; simp at hb; omega)
      have hf := fresh 0
      simp only [List.length_nil, Nat.zero_add, List.flatMap_nil, List.nil_append] at hf hr hll hk ⊢
      refine ⟨_, _, _, _, hr, ?_⟩
      exact hk _ _ _ (by simpa using hf) (gr _) (.inr rfl) (by simp)
    · by_cases hroom : l.length + news.length ≤ c
      · have hcs : l.length * sz + news.length * sz ≤ cur.size := by rw [hle, g3]; exact Nat.mul_le_mul_right _ hroom
        have hr := run_append_room (P := P) w t ty e i ht hi g l.length c cur hg a news.length k (news.flatMap f) hns hnc hone hroom (by rw [h1, hfn]; exact hcs)
        refine ⟨_, _, _, _, hr, ?_⟩
        rw [← hll]
        refine hk _ _ _ (Row.of_some E.len (setRow_heap w g cur _ e _ hg) (by omega) g2 ?_ ?_) ⟨rfl, rfl, rfl, by simp, fun k _ hk => setRow_other w g k _ fun he => hk (by simp [blk, he])⟩ (.inl rfl) (by simp)
        · simp only [List.size_toArray, List.length_append, List.length_take, List.length_drop, Array.length_toList, hfn, h1]
          omega
        · rw [hll, h1, List.flatMap_append, ← hle, ← g4]
          rw [List.take_append_of_le_length (by simp [hfn]; omega), List.take_of_length_le (by simp [hfn]; omega)]
      · have hr := run_append_grow (P := P) w t ty e i z ht hi hz ⟨g, 0, none⟩ l.length c (l.flatMap f) (by rw [hfl, h1]) ((Row.vr E h).flat E) a news.length k (news.flatMap f) hns hnc (by omega) (by omega) (growslice_fits (by omega) (by rw [hby]; exact hb))
        refine ⟨_, _, _, _, hr, ?_⟩
        rw [← hll]
        exact hk _ _ _ (by rw [hll]; exact fresh c) (gr _) (.inr rfl) (by simp)

end Go.Fw
