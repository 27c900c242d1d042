/- Layer 19: squares of literals; edges; nodes; squares that are filled, field by field. -/
import Derived.Test.YtambabpklfeaoaaRank13
import Derived.Test.YtambabpklfeaoaaRank15
import Derived.Test.YtambabpklfeaoaaLitF
import Derived.Test.YtambabpklfeaoaaFwMore
import Derived.Test.YtambabpklfeaoaaPureA
namespace Go.Proofs.Ytambabpklfeaoaa.W
open Go Go.Fw Go.RowKit Go.TsP

/-- Is a list of rows a square of literals? -/
def isSq (N : Nat) (rows : List (List Int)) : Bool := decide (rows.length ≤ 40) && rows.all fun r => decide (r.length = rows.length) && r.all (isL N)

theorem is1_ok {w : World} {b n : Nat} {x : AG} (h : ARep w b x) (hb : x.g.length ≤ 1048576) (H : Has w n #[ptr b]) (l : Int) :
    Calls Try.prog rank_is_1.id #[.int .i64 l, .pointer (some ⟨n, 0, none⟩)] w fun e w' => e = .returned (.bool (!isL x.g.length l)) ∧ Grow w w' := by
  refine rank_is_1.calls ?_
  refine ⟨_, cell_of H rfl, (aigIs_ok h hb l).mono ?_⟩
  rintro e w2 ⟨rfl, g⟩
  exact ⟨_, rfl, rfl, g⟩
theorem is1_ent : entB Try.prog rank_is_1.id = true := by kernel_rfl
theorem argsR (u v : Value) : (#[] ++ #[u] ++ #[v] : Array Value) = #[u, v] := by simp
theorem any_nisR {n : Nat} {l : List Int} : l.any (fun x => !isL n x) = !l.all (isL n) := by
  induction l with
  | nil => rfl
  | cons x l ih => rw [List.any_cons, List.all_cons, ih, Bool.not_and]
theorem allTakeR {α : Type} {l : List α} {q : α → Bool} {t : Nat} {d : α} (ht : t < l.length) (h : (l.take t).all q = true) (hq : q (l.getD t d) = true) : (l.take (t + 1)).all q = true := by
  rw [List.take_add_one, List.all_append, h]
  have : l[t]? = some (l.getD t d) := by simp [List.getD, ht]
  simp only [this, Option.toList_some, List.all_cons, List.all_nil, hq, Bool.and_true]
theorem allFalseR {α : Type} {l : List α} {q : α → Bool} {t : Nat} {d : α} (ht : t < l.length) (hq : q (l.getD t d) = false) : l.all q = false := by
  rw [← Bool.not_eq_true, List.all_eq_true]
  intro h
  rw [h _ (by simp [List.getD, ht])] at hq; cases hq
theorem rIx {α : Type} {f : α → Value} {w : World} {q : Option Addr} {hs : List Sl} {cs : List (List α)} (hc : V2 f w q hs cs) {m t : Nat} (hm : m = cs.length) (ht : t < cs.length) {K : Addr → Prop} (hk : ∀ a (s : Sl), w.cell? a = some (.slice s.p s.n s.c) → s = hs.getD t Sl.nil → s.n = (cs.getD t []).length → s.n ≤ maxLen → Vw f w s.p (cs.getD t []) → K a) : ixK q m (t : Int) 1 K :=
  hc.ix (by omega) hm (by omega) fun a s e hs h1 h2 h3 => hk a s e (by rw [Int.toNat_natCast] at hs; exact hs) (by rw [Int.toNat_natCast] at h1; exact h1) h2 (by rw [Int.toNat_natCast] at h3; exact h3)

theorem rankIs_ok {w : World} {b : Nat} {x : AG} (h : ARep w b x) (hb : x.g.length ≤ 1048576) {q : Option Addr} {m d : Nat} {hs : List Sl} {cs : List (List Int)} (hc : V2 (Value.int .i64) w q hs cs) (hm : m = cs.length) :
    Calls Try.prog rank_is.id #[ptr b, .slice q m d] w fun e w' => e = .returned (.bool (isSq x.g.length cs)) ∧ Grow w w' := by
  subst hm
  refine rank_is.calls ?_
  intro n1 w2 h2
  have H := h2.has
  refine ⟨_, cell_of H rfl, (aigIs_ok (h.grow h2.mod) hb 0).mono ?_⟩
  rintro e w4 ⟨rfl, g4⟩
  have G4 := h2.mod.trans g4
  have bad : ∀ w', Grow w w' → isSq x.g.length cs = false → (Ending.returned (.bool false) = .returned (.bool (isSq x.g.length cs)) ∧ Grow w w') := fun w' g hf => by rw [hf]; exact ⟨rfl, g⟩
  refine ⟨_, rfl, cnd_f (by simp; omega) (cnd_i (fun s => bad _ G4 ?_) (fun s => ?_))⟩ <;> simp only [decide_eq_true_eq, decide_eq_false_iff_not] at s
  · unfold isSq; rw [decide_eq_false (by omega), Bool.false_and]
  have yes : isSq x.g.length cs = cs.all fun r => decide (r.length = cs.length) && r.all (isL x.g.length) := by unfold isSq; rw [decide_eq_true (by omega), Bool.true_and]
  refine ⟨fun v w' z => ∃ t : Nat, v = t ∧ t ≤ cs.length ∧ ((cs.take t).all fun r => decide (r.length = cs.length) && r.all (isL x.g.length)) = true ∧ Grow w4 w' ∧ z + t = cs.length, ⟨_, 0, rfl, Nat.zero_le _, rfl, Mod.refl _, rfl⟩, ?_⟩
  rintro v w10 z _ ⟨t, rfl, ht, ha, G, hz⟩
  have G10 := G4.trans G
  refine cnd_i (fun s2 => ?_) (fun s2 => ?_) <;> simp only [decide_eq_true_eq, decide_eq_false_iff_not] at s2
  · have ht' : t < cs.length := by omega
    refine rIx (hc.grow G10) rfl ht' fun a sl e _ hsn hsm hv => ⟨_, _, _, e, cnd_i (fun s3 => bad _ G10 ?_) (fun s3 => ?_)⟩
    · have s3 : (sl.n : Int) ≠ cs.length := by simpa using s3
      rw [yes]
      exact allFalseR (d := []) ht' (by rw [decide_eq_false (by omega), Bool.false_and])
    · have s3 : (sl.n : Int) = cs.length := by simpa using s3
      refine (containsFunc_ok hv hsn hsm is1_ent (fun l => !isL x.g.length l) fun l _ w' g' => ?_).mono ?_
      · rw [argsR]
        exact is1_ok ((h.grow G10).grow g') hb (((H.grow g4).grow G).grow g') l
      · rintro e w13 ⟨rfl, g13⟩
        rw [any_nisR]
        refine ⟨_, rfl, cnd_i (fun s4 => bad _ (G10.trans g13) ?_) (fun s4 => ⟨z - 1, by omega, t + 1, by rw [wrap64_of (by omega) (by omega)]; omega, ht', allTakeR (d := []) ht' ha ?_, G.trans g13, by omega⟩)⟩
        · rw [yes]
          exact allFalseR (d := []) ht' (by rw [decide_eq_true (by omega), Bool.true_and]; simpa using s4)
        · rw [decide_eq_true (by omega), Bool.true_and]; simpa using s4
  · have : t = cs.length := by omega
    subst this
    rw [List.take_length] at ha
    rw [yes, ha]
    exact ⟨rfl, G10⟩

/-- Clauses of edges. -/
def edK (A : Nat → Nat → Int) (E : List (List Int)) (i j : Nat) : List (List Int) := if (E.getD i []).getD j 0 ≠ 0 then [[flip ((E.getD i []).getD j 0), A i j]] else []
def edI (A : Nat → Nat → Int) (E : List (List Int)) (i m : Nat) : List (List Int) := (List.range m).flatMap (edK A E i)
def edO (A : Nat → Nat → Int) (E : List (List Int)) (n m : Nat) : List (List Int) := (List.range m).flatMap fun i => edI A E i n
theorem edI_succ (A : Nat → Nat → Int) (E : List (List Int)) (i m : Nat) : edI A E i (m + 1) = edI A E i m ++ edK A E i m := by simp [edI, List.range_succ]
theorem edO_succ (A : Nat → Nat → Int) (E : List (List Int)) (n m : Nat) : edO A E n (m + 1) = edO A E n m ++ edI A E m n := by simp [edO, List.range_succ]

/-- Clauses are being gathered, of which rows are looked at. -/
def OSt2 (w9 w : World) (mp : Option Addr) (mn mc : Nat) (L : List (List Int)) : Prop := mn = L.length ∧ ∃ ms, OV (Value.int .i64) ty_sl_int w mp mc ms L ∧ (∀ k, OV.foot mp ms k → w9.heap.size ≤ k) ∧ Grow w9 w
theorem OSt2.grow {w9 w w' : World} {mp : Option Addr} {mn mc : Nat} {L : List (List Int)} (h : OSt2 w9 w mp mn mc L) (g : Grow w w') : OSt2 w9 w' mp mn mc L := by
  obtain ⟨h1, ms, h2, h3, h4⟩ := h
  exact ⟨h1, ms, h2.grow g, h3, h4.trans g⟩

theorem OSt2.app {w9 w : World} {mp : Option Addr} {mn mc : Nat} {L : List (List Int)} (h : OSt2 w9 w mp mn mc L) (hb : mn ≤ 1000000) {K : World → Option Addr → Nat → Nat → Prop} (a c : Int)
    (hk : ∀ w' mp' mn' mc', OSt2 w9 w' mp' mn' mc' (L ++ [[a, c]]) → mn' = mn + 1 → K w' mp' mn' mc') :
    ∀ (n72 : Nat) (w73 : World), New (.cells #[.int .i64 a, .int .i64 c] ty_int) w n72 w73 → ∀ (n74 : Nat) (w75 : World), New (.cells #[.slice (some (Addr.mk n72 0 none)) 2 2] ty_sl_int) w73 n74 w75 → 
      ∃ w76 : World, ∃ r77_p : Option Addr, ∃ r77_n : Nat, ∃ r77_c : Nat, (Builtin.append_ #[ty_sl_sl_int, ty_sl_sl_int] ty_sl_sl_int #[.slice mp mn mc, .slice (some (Addr.mk n74 0 none)) 1 1]).run Try.prog w75 = .ok (.slice r77_p r77_n r77_c) w76 ∧ K w76 r77_p r77_n r77_c := by
  intro n72 w73 h72 n74 w75 h74
  obtain ⟨h1, ms, o, hf, G⟩ := h
  have olt := o.lt
  have s72 := h72.num
  have ol : OwI ty_int w73 (some ⟨n72, 0, none⟩) 2 [a, c] := New.ow (l := [a, c]) h72 rfl (by show 2 ≤ maxLen; decide)
  have o75 := (o.grow h72.mod).grow h74.mod
  have G75 := (G.trans h72.mod).trans h74.mod
  have hv : Vw Sl.v w75 (some ⟨n74, 0, none⟩) [⟨some ⟨n72, 0, none⟩, 2, 2⟩] := by
    intro j hj
    have : j = 0 := by simpa using hj
    subst this
    exact ⟨_, rfl, cell_add h74.has rfl⟩
  have rf : ∀ k, rfoot [(⟨some ⟨n72, 0, none⟩, 2, 2⟩ : Sl)] k → k = n72 := fun k ⟨s, hm, _, hk⟩ => by
    simp at hm; subst hm
    exact blk_some hk
  have oh := o.v.n
  refine o75.app sl_sl_int hv (VR.one (ol.grow h74.mod).vw rfl (by unfold maxLen; simp)) (by omega) rfl (fun k hk e => ?_) (by simp; omega) fun w76 p' c' o' m hp hsz => ?_
  · have := olt k (.inl e)
    have := rf k hk
    omega
  have z := G.size
  have e : (ms ++ [(⟨some ⟨n72, 0, none⟩, 2, 2⟩ : Sl)]).length = mn + 1 := by simp; omega
  rw [e]
  refine hk w76 p' _ c' ⟨by simp [h1], _, o', ?_, G75.then m fun k hk e => by have := hf k (.inl e); omega⟩ rfl
  rintro k (e | e)
  · rcases hp with h2 | h2 <;> rw [h2] at e
    · exact hf k (.inl e)
    · have := blk_some e; have := G75.size; omega
  · rcases rfoot_app.1 e with e | e
    · exact hf k (.inr e)
    · have := rf k e; omega

theorem edges_ok {w : World} {b : Nat} {x : AG} (h : ARep w b x) (hb : x.g.length ≤ 1048576) {p q : Option Addr} {n c m d : Nat} {hr he : List Sl} {R E : List (List Int)} (hR : V2 (Value.int .i64) w p hr R) (hn : n = R.length) (hE : V2 (Value.int .i64) w q he E) (hm : m = E.length) (hs1 : isSq x.g.length R = true) (hs2 : isSq x.g.length E = true) (hl : R.length = E.length) :
    Calls Try.prog rank_Edges.id #[ptr b, .slice p n c, .slice q m d] w fun e w' => ∃ po no co, e = .returned (.slice po no co) ∧ OSt2 w w' po no co (edO (fun i j => (R.getD i []).getD j 0) E n n) := by
  subst hn
  have hmR : m = R.length := by omega
  subst hmR
  refine rank_Edges.calls ?_
  refine (rankIs_ok h hb hR rfl).mono ?_
  rintro e w1 ⟨rfl, g1⟩
  refine ⟨_, rfl, cnd_f (by rw [hs1]; rfl) ((rankIs_ok (h.grow g1) hb (hE.grow g1) hm).mono ?_)⟩
  rintro e w3 ⟨rfl, g3⟩
  have G3 := g1.trans g3
  have hsq := hs2
  simp only [isSq, Bool.and_eq_true, decide_eq_true_eq, List.all_eq_true] at hsq
  have hsr := hs1
  simp only [isSq, Bool.and_eq_true, decide_eq_true_eq, List.all_eq_true] at hsr
  have rowl : ∀ i, i < R.length → (E.getD i []).length = R.length ∧ (R.getD i []).length = R.length := fun i hi => by
    refine ⟨?_, ?_⟩
    · rw [(hsq.2 (E.getD i []) (by simp [List.getD, show i < E.length by omega])).1, hl]
    · exact (hsr.2 (R.getD i []) (by simp [List.getD, hi])).1
  have ebd : ∀ i j, i < R.length → j < R.length → 0 ≤ (E.getD i []).getD j 0 ∧ (E.getD i []).getD j 0 ≤ 2 * x.g.length + 1 := fun i j hi hj => by
    have := (hsq.2 (E.getD i []) (by simp [List.getD, show i < E.length by omega])).2 _ (getD_mem (l := E.getD i []) (t := j) (by rw [(rowl i hi).1]; exact hj) 0)
    simpa [isL] using this
  refine ⟨_, rfl, cnd_f (by rw [hs2]; rfl) (cnd_f (bne_self_eq_false _) ?_)⟩
  refine ⟨fun mp mn mc v w' k => ∃ i : Nat, v = i ∧ i ≤ R.length ∧ k + i = R.length ∧ mn ≤ 40 * i ∧ OSt2 w w' mp mn mc (edO (fun i j => (R.getD i []).getD j 0) E R.length i), ⟨_, 0, rfl, by omega, rfl, by omega, rfl, [], OV.nil, (by rintro k (e | ⟨s, hs, _⟩) <;> simp [blk] at *), G3⟩, ?_⟩
  rintro mp mn mc v w10 k _ ⟨i, rfl, hi, hk, hbn, T⟩
  refine cnd_i (fun s => ?_) (fun s => ?_) <;> simp only [decide_eq_true_eq, decide_eq_false_iff_not] at s
  · have hi' : i < R.length := by omega
    obtain ⟨_, _, _, _, G10⟩ := id T
    refine rIx (hE.grow G10) hm (by omega) fun a sl e hsl hsn hsm hv => ⟨_, _, _, e, ?_⟩
    refine ⟨fun mp mn mc v w' m => ∃ j : Nat, v = j ∧ j ≤ R.length ∧ m + j = R.length ∧ mn ≤ 40 * i + j ∧ OSt2 w w' mp mn mc (edO (fun i j => (R.getD i []).getD j 0) E R.length i ++ edI (fun i j => (R.getD i []).getD j 0) E i j), ⟨_, 0, rfl, by omega, rfl, by omega, by simpa [edI] using T⟩, ?_⟩
    clear T hbn
    rintro mp mn mc v w18 z2 _ ⟨j, rfl, hj, hz2, hbn, T⟩
    have hrl := rowl i hi'
    refine cnd_i (fun s2 => ?_) (fun s2 => ?_) <;> simp only [decide_eq_true_eq, decide_eq_false_iff_not] at s2
    · have hj' : j < R.length := by omega
      have ej : IntKind.i64.wrap ((j : Int) + 1) = ((j + 1 : Nat) : Int) := by rw [wrap64_of (by omega) (by omega)]; omega
      rw [ej]
      obtain ⟨_, _, _, _, G18⟩ := id T
      have hv18 : Vw (Value.int .i64) w18 sl.p (E.getD i []) := by
        rw [hsl]; exact ((hE.grow G18).r i (by omega)).2.2
      refine hv18.ix 0 (by omega) hsn (by omega) fun a e => ⟨_, e, ?_⟩
      rw [Int.toNat_natCast]
      have eb := ebd i j hi' hj'
      refine cnd_i (fun s3 => ?_) (fun s3 => ?_)
      · have s3 : (E.getD i []).getD j 0 ≠ 0 := by simpa using s3
        refine rIx (hR.grow G18) rfl hi' fun a sl2 e _ hsn2 hsm2 hv2 => ⟨_, _, _, e, hv2.ix 0 (by omega) hsn2 (by omega) fun a e => ⟨_, e, ?_⟩⟩
        rw [Int.toNat_natCast, xor1 eb.1 (by omega)]
        refine T.app (by omega) _ _ fun w' mp' mn' mc' T' hmn => ⟨z2 - 1, by omega, j + 1, rfl, by omega, by omega, by omega, ?_⟩
        rw [edI_succ, edK, if_pos s3, ← List.append_assoc]
        exact T'
      · have s3 : ¬ (E.getD i []).getD j 0 ≠ 0 := by simpa using s3
        refine ⟨z2 - 1, by omega, j + 1, rfl, by omega, by omega, by omega, ?_⟩
        rw [edI_succ, edK, if_neg s3, List.append_nil]
        exact T
    · have : j = R.length := by omega
      subst this
      refine ⟨k - 1, by omega, i + 1, by rw [wrap64_of (by omega) (by omega)]; omega, by omega, by omega, by omega, ?_⟩
      rw [edO_succ]
      exact T
  · have : i = R.length := by omega
    subst this
    exact ⟨_, _, _, rfl, T⟩

theorem nodes_ok {w : World} {b : Nat} {x : AG} (h : ARep w b x) (hb : x.g.length ≤ 1048576) : Calls Try.prog aig_Aig_Nodes.id #[ptr b] w fun e w' => ∃ p c, e = .returned (.slice p x.g.length c) ∧ Vr 2 gateV w' p x.g ∧ Grow w w' := by
  refine aig_Aig_Nodes.calls ?_
  refine cnd_f rfl ⟨_, rfl, _, _, _, cell_add h.me rfl, ?_⟩
  have cl : Calls Try.prog slices_Clone_fathom_api_Gate_fathom_api_Gate.id #[.slice x.pg x.g.length x.cg] w fun e w' => ∃ p c, e = .returned (.slice p x.g.length c) ∧ Vr 2 gateV w' p x.g ∧ Grow w w' := by
    refine slices_Clone_fathom_api_Gate_fathom_api_Gate.calls ?_
    refine cnd_i (fun s => ?_) (fun s => ?_)
    · have hp : x.pg = none := by simpa using s
      have hg : x.g = [] := by
        rcases h.hg.un with ⟨_, _, e⟩ | ⟨g, _, e, _⟩
        · exact e
        · rw [hp] at e; cases e
      refine ⟨none, 0, by rw [hg]; rfl, by rw [hg]; exact Vr.nil, Mod.refl w⟩
    · intro n1 w2 h2
      have R0 : Row 2 gateV ty_api_Gate w2 (some ⟨n1, 0, none⟩) 0 [] := Row.of_some gateE.len h2.at (Nat.le_refl _) (Nat.zero_le _) rfl rfl
      refine Row.app gateE sl_gate R0 ((h.hg.grow h2.mod).vr gateE) rfl rfl (by simp; omega) fun w3 p c R m hp z => ?_
      rw [List.nil_append] at R ⊢
      exact ⟨p, c, rfl, R.vr gateE, h2.mod.then m fun k hk e => by have := blk_some e; have := h2.num; omega⟩
  refine cl.mono ?_
  rintro e w3 ⟨p, c, rfl, hv, g⟩
  exact ⟨_, _, _, rfl, p, c, rfl, hv, g⟩

theorem filledO_ok {w : World} {n : Nat} (hn6 : n ≤ 6) {q : Option Addr} {m c : Nat} {l : List Bool} (h : Vw Value.bool w q l) (hm : m = l.length) :
    Calls Try.prog fathomlaw19_filled.id #[.int .i64 (n : Int), .slice q m c] w fun e w' => (∃ p c' hs rows, e = .returned (.slice p n c') ∧ SqV w' p n hs rows ∧ (∀ i j, i < n → j < n → (rows.getD i []).getD j false = l.getD (i * n + j) false) ∧ (∀ k, foot2 p hs k → w.heap.size ≤ k) ∧ Own2 Value.bool ty_sl_bool ty_bool w' p c' hs rows) ∧ Grow w w' := by
  refine fathomlaw19_filled.calls ?_
  have ew : ∀ t : Nat, t < n → IntKind.i64.wrap ((t : Int) + 1) = ((t + 1 : Nat) : Int) := fun t ht => by rw [wrap64_of (by omega) (by omega)]; omega
  intro n1 w2 h1
  have s1 := h1.num
  have z1 := h1.mod.size
  refine ⟨fun p1 n1 c1 v w' k => ∃ t : Nat, ∃ hs rows, v = t ∧ t ≤ n ∧ k + t = n ∧ n1 = t ∧ rows.length = t ∧ (∀ i, i < t → (rows.getD i []).length = n) ∧ (∀ i j, i < t → j < n → (rows.getD i []).getD j false = l.getD (i * n + j) false) ∧ Own2 Value.bool ty_sl_bool ty_bool w' p1 c1 hs rows ∧ (∀ k, foot2 p1 hs k → w.heap.size ≤ k) ∧ Grow w w', ⟨n, 0, [], [], rfl, by omega, rfl, rfl, rfl, fun i hi => by omega, fun i j hi => by omega, ⟨h1.empty, rfl, by simp, by simp, by simp⟩, ?_, h1.mod⟩, ?_⟩
  · rintro k (hk | ⟨s, hs, _⟩)
    · simp [blk] at hk; omega
    · cases hs
  rintro p1 t c1 v w8 k _ ⟨_, hs, rows, rfl, ht, hk, rfl, hl, hr, hval, o, hf, G⟩
  refine cnd_i (fun q => ?_) (fun q => ?_) <;> simp only [decide_eq_true_eq, decide_eq_false_iff_not] at q
  · have ht' : t < n := by omega
    rw [ew t ht']
    refine make_i sl_bool bool_zero (f := Value.bool) (x := false) rfl n rfl (by omega) fun w9 o9 g9 z9 => ?_
    refine ⟨fun v w' m => ∃ j : Nat, ∃ x, v = j ∧ j ≤ n ∧ m + j = n ∧ x.length = n ∧ (∀ a, a < j → x.getD a false = l.getD (t * n + a) false) ∧ OwB ty_bool w' (some ⟨w8.heap.size, 0, none⟩) n x ∧ Grow w8 w', ⟨n, 0, _, rfl, by omega, rfl, by simp, fun a ha => by omega, o9, g9⟩, ?_⟩
    rintro v w15 m2 _ ⟨j, x, rfl, hj, hm2, hx, hxv, ox, G8⟩
    have dr : ∀ k, blk (some (⟨w8.heap.size, 0, none⟩ : Addr)) = some k → k = w8.heap.size := fun k hk => by simp [blk] at hk; exact hk.symm
    refine cnd_i (fun q2 => ?_) (fun q2 => ?_) <;> simp only [decide_eq_true_eq, decide_eq_false_iff_not] at q2
    · have hj' : j < n := by omega
      have b1 : t * n ≤ 36 := Nat.le_trans (Nat.mul_le_mul (by omega : t ≤ 6) hn6) (by omega)
      have e1 : ((t : Int) * n) = ((t * n : Nat) : Int) := by simp
      rw [ew j hj', e1, wrap64_of (x := ((t * n : Nat) : Int)) (by omega) (by omega), wrap64_of (by omega) (by omega)]
      have put : ∀ y, y = l.getD (t * n + j) false → ixK (some ⟨w8.heap.size, 0, none⟩) n (j : Int) 1 fun a => ∃ w', StoreAt a 0 [.bool y] w15 w' ∧ ∃ k13, k13 < m2 ∧ ∃ j' : Nat, ∃ x, ((j + 1 : Nat) : Int) = j' ∧ j' ≤ n ∧ k13 + j' = n ∧ x.length = n ∧ (∀ a, a < j' → x.getD a false = l.getD (t * n + a) false) ∧ OwB ty_bool w' (some ⟨w8.heap.size, 0, none⟩) n x ∧ Grow w8 w' := fun y hy =>
        ox.st y rfl rfl (by omega) hx.symm (by omega) fun w' o' m' => ⟨m2 - 1, by omega, j + 1, _, rfl, by omega, by omega, by rw [List.length_set]; exact hx, fun a ha => by
          rw [Int.toNat_natCast, getD_set (by omega)]
          by_cases e : a = j
          · rw [if_pos e, hy, e]
          · rw [if_neg e]; exact hxv a (by omega), o', G8.then m' fun k hk e => by have := dr k e; omega⟩
      refine cnd_i (fun q3 => ?_) (fun q3 => put _ ?_)
      · have q3 := of_decide_eq_true q3
        refine ((h.grow G).grow G8).ix false (by omega) hm q3 fun a e => ⟨_, e, put _ ?_⟩
        first | rfl | congr 1
      · have q3 := of_decide_eq_false q3
        simp [List.getD, show l.length ≤ t * n + j by omega]
    · intro n22 w23 hnew
      have s23 := hnew.mod.size
      have s15 := G8.size
      have sG := G.size
      have lt8 := o.lt
      have ej : j = n := by omega
      refine Own2.app1 (s := ⟨some ⟨w8.heap.size, 0, none⟩, n, n⟩) (x := x) sl_sl_bool ((o.grow G8).grow hnew.mod) hnew.has hl.symm (ox.grow hnew.mod) hx.symm (fun k hk hk2 => ?_) (by omega) fun w' p2 c2 o2 m hp hsz => ?_
      · have := dr k hk
        have := lt8 k hk2
        omega
      · refine ⟨k - 1, by omega, t + 1, _, _, rfl, by omega, by omega, by rw [hl], by simp [hl], fun i hi => ?_, fun i j' hi hj' => ?_, o2, ?_, ?_⟩
        · rw [getD_app, hl]
          split
          · exact hx
          · exact hr i (by omega)
        · rw [getD_app, hl]
          split
          · rename_i e
            rw [e]; exact hxv j' (by omega)
          · exact hval i j' (by omega) hj'
        · rintro k (hk | ⟨s', hs', hk⟩)
          · rcases hp with rfl | rfl
            · exact hf k (.inl hk)
            · simp [blk] at hk; omega
          · rcases List.mem_append.1 hs' with hs' | hs'
            · exact hf k (.inr ⟨s', hs', hk⟩)
            · have := List.mem_singleton.1 hs'
              subst this
              have := dr k hk
              omega
        · exact ((G.trans G8).trans hnew.mod).then m fun k hk e => by have := hf k (.inl e); omega
  · have : t = n := by omega
    subst this
    exact ⟨⟨p1, c1, hs, rows, rfl, ⟨o.v2, hl.symm, by omega, fun i hi => by rw [hl] at hi; rw [hl]; exact hr i hi⟩, hval, hf, o⟩, G⟩
theorem filledV_ok {w : World} {n : Nat} (hn6 : n ≤ 6) {q : Option Addr} {m c : Nat} {l : List Bool} (h : Vw Value.bool w q l) (hm : m = l.length) :
    Calls Try.prog fathomlaw19_filled.id #[.int .i64 (n : Int), .slice q m c] w fun e w' => (∃ p c' hs rows, e = .returned (.slice p n c') ∧ SqV w' p n hs rows ∧ (∀ i j, i < n → j < n → (rows.getD i []).getD j false = l.getD (i * n + j) false) ∧ ∀ k, foot2 p hs k → w.heap.size ≤ k) ∧ Grow w w' := by
  refine (filledO_ok hn6 h hm).mono ?_
  rintro e w' ⟨⟨p, c', hs, rows, h1, h2, h3, h4, _⟩, g⟩
  exact ⟨⟨p, c', hs, rows, h1, h2, h3, h4⟩, g⟩
end Go.Proofs.Ytambabpklfeaoaa.W
