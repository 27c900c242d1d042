/- Layer 18: the cone. -/
import Derived.Test.YtambabpklfeaoaaTs3
namespace Go.Proofs.Ytambabpklfeaoaa.W
open Go Go.Fw Go.RowKit Go.TsP

theorem ts_sl_bool : slOk Try.prog ty_sl_bool ty_bool 1 = true := by kernel_rfl
theorem ts_bool_zero : (Try.prog.info? ty_bool).bind (·.zero) = some (.bool false) := by kernel_rfl

theorem tsAnd_ok (a b : Int) (w : World) : Calls Try.prog tseitin_and.id #[.agg #[.int .i64 a, .int .i64 b]] w fun e w' => e = .returned (.bool (decide (a ≥ 0))) ∧ Grow w w' := by
  refine tseitin_and.calls ?_
  intro n1 w2 h2
  exact ⟨_, cell_add h2.has rfl, rfl, h2.mod⟩

theorem cone_ok {w : World} {p q : Option Addr} {g : List (Int × Int)} {n c m d : Nat} {hs : List Sl} {cs : List (List Int)} (hn : n = g.length) (hg : n ≤ 4194304) (hm : m = cs.length) (hx : m ≤ 4194304) (hmay : mayT g cs = true) (h : Vr 2 gateV w p g) (hc : V2 (Value.int .i64) w q hs cs) :
    Calls Try.prog tseitin_cone.id #[.slice p n c, .slice q m d] w fun e w' => (∃ r cc inn, e = .returned (.slice r (g.length + 1) cc) ∧ OwB ty_bool w' r cc inn ∧ inn.length = g.length + 1 ∧ (∀ k, k ≤ g.length → (inn.getD k false = true ↔ H g cs k))) ∧ Grow w w' := by
  subst hn hm
  refine tseitin_cone.calls ?_
  have e1 : IntKind.i64.wrap ((g.length : Int) + 1) = ((g.length + 1 : Nat) : Int) := by rw [wrap64_of (by omega) (by omega)]; omega
  unfold tseitin_cone.w
  rw [e1]
  refine make_i ts_sl_bool ts_bool_zero (f := Value.bool) (x := false) rfl (g.length + 1) rfl (by omega) fun w1 o1 g1 z1 => ?_
  have fr : ∀ j, blk (some (Addr.mk w.heap.size 0 none)) = some j → w.heap.size ≤ j := fun j hj => by have := blk_some hj; omega
  generalize (some (Addr.mk w.heap.size 0 none)) = r at *
  refine ⟨fun v w' z => ∃ (t : Nat) (inn : List Bool), v = t ∧ t ≤ cs.length ∧ OwB ty_bool w' r (g.length + 1) inn ∧ inn.length = g.length + 1 ∧ (∀ k, k ≤ g.length → (inn.getD k false = true ↔ ∃ i, i < t ∧ ∃ l ∈ cs.getD i [], l.tdiv 2 = (k : Int))) ∧ Grow w w' ∧ z + t = cs.length,
    ⟨_, 0, _, rfl, Nat.zero_le _, o1, by simp, fun k hk => ?_, g1, rfl⟩, ?_⟩
  · simp [List.getD, show k < g.length + 1 by omega]
  clear o1 g1 z1
  rintro v w7 z _ ⟨t, inn, rfl, ht, o, hl, hi, G, hz⟩
  refine cnd_i (fun s => ?_) (fun s => ?_) <;> simp only [decide_eq_true_eq, decide_eq_false_iff_not] at s
  · have ht' : t < cs.length := by omega
    refine cIx (hc.grow G) rfl ht' fun a s e _ hsn hsm hv => ⟨_, _, _, e, ?_⟩
    unfold maxLen at hsm
    refine ⟨fun v w' z => ∃ (t2 : Nat) (inn : List Bool), v = t2 ∧ t2 ≤ (cs.getD t []).length ∧ OwB ty_bool w' r (g.length + 1) inn ∧ inn.length = g.length + 1 ∧ (∀ k, k ≤ g.length → (inn.getD k false = true ↔ (∃ i, i < t ∧ ∃ l ∈ cs.getD i [], l.tdiv 2 = (k : Int)) ∨ ∃ j, j < t2 ∧ ((cs.getD t []).getD j 0).tdiv 2 = (k : Int))) ∧ Grow w w' ∧ Mod (fun j => blk r = some j) w7 w' ∧ z + t2 = (cs.getD t []).length,
      ⟨_, 0, inn, rfl, Nat.zero_le _, o, hl, fun k hk => ?_, G, Mod.refl _, rfl⟩, ?_⟩
    · rw [hi k hk]
      constructor
      · exact .inl
      · rintro (h | ⟨j, hj, _⟩)
        · exact h
        · omega
    clear o hl hi
    rintro v w14 z2 _ ⟨t2, inn, rfl, ht2, o, hl, hi, G2, M2, hz2⟩
    refine cnd_i (fun s2 => ?_) (fun s2 => ?_) <;> simp only [decide_eq_true_eq, decide_eq_false_iff_not] at s2
    · have ht2' : t2 < (cs.getD t []).length := by omega
      have hll := mayT_l hmay ht' ht2'
      have hvg : Vw (Value.int .i64) w14 s.p (cs.getD t []) := by
        have := (hc.grow G2).r t ht'
        have e2 := (hc.r t ht').2.2
        rename s = hs.getD t Sl.nil => es
        rw [es]; exact this.2.2
      refine hvg.ix 0 (by omega) hsn (by omega) fun a e => ⟨_, e, by decide, ?_⟩
      rw [Int.toNat_natCast]
      generalize hlv : (cs.getD t []).getD t2 0 = lv at *
      have hd : lv.tdiv 2 = lv / 2 := Int.tdiv_eq_ediv_of_nonneg hll.1
      have ew : IntKind.i64.wrap (lv.tdiv 2) = lv.tdiv 2 := wrap64_of (by omega) (by omega)
      rw [ew]
      refine o.st true rfl rfl (by omega) hl.symm (by omega) fun w18 o18 m18 => ⟨z2 - 1, by omega, t2 + 1, _, by rw [wrap64_of (by omega) (by omega)]; omega, ht2', o18, by simpa using hl, fun k hk => ?_, G2.then m18 fun j hj e => by have := fr j e; omega, M2.trans m18, by omega⟩
      rw [getD_set (by omega)]
      have key : (∃ j, j < t2 + 1 ∧ ((cs.getD t []).getD j 0).tdiv 2 = (k : Int)) ↔ (∃ j, j < t2 ∧ ((cs.getD t []).getD j 0).tdiv 2 = (k : Int)) ∨ lv.tdiv 2 = k := by
        constructor
        · rintro ⟨j, hj, e9⟩
          rcases Nat.lt_or_ge j t2 with c | c
          · exact .inl ⟨j, c, e9⟩
          · have : j = t2 := by omega
            rw [this, hlv] at e9; exact .inr e9
        · rintro (⟨j, hj, e⟩ | e)
          · exact ⟨j, by omega, e⟩
          · exact ⟨t2, by omega, by rw [hlv]; exact e⟩
      rw [key]
      by_cases hk2 : k = (lv.tdiv 2).toNat
      · rw [if_pos hk2]
        simp only [true_iff]
        exact .inr (.inr (by omega))
      · rw [if_neg hk2, hi k hk]
        constructor
        · rintro (h | h)
          · exact .inl h
          · exact .inr (.inl h)
        · rintro (h | h | h)
          · exact .inl h
          · exact .inr h
          · omega
    · have et : t2 = (cs.getD t []).length := by omega
      subst et
      refine ⟨z - 1, by omega, t + 1, inn, by rw [wrap64_of (by omega) (by omega)]; omega, ht', o, hl, fun k hk => ?_, G2, by omega⟩
      rw [hi k hk]
      constructor
      · rintro (⟨i, hi, h⟩ | ⟨j, hj, e⟩)
        · exact ⟨i, by omega, h⟩
        · exact ⟨t, by omega, _, getD_mem hj 0, e⟩
      · rintro ⟨i, hi, l, hll, e⟩
        rcases Nat.lt_or_ge i t with c | c
        · exact .inl ⟨i, c, l, hll, e⟩
        · have : i = t := by omega
          subst this
          obtain ⟨j, hj⟩ := List.getElem?_of_mem hll
          have hjl := (List.getElem?_eq_some_iff.1 hj).1
          refine .inr ⟨j, hjl, ?_⟩
          rw [show (cs.getD i []).getD j 0 = l by simp only [List.getD_eq_getElem?_getD] at hj ⊢; rw [hj]; rfl]
          exact e
  · have et : t = cs.length := by omega
    subst et
    have hhit : ∀ k, (∃ i, i < cs.length ∧ ∃ l ∈ cs.getD i [], l.tdiv 2 = ((k : Nat) : Int)) ↔ hit cs k := by
      intro k
      constructor
      · rintro ⟨i, hi, l, hl, e⟩
        exact ⟨_, by simp [List.getD, hi], l, hl, e⟩
      · rintro ⟨c, hc, l, hl, e⟩
        obtain ⟨i, hi⟩ := List.getElem?_of_mem hc
        have hil := (List.getElem?_eq_some_iff.1 hi).1
        exact ⟨i, hil, l, by rw [List.getD_eq_getElem?_getD, hi]; exact hl, e⟩
    have hgm := mayT_g hmay
    refine ⟨fun v w' z => ∃ (t : Nat) (inn : List Bool), v = t ∧ t ≤ g.length ∧ OwB ty_bool w' r (g.length + 1) inn ∧ inn.length = g.length + 1 ∧ (∀ k, k ≤ g.length → (inn.getD k false = true ↔ hit cs k ∨ ∃ j, t ≤ j ∧ j < g.length ∧ kid g j k ∧ H g cs (j + 1))) ∧ Grow w w' ∧ z = t,
      ⟨_, g.length, inn, rfl, Nat.le_refl _, o, hl, fun k hk => ?_, G, rfl⟩, ?_⟩
    · rw [hi k hk, hhit]
      constructor
      · exact .inl
      · rintro (h | ⟨j, h1, h2, _⟩)
        · exact h
        · omega
    clear o hl hi G
    rintro v w23 z _ ⟨t, inn, rfl, ht, o, hl, hi, G, hz⟩
    refine cnd_i (fun s => ?_) (fun s => ?_) <;> simp only [decide_eq_true_eq, decide_eq_false_iff_not, ge_iff_le] at s
    · obtain ⟨t, rfl⟩ : ∃ u, t = u + 1 := ⟨t - 1, by omega⟩
      have ht' : t < g.length := by omega
      have e2 : IntKind.i64.wrap (((t + 1 : Nat) : Int) - 1) = (t : Int) := by rw [wrap64_of (by omega) (by omega)]; omega
      rw [e2]
      have hok := mayG_at hgm ht'
      have hin : inn.getD (t + 1) false = true ↔ H g cs (t + 1) := by
        rw [hi (t + 1) ht, H.cases']
      refine gIx (h.grow G) rfl ht' fun a x0 x1 => ⟨_, _, ⟨x0, x1, trivial⟩, ?_⟩
      intro n27 w28 h27
      refine store_i h27.has rfl rfl fun w29 h29 m29 => ?_
      have g29 : Grow w23 w29 := h27.mod.fresh m29 (by have := h27.num; omega)
      have o29 := o.grow g29
      generalize hx : g.getD t (0, 0) = x at *
      obtain ⟨A, B⟩ := x
      have h29 : Has w29 n27 #[.int .i64 A, .int .i64 B] := h29
      have same : ∀ w', Grow w w' → OwB ty_bool w' r (g.length + 1) inn → (¬ (0 ≤ A ∧ H g cs (t + 1))) → ∃ z' : Nat, z' < z ∧ ∃ (t' : Nat) (inn : List Bool), (t : Int) = t' ∧ t' ≤ g.length ∧ OwB ty_bool w' r (g.length + 1) inn ∧ inn.length = g.length + 1 ∧ (∀ k, k ≤ g.length → (inn.getD k false = true ↔ hit cs k ∨ ∃ j, t' ≤ j ∧ j < g.length ∧ kid g j k ∧ H g cs (j + 1))) ∧ Grow w w' ∧ z' = t' := by
        intro w' gg oo hno
        refine ⟨t, by omega, t, inn, rfl, by omega, oo, hl, fun k hk => ?_, gg, rfl⟩
        rw [hi k hk]
        constructor
        · rintro (h | ⟨j, h1, h2⟩)
          · exact .inl h
          · exact .inr ⟨j, by omega, h2⟩
        · rintro (h | ⟨j, h1, h2, h3, h4⟩)
          · exact .inl h
          · rcases Nat.lt_or_ge t j with c | c
            · exact .inr ⟨j, by omega, h2, h3, h4⟩
            · have : j = t := by omega
              subst this
              exact absurd ⟨by have := h3.1; rw [hx] at this; exact this, h4⟩ hno
      refine o29.ix false (by omega) hl.symm (by omega) fun a30 e30 => ⟨_, e30, ?_⟩
      rw [Int.toNat_natCast]
      refine cnd_i (fun s1 => ?_) (fun s1 => same _ (G.trans g29) o29 (fun hh => by rw [hin.2 hh.2] at s1; cases s1))
      refine ⟨_, _, ⟨cell_add h29 rfl, cell_add h29 rfl, trivial⟩, (tsAnd_ok A B w29).mono ?_⟩
      rintro e w34 ⟨rfl, g34⟩
      have g34' := g29.trans g34
      refine ⟨_, rfl, cnd_i (fun s2 => ?_) (fun s2 => same _ (G.trans g34') (o.grow g34') (fun hh => by have := hh.1; simp only [decide_eq_false_iff_not] at s2; omega))⟩
      simp only [decide_eq_true_eq, ge_iff_le] at s2
      have hb := okG_and hok s2
      simp only at hb
      have dA : A.tdiv 2 = A / 2 := Int.tdiv_eq_ediv_of_nonneg s2
      have dB : B.tdiv 2 = B / 2 := Int.tdiv_eq_ediv_of_nonneg hb.1
      have wA : IntKind.i64.wrap (A.tdiv 2) = A.tdiv 2 := wrap64_of (by omega) (by omega)
      have wB : IntKind.i64.wrap (B.tdiv 2) = B.tdiv 2 := wrap64_of (by omega) (by omega)
      have G34 : Grow w w34.drew := (G.trans g34').drew
      have o34 : OwB ty_bool w34.drew r (g.length + 1) inn := (o.grow g34').drew
      have h34 : Has w34.drew n27 #[.int .i64 A, .int .i64 B] := (h29.grow g34).drew
      have hrn : blk r ≠ some n27 := fun e => by have := o.lt _ e; have := h27.num; omega
      have fin : ∀ w', Grow w w' → OwB ty_bool w' r (g.length + 1) ((inn.set (A.tdiv 2).toNat true).set (B.tdiv 2).toNat true) → ∃ z' : Nat, z' < z ∧ ∃ (t' : Nat) (inn : List Bool), (t : Int) = t' ∧ t' ≤ g.length ∧ OwB ty_bool w' r (g.length + 1) inn ∧ inn.length = g.length + 1 ∧ (∀ k, k ≤ g.length → (inn.getD k false = true ↔ hit cs k ∨ ∃ j, t' ≤ j ∧ j < g.length ∧ kid g j k ∧ H g cs (j + 1))) ∧ Grow w w' ∧ z' = t' := by
        intro w' gg oo
        refine ⟨t, by omega, t, _, rfl, by omega, oo, by simpa using hl, fun k hk => ?_, gg, rfl⟩
        rw [getD_set (by simp; omega), getD_set (by omega)]
        have hkid : kid g t k ↔ ((k : Int) = A.tdiv 2 ∨ (k : Int) = B.tdiv 2) := by
          unfold kid
          rw [hx]
          simp only
          constructor
          · rintro ⟨_, h | h⟩
            · exact .inl h.symm
            · exact .inr h.symm
          · rintro (h | h)
            · exact ⟨s2, .inl h.symm⟩
            · exact ⟨s2, .inr h.symm⟩
        have hH : H g cs (t + 1) := hin.1 s1
        have key : (hit cs k ∨ ∃ j, t ≤ j ∧ j < g.length ∧ kid g j k ∧ H g cs (j + 1)) ↔ inn.getD k false = true ∨ kid g t k := by
          rw [hi k hk]
          constructor
          · rintro (h | ⟨j, h1, h2, h3, h4⟩)
            · exact .inl (.inl h)
            · rcases Nat.lt_or_ge t j with c | c
              · exact .inl (.inr ⟨j, by omega, h2, h3, h4⟩)
              · have : j = t := by omega
                subst this
                exact .inr h3
          · rintro ((h | ⟨j, h1, h2⟩) | h)
            · exact .inl h
            · exact .inr ⟨j, by omega, h2⟩
            · exact .inr ⟨t, by omega, ht', h, hH⟩
        rw [key, hkid]
        by_cases k1 : k = (B.tdiv 2).toNat
        · rw [if_pos k1]
          simp only [true_iff]
          exact .inr (.inr (by omega))
        · rw [if_neg k1]
          by_cases k2 : k = (A.tdiv 2).toNat
          · rw [if_pos k2]
            simp only [true_iff]
            exact .inr (.inl (by omega))
          · rw [if_neg k2]
            constructor
            · exact .inl
            · rintro (h | h | h)
              · exact h
              · omega
              · omega
      refine ⟨_, cell_add h34 rfl, by decide, ?_⟩
      rw [wA]
      have st1 := fun {K : World → Prop} => o34.st (K := K) true rfl rfl (show 0 ≤ A.tdiv 2 by omega) hl.symm (show A.tdiv 2 < _ by omega)
      obtain ⟨aa, ea, _, _, _⟩ := st1 (K := fun _ => True) fun _ _ _ => trivial
      refine ⟨aa, ea, by omega, by omega, ?_, ?_⟩
      · refine ⟨_, cell_add h34 rfl, by decide, ?_⟩
        rw [wB]
        obtain ⟨a', ea', _, _, w39, hs39, o39, m39⟩ := st1 (K := fun w39 => OwB ty_bool w39 r (g.length + 1) (inn.set (A.tdiv 2).toNat true) ∧ Mod (fun b => blk r = some b) w34.drew w39) fun w' o' m' => ⟨o', m'⟩
        rw [ea] at ea'
        simp only [Option.some.injEq] at ea'
        subst ea'
        refine ⟨w39, hs39, o39.st true rfl rfl (by omega) (by simp [hl]) (by omega) fun w41 o41 m41 => fin w41 ((G34.then m39 fun j hj e => by have := fr j e; omega).then m41 fun j hj e => by have := fr j e; omega) o41⟩
      · obtain ⟨a', ea', _, _, w39, hs39, o39, m39⟩ := st1 (K := fun w39 => OwB ty_bool w39 r (g.length + 1) (inn.set (A.tdiv 2).toNat true) ∧ Mod (fun b => blk r = some b) w34.drew w39) fun w' o' m' => ⟨o', m'⟩
        rw [ea] at ea'
        simp only [Option.some.injEq] at ea'
        subst ea'
        have h39 := h34.keep m39 (fun e => hrn e)
        refine ⟨w39, hs39, _, cell_add h39 rfl, by decide, ?_⟩
        rw [wB]
        exact o39.st true rfl rfl (by omega) (by simp [hl]) (by omega) fun w41 o41 m41 => fin w41 ((G34.then m39 fun j hj e => by have := fr j e; omega).then m41 fun j hj e => by have := fr j e; omega) o41
    · have et : t = 0 := by omega
      subst et
      refine ⟨⟨r, _, inn, rfl, o, hl, fun k hk => ?_⟩, G⟩
      rw [hi k hk, H.cases']
      constructor
      · rintro (h | ⟨j, h1, h2, h3, h4⟩)
        · exact .inl h
        · exact .inr ⟨j, kid_le hgm h2 h3, h2, h3, h4⟩
      · rintro (h | ⟨j, h1, h2, h3, h4⟩)
        · exact .inl h
        · exact .inr ⟨j, Nat.zero_le _, h2, h3, h4⟩
end Go.Proofs.Ytambabpklfeaoaa.W
