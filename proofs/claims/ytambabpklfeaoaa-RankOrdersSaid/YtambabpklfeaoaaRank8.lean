/- Layer 19: things in order. -/
import Derived.Test.YtambabpklfeaoaaRank7
import Derived.Test.YtambabpklfeaoaaPureA
namespace Go.Proofs.Ytambabpklfeaoaa.W
open Go Go.Fw Go.RowKit Go.RankP

theorem deg_step (f : Nat → Bool) (k : Nat) : cB f (k + 1) = cB f k + (f k).toNat := rfl

/-- What has been found of a square's first things. -/
structure SSt (rows : List (List Bool)) (n i : Nat) (l : List Int) : Prop where
  len : l.length = n
  a : ∀ r, r < n → l.getD r 0 = -1 ∨ ∃ i' : Nat, i' < i ∧ l.getD r 0 = i' ∧ deg (mB rows) n i' = r
  b : ∀ i', i' < i → deg (mB rows) n i' < n ∧ l.getD (deg (mB rows) n i') 0 = (i' : Int)
  c : ∀ i', i' < i → mB rows i' i' = false ∧ ∀ k, k < n → k ≠ i' → mB rows k i' ≠ mB rows i' k

theorem SSt.step {rows : List (List Bool)} {n i : Nat} {l : List Int} (h : SSt rows n i l) (hi : i < n) (irr : mB rows i i = false) (anti : ∀ k, k < n → k ≠ i → mB rows k i ≠ mB rows i k) (hf : l.getD (deg (mB rows) n i) 0 = -1) : SSt rows n (i + 1) (l.set (deg (mB rows) n i) i) := by
  have hd : deg (mB rows) n i < n := cB_lt (f := fun k => mB rows k i) irr n hi
  have hlen := h.len
  refine ⟨by rw [List.length_set]; exact h.len, fun r hr => ?_, fun i' hi' => ?_, fun i' hi' => ?_⟩
  · rw [getD_set (by omega)]
    by_cases e : r = deg (mB rows) n i
    · right; exact ⟨i, by omega, by rw [if_pos e], e.symm⟩
    · rw [if_neg e]
      rcases h.a r hr with h1 | ⟨i', h1, h2, h3⟩
      · exact .inl h1
      · exact .inr ⟨i', by omega, h2, h3⟩
  · rw [getD_set (by omega)]
    by_cases e : i' = i
    · subst e; exact ⟨hd, by rw [if_pos rfl]⟩
    · have := h.b i' (by omega)
      refine ⟨this.1, ?_⟩
      rw [if_neg fun e2 => ?_]
      · exact this.2
      · rw [e2, hf] at this; omega
  · by_cases e : i' = i
    · subst e; exact ⟨irr, anti⟩
    · exact h.c i' (by omega)

theorem SSt.done {rows : List (List Bool)} {n : Nat} {l : List Int} (h : SSt rows n n l) : IsOrd rows n ∧ (∀ r, r < n → 0 ≤ l.getD r 0 ∧ l.getD r 0 < n) ∧ ∀ r s, r < s → s < n → mB rows (l.getD r 0).toNat (l.getD s 0).toNat = true := by
  have full : ∀ r, r < n → l.getD r 0 ≠ -1 := by
    intro r hr e
    have h1 := cB_inj (f := fun r => decide (l.getD r 0 ≠ -1)) n n (deg (mB rows) n) (fun i hi => ⟨(h.b i hi).1, by
      rw [(h.b i hi).2]; exact decide_eq_true (by omega)⟩) (fun i k hi hk e => by
      have h1 := (h.b i hi).2; have h2 := (h.b k hk).2
      rw [e] at h1; omega)
    have h2 := cB_lt (f := fun r => decide (l.getD r 0 ≠ -1)) (i := r) (by rw [e]; rfl) n hr
    omega
  have hv : ∀ r, r < n → (l.getD r 0).toNat < n ∧ deg (mB rows) n (l.getD r 0).toNat = r := by
    intro r hr
    obtain ⟨i, h1, h2, h3⟩ := (h.a r hr).resolve_left (full r hr)
    rw [h2, Int.toNat_natCast]; exact ⟨h1, h3⟩
  have irr : ∀ i, i < n → mB rows i i = false := fun i hi => (h.c i hi).1
  have anti : ∀ i j, i < n → j < n → i ≠ j → mB rows i j ≠ mB rows j i := fun i j hi hj hne => (h.c j hj).2 i hi hne
  have on : ∀ i, i < n → ∃ r, r < n ∧ (l.getD r 0).toNat = i := fun i hi => ⟨_, (h.b i hi).1, by rw [(h.b i hi).2, Int.toNat_natCast]⟩
  have tr := ord_of_deg (M := mB rows) (v := fun r => (l.getD r 0).toNat) irr anti hv on
  refine ⟨fun i j hi hj => ⟨⟨fun e => by subst e; exact irr i hi, fun e => anti i j hi hj e⟩, fun k hk => tr i j k hi hj hk⟩, fun r hr => ?_, fun r s hrs hs => ?_⟩
  · obtain ⟨i, h1, h2, _⟩ := (h.a r hr).resolve_left (full r hr)
    omega
  · exact by_deg (M := mB rows) (v := fun r => (l.getD r 0).toNat) anti hv r s hrs hs

theorem sorted_ok {w : World} {p : Option Addr} {n c : Nat} {hs : List Sl} {rows : List (List Bool)} (v2 : V2 Value.bool w p hs rows) (hn : n = rows.length) (hm : n ≤ maxLen) :
    Calls Try.prog rank_Sorted.id #[.slice p n c] w fun e w' => ∃ (ok : Bool) (pl : Option Addr) (cl : Nat) (l : List Int), e = .returned (.tuple #[.slice pl l.length cl, .bool ok]) ∧ Vw (Value.int .i64) w' pl l ∧ Grow w w' ∧
      (ok = true → sqB rows = true ∧ IsOrd rows n ∧ l.length = n ∧ (∀ r, r < n → 0 ≤ l.getD r 0 ∧ l.getD r 0 < n) ∧ ∀ r s, r < s → s < n → mB rows (l.getD r 0).toNat (l.getD s 0).toNat = true) ∧
      (ok = false → l = [] ∧ ¬ (sqB rows = true ∧ IsOrd rows n)) := by
  refine rank_Sorted.calls ?_
  refine (squared_ok v2 hn hm).mono ?_
  rintro e w1 ⟨rfl, g1⟩
  have bad : ∀ w', Grow w w' → ¬ (sqB rows = true ∧ IsOrd rows n) → ∃ (ok : Bool) (pl : Option Addr) (cl : Nat) (l : List Int), Ending.returned (.tuple #[.slice none 0 0, .bool false]) = .returned (.tuple #[.slice pl l.length cl, .bool ok]) ∧ Vw (Value.int .i64) w' pl l ∧ Grow w w' ∧
      (ok = true → sqB rows = true ∧ IsOrd rows n ∧ l.length = n ∧ (∀ r, r < n → 0 ≤ l.getD r 0 ∧ l.getD r 0 < n) ∧ ∀ r s, r < s → s < n → mB rows (l.getD r 0).toNat (l.getD s 0).toNat = true) ∧
      (ok = false → l = [] ∧ ¬ (sqB rows = true ∧ IsOrd rows n)) := fun w' G hb => ⟨false, none, 0, [], rfl, Vw.nil, G, fun h => (by cases h), fun _ => ⟨rfl, hb⟩⟩
  refine ⟨_, rfl, cnd_i (fun q => bad w1 g1 fun h => by rw [h.1] at q; cases q) (fun q => ?_)⟩
  have hsq : sqB rows = true := by simpa using q
  have V := (SqV.of v2 hn hsq)
  have hs40 := V.small
  have ew : ∀ t : Nat, t < n → IntKind.i64.wrap ((t : Int) + 1) = ((t + 1 : Nat) : Int) := fun t ht => by rw [wrap64_of (by omega) (by omega)]; omega
  refine make_i sl_int int_zero (f := Value.int .i64) (x := 0) rfl n rfl (by omega) fun w3 o3 g3 z3 => ?_
  have hb : w.heap.size ≤ w1.heap.size := g1.size
  generalize hq : w1.heap.size = q at o3 hb ⊢
  refine ⟨fun v w' k => ∃ (t : Nat) (l : List Int), v = t ∧ t ≤ n ∧ k + t = n ∧ l.length = n ∧ (∀ j, j < t → l.getD j 0 = -1) ∧ OwI ty_int w' (some ⟨q, 0, none⟩) n l ∧ Grow w w', ⟨n, 0, _, rfl, by omega, rfl, by simp, fun j hj => by omega, o3, g1.trans g3⟩, ?_⟩
  clear o3 g3 z3
  rintro v w9 k _ ⟨t, l, rfl, ht, hk, hl, ha, o, G⟩
  refine cnd_i (fun s => ?_) (fun s => ?_) <;> simp only [decide_eq_true_eq, decide_eq_false_iff_not] at s
  · rw [ew t (by omega)]
    refine o.st (-1) rfl rfl (by omega) hl.symm (by omega) fun w11 o' m => ?_
    rw [Int.toNat_natCast] at o'
    refine ⟨k - 1, by omega, t + 1, _, rfl, by omega, by omega, by rw [List.length_set]; exact hl, fun j hj => ?_, o', G.then m fun k hk e => by simp [blk] at e; omega⟩
    rw [getD_set (by omega)]
    split
    · rfl
    · exact ha j (by omega)
  · have hall : ∀ r, r < n → l.getD r 0 = -1 := fun r hr => ha r (by omega)
    refine ⟨fun v w' k => ∃ (i : Nat) (l : List Int), v = i ∧ i ≤ n ∧ k + i = n ∧ SSt rows n i l ∧ OwI ty_int w' (some ⟨q, 0, none⟩) n l ∧ Grow w w', ⟨n, 0, l, rfl, by omega, rfl, ⟨hl, fun r hr => .inl (hall r hr), fun i hi => by omega, fun i hi => by omega⟩, o, G⟩, ?_⟩
    clear o G ha hall hl ht hk s
    rintro v w16 k _ ⟨i, l, rfl, hi, hk, S, o, G⟩
    have hl := S.len
    refine cnd_i (fun s => ?_) (fun s => ?_) <;> simp only [decide_eq_true_eq, decide_eq_false_iff_not] at s
    · have hi' : i < n := by omega
      rw [ew i hi']
      refine ⟨fun d v w' m => ∃ j : Nat, v = j ∧ d = (cB (fun k => mB rows k i) j : Nat) ∧ j ≤ n ∧ m + j = n ∧ (∀ k, k < j → mB rows i i = false ∧ (k ≠ i → mB rows k i ≠ mB rows i k)) ∧ OwI ty_int w' (some ⟨q, 0, none⟩) n l ∧ Grow w w', ⟨n, 0, rfl, rfl, by omega, rfl, fun k hk => by omega, o, G⟩, ?_⟩
      clear o G
      rintro d v w22 m _ ⟨j, rfl, rfl, hj, hm', hc, o, G⟩
      refine cnd_i (fun s2 => ?_) (fun s2 => ?_) <;> simp only [decide_eq_true_eq, decide_eq_false_iff_not] at s2
      · have hj' : j < n := by omega
        have hcj := cB_le (fun k => mB rows k i) j
        rw [ew j hj', ew (cB (fun k => mB rows k i) j) (by omega)]
        have Gd := G.drew
        have od : OwI ty_int w22.drew (some ⟨q, 0, none⟩) n l := o
        have rest : (j ≠ i → mB rows j i ≠ mB rows i j) → ixK p n (i : Int) 1 fun a31 =>
                ∃ x32_p : Option Addr, ∃ x32_n : Nat, ∃ x32_c : Nat, w22.drew.cell? a31 = some (.slice x32_p x32_n x32_c) ∧ 
                ixK x32_p x32_n (i : Int) 1 fun a33 =>
                ∃ x34 : Bool, w22.drew.cell? a33 = some (.bool x34) ∧ 
                cnd x34
                (∃ (ok : Bool) (pl : Option Addr) (cl : Nat) (l : List Int), Ending.returned (.tuple #[.slice none 0 0, .bool false]) = .returned (.tuple #[.slice pl l.length cl, .bool ok]) ∧ Vw (Value.int .i64) w22.drew pl l ∧ Grow w w22.drew ∧
                  (ok = true → sqB rows = true ∧ IsOrd rows n ∧ l.length = n ∧ (∀ r, r < n → 0 ≤ l.getD r 0 ∧ l.getD r 0 < n) ∧ ∀ r s, r < s → s < n → mB rows (l.getD r 0).toNat (l.getD s 0).toNat = true) ∧
                  (ok = false → l = [] ∧ ¬ (sqB rows = true ∧ IsOrd rows n)))
                (ixK p n (j : Int) 1 fun a35 =>
                  ∃ x36_p : Option Addr, ∃ x36_n : Nat, ∃ x36_c : Nat, w22.drew.cell? a35 = some (.slice x36_p x36_n x36_c) ∧ 
                  ixK x36_p x36_n (i : Int) 1 fun a37 =>
                  ∃ x38 : Bool, w22.drew.cell? a37 = some (.bool x38) ∧ 
                  cnd x38
                  (∃ k19 : Nat, k19 < m ∧ ∃ j' : Nat, ((j + 1 : Nat) : Int) = j' ∧ ((cB (fun k => mB rows k i) j + 1 : Nat) : Int) = (cB (fun k => mB rows k i) j' : Nat) ∧ j' ≤ n ∧ k19 + j' = n ∧ (∀ k, k < j' → mB rows i i = false ∧ (k ≠ i → mB rows k i ≠ mB rows i k)) ∧ OwI ty_int w22.drew (some ⟨q, 0, none⟩) n l ∧ Grow w w22.drew)
                  (∃ k19 : Nat, k19 < m ∧ ∃ j' : Nat, ((j + 1 : Nat) : Int) = j' ∧ ((cB (fun k => mB rows k i) j : Nat) : Int) = (cB (fun k => mB rows k i) j' : Nat) ∧ j' ≤ n ∧ k19 + j' = n ∧ (∀ k, k < j' → mB rows i i = false ∧ (k ≠ i → mB rows k i ≠ mB rows i k)) ∧ OwI ty_int w22.drew (some ⟨q, 0, none⟩) n l ∧ Grow w w22.drew)) := by
          intro hp
          refine V.read Gd hi' hi' (cnd_i (fun s3 => bad _ Gd fun ho => ?_) (fun s3 => V.read Gd hj' hi' (cnd_i (fun s4 => ?_) (fun s4 => ?_))))
          · have := (ho.2 i i hi' hi').1.1 rfl
            rw [this] at s3; cases s3
          all_goals
            refine ⟨m - 1, by omega, j + 1, rfl, by rw [deg_step]; simp only [s4]; rfl, by omega, by omega, fun k hk => ?_, od, Gd⟩
            by_cases e : k = j
            · subst e; exact ⟨s3, hp⟩
            · exact hc k (by omega)
        refine cnd_i (fun s3 => ?_) (fun s3 => ?_)
        · have s3 : j ≠ i := by have : (j : Int) ≠ i := by simpa using s3
                                omega
          refine V.read Gd hj' hi' ?_
          refine V.read Gd hi' hj' ?_
          refine cnd_i (fun s4 => bad _ Gd fun ho => ?_) (fun s4 => rest fun _ => by simpa using s4)
          exact (ho.2 j i hj' hi').1.2 s3 (by simpa using s4)
        · have s3 : j = i := by have : (j : Int) = i := by simpa using s3
                                omega
          exact rest fun h => absurd s3 h
      · have : j = n := by omega
        subst this
        have irr := (hc i hi').1
        have hd : deg (mB rows) j i < j := cB_lt (f := fun k => mB rows k i) irr j hi'
        change cB (fun k => mB rows k i) j < j at hd
        refine o.ix 0 (by omega) hl.symm (by omega) fun a e => ⟨_, e, ?_⟩
        rw [Int.toNat_natCast]
        refine cnd_i (fun s4 => bad _ G fun ho => ?_) (fun s4 => ?_)
        · have s4 : l.getD (cB (fun k => mB rows k i) j) 0 ≠ -1 := by simpa using s4
          have s4 : l.getD (deg (mB rows) j i) 0 ≠ -1 := s4
          obtain ⟨i', h1, h2, h3⟩ := (S.a _ hd).resolve_left s4
          have irr' : ∀ i, i < j → mB rows i i = false := fun i hi => (ho.2 i i hi hi).1.1 rfl
          have tr' : ∀ a b c, a < j → b < j → c < j → mB rows a b = true → mB rows b c = true → mB rows a c = true := fun a b c ha hb hc => (ho.2 a b ha hb).2 c hc
          have hne : i' ≠ i := by omega
          have hp := (ho.2 i' i (by omega) hi').1.2 hne
          cases hx : mB rows i' i
          · have hy : mB rows i i' = true := by
              cases hz : mB rows i i'
              · rw [hx, hz] at hp; exact absurd rfl hp
              · rfl
            have := deg_lt (M := mB rows) irr' tr' hi' (by omega) hy
            unfold deg at this h3
            omega
          · have := deg_lt (M := mB rows) irr' tr' (by omega) hi' hx
            unfold deg at this h3
            omega
        · have s4 : l.getD (cB (fun k => mB rows k i) j) 0 = -1 := by simpa using s4
          have s4 : l.getD (deg (mB rows) j i) 0 = -1 := s4
          refine o.st ((i : Nat) : Int) rfl rfl (by omega) hl.symm (by omega) fun w50 o' m' => ?_
          rw [Int.toNat_natCast] at o'
          exact ⟨k - 1, by omega, i + 1, _, rfl, by omega, by omega, S.step hi' irr (fun k hk => (hc k hk).2) s4, o', G.then m' fun k hk e => by simp [blk] at e; omega⟩
    · have : i = n := by omega
      subst this
      obtain ⟨d1, d2, d3⟩ := S.done
      refine ⟨true, some ⟨q, 0, none⟩, i, l, by rw [hl], o.vw, G, fun _ => ⟨hsq, d1, hl, d2, d3⟩, fun h => (by cases h)⟩
end Go.Proofs.Ytambabpklfeaoaa.W
