/- Layer 19: what can be reached, for the document; a square that is filled. -/
import Derived.Test.YtambabpklfeaoaaRank12
namespace Go.Proofs.Ytambabpklfeaoaa.W
open Go Go.Fw Go.RowKit Go.RankP

theorem refReaches_ok {p : Option Addr} {n c : Nat} {hs : List Sl} {rows : List (List Bool)} {j : Nat} (hj : j < n) : ∀ (d : Nat) (w : World) (i : Nat), d ≤ 50 → i < n → SqV w p n hs rows →
    Calls Try.prog fathomref19_Reaches.id #[.slice p n c, .int .i64 (i : Int), .int .i64 (j : Int), .int .i64 ((d + 1 : Nat) : Int)] w fun e w' => (∃ b, e = .returned (.bool b) ∧ (b = true ↔ rch (mB rows) n d i j)) ∧ Grow w w' := by
  intro d
  induction d with
  | zero =>
    intro w i hd hi h
    refine fathomref19_Reaches.calls ?_
    refine h.read (Mod.refl w) hi hj (cnd_i (fun q => ⟨⟨true, rfl, ⟨fun _ => q, fun _ => rfl⟩⟩, Mod.refl w⟩) (fun q => ?_))
    have no : ∀ w', Grow w w' → ((∃ b, Ending.returned (.bool false) = .returned (.bool b) ∧ (b = true ↔ rch (mB rows) n 0 i j)) ∧ Grow w w') := fun w' G => ⟨⟨false, rfl, ⟨fun h => (by cases h), fun h => (by have h : mB rows i j = true := h; rw [q] at h; cases h)⟩⟩, G⟩
    refine ⟨fun _ w' _ => Grow w w', ⟨0, Mod.refl w⟩, ?_⟩
    rintro v w9 k6 _ G
    refine cnd_i (fun q => cnd_i (fun q2 => ?_) (fun _ => no _ G)) (fun _ => no _ G)
    simp only [decide_eq_true_eq] at q2
    omega
  | succ d ih =>
    intro w i hd hi h
    refine fathomref19_Reaches.calls ?_
    have hs40 := h.small
    have hn := h.n
    refine h.read (Mod.refl w) hi hj (cnd_i (fun q => ⟨⟨true, rfl, ⟨fun _ => .inl q, fun _ => rfl⟩⟩, Mod.refl w⟩) (fun q => ?_))
    refine ⟨fun v w' m => ∃ k : Nat, v = k ∧ k ≤ n ∧ m + k = n ∧ (∀ k', k' < k → ¬ (mB rows i k' = true ∧ rch (mB rows) n d k' j)) ∧ Grow w w', ⟨n, 0, rfl, by omega, rfl, fun k' hk => by omega, Mod.refl w⟩, ?_⟩
    rintro v w9 m _ ⟨k, rfl, hk, hm, ha, G⟩
    refine cnd_i (fun q1 => ?_) (fun q1 => ?_) <;> simp only [decide_eq_true_eq, decide_eq_false_iff_not] at q1
    · have hk' : k < n := by omega
      rw [show IntKind.i64.wrap ((k : Int) + 1) = ((k + 1 : Nat) : Int) by rw [wrap64_of (by omega) (by omega)]; omega]
      rw [show IntKind.i64.wrap (((d + 1 + 1 : Nat) : Int) - 1) = ((d + 1 : Nat) : Int) by rw [wrap64_of (by omega) (by omega)]; omega]
      have nxt : ∀ w', Grow w w' → ¬ (mB rows i k = true ∧ rch (mB rows) n d k j) → ∃ k7, k7 < m ∧ ∃ k2 : Nat, ((k + 1 : Nat) : Int) = k2 ∧ k2 ≤ n ∧ k7 + k2 = n ∧ (∀ k', k' < k2 → ¬ (mB rows i k' = true ∧ rch (mB rows) n d k' j)) ∧ Grow w w' :=
        fun w' G hk => ⟨m - 1, by omega, k + 1, rfl, by omega, by omega, fun k' hk2 => by
          by_cases e : k' = k
          · subst e; exact hk
          · exact ha k' (by omega), G⟩
      refine cnd_i (fun q2 => ?_) (fun q2 => ?_) <;> simp only [decide_eq_true_eq, decide_eq_false_iff_not] at q2
      · refine h.read G hi hk' (cnd_i (fun s => ?_) (fun s => nxt _ G fun h => by rw [s] at h; cases h.1))
        refine (ih w9 k (by omega) hk' ⟨h.v.grow G, h.n, h.small, h.sq⟩).mono fun e w14 => ?_
        rintro ⟨⟨b, rfl, hb⟩, G2⟩
        refine ⟨b, rfl, cnd_i (fun hb' => ⟨⟨true, rfl, ⟨fun _ => .inr ⟨k, hk', s, hb.1 hb'⟩, fun _ => rfl⟩⟩, G.trans G2⟩) (fun hb' => nxt _ (G.trans G2) fun h => ?_)⟩
        have := hb.2 h.2
        rw [hb'] at this; cases this
      · omega
    · have : k = n := by omega
      subst this
      refine ⟨⟨false, rfl, ⟨fun h => (by cases h), fun h => ?_⟩⟩, G⟩
      rcases h with h | ⟨k', hk', h1, h2⟩
      · rw [q] at h; cases h
      · exact absurd ⟨h1, h2⟩ (ha k' hk')

theorem bool_zero : (Try.prog.info? ty_bool).bind (·.zero) = some (.bool false) := by kernel_rfl

theorem filled_ok {w : World} {n : Nat} (hn6 : n ≤ 6) {q : Option Addr} {m c : Nat} {l : List Bool} (h : Vw Value.bool w q l) (hm : m = l.length) :
    Calls Try.prog fathomlaw19_filled.id #[.int .i64 (n : Int), .slice q m c] w fun e w' => (∃ p c' hs rows, e = .returned (.slice p n c') ∧ SqV w' p n hs rows) ∧ Grow w w' := by
  refine fathomlaw19_filled.calls ?_
  have ew : ∀ t : Nat, t < n → IntKind.i64.wrap ((t : Int) + 1) = ((t + 1 : Nat) : Int) := fun t ht => by rw [wrap64_of (by omega) (by omega)]; omega
  intro n1 w2 h1
  have s1 := h1.num
  have z1 := h1.mod.size
  refine ⟨fun p1 n1 c1 v w' k => ∃ t : Nat, ∃ hs rows, v = t ∧ t ≤ n ∧ k + t = n ∧ n1 = t ∧ rows.length = t ∧ (∀ i, i < t → (rows.getD i []).length = n) ∧ Own2 Value.bool ty_sl_bool ty_bool w' p1 c1 hs rows ∧ (∀ k, foot2 p1 hs k → w.heap.size ≤ k) ∧ Grow w w', ⟨n, 0, [], [], rfl, by omega, rfl, rfl, rfl, fun i hi => by omega, ⟨h1.empty, rfl, by simp, by simp, by simp⟩, ?_, h1.mod⟩, ?_⟩
  · rintro k (hk | ⟨s, hs, _⟩)
    · simp [blk] at hk; omega
    · cases hs
  rintro p1 t c1 v w8 k _ ⟨_, hs, rows, rfl, ht, hk, rfl, hl, hr, o, hf, G⟩
  refine cnd_i (fun q => ?_) (fun q => ?_) <;> simp only [decide_eq_true_eq, decide_eq_false_iff_not] at q
  · have ht' : t < n := by omega
    rw [ew t ht']
    refine make_i sl_bool bool_zero (f := Value.bool) (x := false) rfl n rfl (by omega) fun w9 o9 g9 z9 => ?_
    refine ⟨fun v w' m => ∃ j : Nat, ∃ x, v = j ∧ j ≤ n ∧ m + j = n ∧ x.length = n ∧ OwB ty_bool w' (some ⟨w8.heap.size, 0, none⟩) n x ∧ Grow w8 w', ⟨n, 0, _, rfl, by omega, rfl, by simp, o9, g9⟩, ?_⟩
    rintro v w15 m2 _ ⟨j, x, rfl, hj, hm2, hx, ox, G8⟩
    have dr : ∀ k, blk (some (⟨w8.heap.size, 0, none⟩ : Addr)) = some k → k = w8.heap.size := fun k hk => by simp [blk] at hk; exact hk.symm
    refine cnd_i (fun q2 => ?_) (fun q2 => ?_) <;> simp only [decide_eq_true_eq, decide_eq_false_iff_not] at q2
    · have hj' : j < n := by omega
      have b1 : t * n ≤ 36 := Nat.le_trans (Nat.mul_le_mul (by omega : t ≤ 6) hn6) (by omega)
      have e1 : ((t : Int) * n) = ((t * n : Nat) : Int) := by simp
      rw [ew j hj', e1, wrap64_of (x := ((t * n : Nat) : Int)) (by omega) (by omega), wrap64_of (by omega) (by omega)]
      have put : ∀ y, ixK (some ⟨w8.heap.size, 0, none⟩) n (j : Int) 1 fun a => ∃ w', StoreAt a 0 [.bool y] w15 w' ∧ ∃ k13, k13 < m2 ∧ ∃ j' : Nat, ∃ x, ((j + 1 : Nat) : Int) = j' ∧ j' ≤ n ∧ k13 + j' = n ∧ x.length = n ∧ OwB ty_bool w' (some ⟨w8.heap.size, 0, none⟩) n x ∧ Grow w8 w' := fun y =>
        ox.st y rfl rfl (by omega) hx.symm (by omega) fun w' o' m' => ⟨m2 - 1, by omega, j + 1, _, rfl, by omega, by omega, by rw [List.length_set]; exact hx, o', G8.then m' fun k hk e => by have := dr k e; omega⟩
      refine cnd_i (fun q3 => ?_) (fun q3 => put _)
      have q3 := of_decide_eq_true q3
      refine ((h.grow G).grow G8).ix false (by omega) hm q3 fun a e => ⟨_, e, put _⟩
    · intro n22 w23 hnew
      have s23 := hnew.mod.size
      have s15 := G8.size
      have sG := G.size
      have lt8 := o.lt
      refine Own2.app1 (s := ⟨some ⟨w8.heap.size, 0, none⟩, n, n⟩) (x := x) sl_sl_bool ((o.grow G8).grow hnew.mod) hnew.has hl.symm (ox.grow hnew.mod) hx.symm (fun k hk hk2 => ?_) (by omega) fun w' p2 c2 o2 m hp hsz => ?_
      · have := dr k hk
        have := lt8 k hk2
        omega
      · refine ⟨k - 1, by omega, t + 1, _, _, rfl, by omega, by omega, by rw [hl], by simp [hl], fun i hi => ?_, o2, ?_, ?_⟩
        · rw [getD_app, hl]
          split
          · exact hx
          · exact hr i (by omega)
        · rintro k (hk | ⟨s', hs', hk⟩)
          · rcases hp with rfl | rfl
            · exact hf k (.inl hk)
            · simp [blk] at hk; omega
          · rcases List.mem_append.1 hs' with hs' | hs'
            · exact hf k (.inr ⟨s', hs', hk⟩)
            · have := List.mem_singleton.1 hs'
              subst this
              have := dr k hk
              omega
        · exact ((G.trans G8).trans hnew.mod).then m fun k hk e => by have := hf k (.inl e); omega
  · have : t = n := by omega
    subst this
    exact ⟨⟨p1, c1, hs, rows, rfl, ⟨o.v2, hl.symm, by omega, fun i hi => by rw [hl] at hi; rw [hl]; exact hr i hi⟩⟩, G⟩
end Go.Proofs.Ytambabpklfeaoaa.W
