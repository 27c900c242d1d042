/- Layer 9: what the document's other functions come to. -/
import Derived.Test.YtamckcamloelbaaHeap5
namespace Go.Proofs.Ytamckcamloelbaa.W
open Go Go.Fw Go.RowKit Go.HeapP

theorem refDecay_ok {w : World} {r : RS} (h : RRep w r) (hb : r.rs.length < 2147483648) (hs : ∀ t : Nat, t < r.rs.length → 0 ≤ r.rs.getD t 0 ∧ r.rs.getD t 0 ≤ 9007199254740992) (ht : 1 ≤ r.step ∧ r.step ≤ 4503599627370496) :
    Calls Try.prog fathomref09_Decay.id #[r.val] w fun e w' => ∃ r' : RS, e = .returned r'.val ∧ Scaled { r with step := r.step + (r.step / 16 + 1) } r' w' ∧ (∀ k, r'.foot k → r.foot k ∨ w.heap.size ≤ k) ∧ Grow w w' := by
  refine fathomref09_Decay.calls ?_
  intro n1 w2 h1 n3 w4 h3
  have hr := (h.grow h1.mod).grow h3.mod
  have H1 := h1.has.old h3
  have H3 := h3.has
  have n13 : n1 ≠ n3 := h3.ne h1.has
  have s1 := h1.num; have s3 := h3.num
  have z1 := h1.mod.size; have z3 := h3.mod.size
  have hlt := h.lt
  have G4 : Grow w w4 := h1.mod.trans h3.mod
  have e1 : IntKind.i64.wrap (IntKind.i64.wrap (r.step + IntKind.i64.wrap (r.step.tdiv 16)) + 1) = r.step + (r.step / 16 + 1) := by
    rw [Int.tdiv_eq_ediv_of_nonneg (by omega), wrap64_of (x := r.step / 16) (by omega) (by omega), wrap64_of (x := r.step + r.step / 16) (by omega) (by omega), wrap64_of (by omega) (by omega)]
    omega
  refine ⟨_, cell_add H1 rfl, _, cell_add H1 rfl, by decide, ?_⟩
  rw [e1]
  refine store_f H1 rfl rfl fun w7 H1 m7 => ?_
  have H3 := H3.put m7 (Ne.symm n13)
  have hr := hr.put m7 fun e => by have := hlt _ e; omega
  have G7 := G4.then m7 fun k hk (e : k = n1) => by omega
  have hr' : RRep w7 { r with step := r.step + (r.step / 16 + 1) } := ⟨hr.i, hr.s⟩
  refine ⟨_, _, _, _, _, _, _, cells3 H1, (refScaled_ok hr' hb hs (by show 1 ≤ r.step + (r.step / 16 + 1) ∧ r.step + (r.step / 16 + 1) ≤ _; omega)).mono ?_⟩
  rintro e w11 ⟨r', rfl, sc, hf, g11⟩
  have H3 := H3.grow g11
  have G11 := G7.trans g11
  have hf : ∀ k, r'.foot k → r.foot k ∨ w7.heap.size ≤ k := hf
  have z7 := m7.size
  have l34 : n3 < w4.heap.size := h3.has.lt
  have l3 := H3.lt
  have nf : ¬ r'.foot n3 := fun e => by
    rcases hf _ e with e | e
    · have := hlt _ e; omega
    · omega
  refine ⟨_, _, _, _, _, _, _, rfl, store_i H3 rfl rfl fun w15 H3' m => ⟨_, _, _, _, _, _, _, cells3 H3', ?_⟩⟩
  refine ⟨r', rfl, ⟨sc.rep.put m nf, sc.rin, sc.rs, sc.step⟩, fun k hk => ?_, G11.then m fun k hk (e : k = n3) => by omega⟩
  rcases hf k hk with e | e
  · exact .inl e
  · right; have := G7.size; omega

theorem refBump_ok {w : World} {r : RS} (h : RRep w r) (hb : r.rs.length < 2147483648) (hs : ∀ t : Nat, t < r.rs.length → 0 ≤ r.rs.getD t 0 ∧ r.rs.getD t 0 ≤ 4503599627370496) (ht : 1 ≤ r.step ∧ r.step ≤ 4503599627370496) (v : Int) (v0 : 0 ≤ v) (v1 : v < r.rs.length) :
    Calls Try.prog fathomref09_Bump.id #[r.val, .int .i64 v] w fun e w' => ∃ r' : RS, e = .returned r'.val ∧ Scaled { r with rs := r.rs.set v.toNat (g r.rs v + r.step) } r' w' ∧ (∀ k, r'.foot k → r.foot k ∨ w.heap.size ≤ k) ∧ Grow w w' := by
  refine fathomref09_Bump.calls ?_
  intro n1 w2 h1 n3 w4 h3 n5 w6 h5
  have hr := (((h.grow h1.mod).grow h3.mod).grow h5.mod)
  have H1 := (h1.has.old h3).old h5
  have H3 := h3.has.old h5
  have n13 : n1 ≠ n3 := h3.ne h1.has
  have e5 : OwI ty_int w6 (some ⟨n5, 0, none⟩) 0 [] := h5.empty
  have s1 := h1.num; have s3 := h3.num; have s5 := h5.num
  have z1 := h1.mod.size; have z3 := h3.mod.size; have z5 := h5.mod.size
  have hlt := h.lt
  have l1 := H1.lt; have l3 := H3.lt; have l5 : n5 < w6.heap.size := e5.lt n5 rfl
  have l34 : n3 < w4.heap.size := h3.has.lt
  have l14 : n1 < w4.heap.size := (h1.has.old h3).lt
  have G6 : Grow w w6 := (h1.mod.trans h3.mod).trans h5.mod
  refine ⟨_, _, _, cell_add H1 rfl, e5.appS sl_int hr.s rfl rfl oneInt (by simp; omega) fun w8 p' c' o m hp hsz => ?_⟩
  simp only [List.nil_append] at o ⊢
  have bp : ∀ k, blk p' = some k → k = n5 ∨ w6.heap.size ≤ k := by
    rintro k hk
    rcases hp with rfl | rfl <;> simp [blk] at hk <;> omega
  have H1 := H1.keep m (by simp [blk]; omega)
  have H3 := H3.keep m (by simp [blk]; omega)
  have I8 := hr.i.keep m fun k hk e => by simp [blk] at e; have := hlt k (.inl hk); omega
  have G8 : Grow w w8 := G6.then m fun k hk e => by simp [blk] at e; omega
  refine store_f H1 rfl rfl fun w10 H1' m1 => ?_
  have H3 := H3.put m1 (Ne.symm n13)
  have o := o.keep m1 fun k hk e => by have := bp k hk; omega
  have I10 := I8.keep m1 fun k hk e => by have := hlt k (.inl hk); omega
  have G10 : Grow w w10 := G8.then m1 fun k hk e => by omega
  have H1' : Has w10.drew n1 _ := H1'
  have o : OwI ty_int w10.drew p' c' r.rs := o
  have sv := hs v.toNat (by omega)
  rw [g_nn v0] at sv
  refine ⟨_, _, _, cell_add H1' rfl, _, _, _, cell_add H1' rfl, o.ix 0 v0 rfl v1 fun a e => ⟨_, e, _, cell_add H1' rfl, ?_⟩⟩
  rw [g_nn v0, wrap64_of (x := g r.rs v + r.step) (by omega) (by omega)]
  refine o.st (g r.rs v + r.step) rfl rfl v0 rfl v1 fun w17 o13 m13 => ?_
  have n1p : ¬ blk p' = some n1 := fun e => by have := bp n1 e; omega
  have n3p : ¬ blk p' = some n3 := fun e => by have := bp n3 e; omega
  have H1 := H1'.keep m13 n1p
  have H3 : Has w10.drew n3 _ := H3
  have I10 : OwB ty_bool w10.drew r.pi r.ci r.rin := I10
  have H3 := H3.keep m13 n3p
  have I13 := I10.keep m13 fun k hk e => by have := bp k e; have := hlt k (.inl hk); omega
  have G13 : Grow w w17 := G10.drew.then m13 fun k hk e => by have := bp k e; omega
  have H1 : Has w17 n1 #[.slice r.pi r.rin.length r.ci, .slice p' (r.rs.set v.toNat (g r.rs v + r.step)).length c', .int .i64 r.step] := by rw [List.length_set]; exact H1
  have hl' : (r.rs.set v.toNat (g r.rs v + r.step)).length = r.rs.length := by simp
  refine ⟨_, _, _, _, _, _, _, cells3 H1, (refScaled_ok (r := ⟨r.pi, r.ci, p', c', r.rin, r.rs.set v.toNat (g r.rs v + r.step), r.step⟩) ⟨I13, o13⟩ (by simp; omega) ?_ ⟨ht.1, by show r.step ≤ _; omega⟩).mono ?_⟩
  · intro t htl
    have htl : t < r.rs.length := by simpa using htl
    show 0 ≤ (r.rs.set v.toNat (g r.rs v + r.step)).getD t 0 ∧ _
    rw [g_nat, g_set v0 v1]
    have := hs t htl
    rw [g_nat] at this
    simp only
    split <;> omega
  rintro e w21 ⟨r', rfl, sc, sf, g21⟩
  have H3 := H3.grow g21
  have G21 := G13.trans g21
  have z17 := G13.size
  have hf : ∀ k, r'.foot k → r.foot k ∨ w4.heap.size ≤ k := by
    intro k hk
    rcases sf k hk with (e | e) | e
    · exact .inl (.inl e)
    · right; have := bp k e; omega
    · right; have := m13.size; have := m1.size; have : w10.drew.heap.size = w10.heap.size := rfl; omega
  have nf : ¬ r'.foot n3 := fun e => by
    rcases hf _ e with e | e
    · have := hlt _ e; omega
    · omega
  refine ⟨_, _, _, _, _, _, _, rfl, store_i H3 rfl rfl fun w25 H3' m => ⟨_, _, _, _, _, _, _, cells3 H3', ?_⟩⟩
  have hf2 : ∀ k, r'.foot k → r.foot k ∨ w.heap.size ≤ k := fun k hk => (hf k hk).imp id fun e => by omega
  exact ⟨r', rfl, ⟨sc.rep.put m nf, sc.rin, sc.rs, sc.step⟩, hf2, G21.then m fun k hk (e : k = n3) => by omega⟩

/-- A new heap of the document. -/
structure RFresh (r : RS) (n t : Nat) : Prop where
  i : r.rin.length = n + 1
  iu : ∀ u : Int, 1 ≤ u → u ≤ n → gb r.rin u = decide (u ≤ t)
  s : r.rs = List.replicate (n + 1) 0
  st : r.step = 64

theorem refNew_ok {w : World} (n : Nat) (hn : n ≤ 1048576) : Calls Try.prog fathomref09_New.id #[.int .i64 n] w fun e w' => ∃ r : RS, e = .returned r.val ∧ RRep w' r ∧ RFresh r n n ∧ (∀ k, r.foot k → w.heap.size ≤ k) ∧ Grow w w' := by
  refine fathomref09_New.calls ?_
  intro n1 w2 h1
  have e1 : IntKind.i64.wrap ((n : Int) + 1) = ((n + 1 : Nat) : Int) := by rw [wrap64_of (by omega) (by omega)]; omega
  rw [e1]
  have G2 : Grow w w2.drew := h1.mod.drew
  have H1 : Has w2.drew n1 _ := h1.has
  have s1 := h1.num
  have l1 : n1 < w2.heap.size := h1.has.lt
  have made : ∀ (b qi qs : Nat) (w8 : World), Has w8 b #[.slice none 0 0, .slice none 0 0, .int .i64 0] → OwB ty_bool w8 (some ⟨qi, 0, none⟩) (n + 1) (List.replicate (n + 1) false) → OwI ty_int w8 (some ⟨qs, 0, none⟩) (n + 1) (List.replicate (n + 1) 0) → Has w8 n1 #[.slice none 0 0, .slice none 0 0, .int .i64 0] → Grow w w8 →
      w2.heap.size ≤ b → w2.heap.size ≤ qi → w2.heap.size ≤ qs → b ≠ qi → b ≠ qs → qi ≠ qs →
      ∃ w9 : World, StoreAt (Addr.mk b 0 none) 0 [.slice (some ⟨qi, 0, none⟩) (n + 1) (n + 1), .slice (some ⟨qs, 0, none⟩) (n + 1) (n + 1), .int .i64 64] w8 w9 ∧ ∃ I10 : Int → World → Nat → Prop, (∃ k11, I10 1 w9 k11) ∧
      ∀ (v_13 : Int) (w14 : World) (k11 : Nat) (_ : Fr), I10 v_13 w14 k11 →
      cnd (decide (v_13 ≤ (n : Int)))
        (∃ x15_p : Option Addr, ∃ x15_n : Nat, ∃ x15_c : Nat, w14.cell? ((Addr.mk b 0 none).add 0) = some (.slice x15_p x15_n x15_c) ∧ 
          ixK x15_p x15_n v_13 1 fun a16 =>
          ∃ w17 : World, StoreAt a16 0 [.bool true] w14 w17 ∧ 
          ∃ k12, k12 < k11 ∧ I10 (IntKind.i64.wrap (v_13 + (1 : Int))) w17 k12)
        (∃ x18_p : Option Addr, ∃ x18_n : Nat, ∃ x18_c : Nat, ∃ x19_p : Option Addr, ∃ x19_n : Nat, ∃ x19_c : Nat, ∃ x20 : Int, CellsAt w14 (Addr.mk b 0 none) 0 [.slice x18_p x18_n x18_c, .slice x19_p x19_n x19_c, .int .i64 x20] ∧ 
          ∃ w21 : World, StoreAt (Addr.mk n1 0 none) 0 [.slice x18_p x18_n x18_c, .slice x19_p x19_n x19_c, .int .i64 x20] w14 w21 ∧ 
          ∃ x22_p : Option Addr, ∃ x22_n : Nat, ∃ x22_c : Nat, ∃ x23_p : Option Addr, ∃ x23_n : Nat, ∃ x23_c : Nat, ∃ x24 : Int, CellsAt w21 (Addr.mk n1 0 none) 0 [.slice x22_p x22_n x22_c, .slice x23_p x23_n x23_c, .int .i64 x24] ∧ 
          ∃ r : RS, Ending.returned (.agg #[.slice x22_p x22_n x22_c, .slice x23_p x23_n x23_c, .int .i64 x24]) = .returned r.val ∧ RRep w21 r ∧ RFresh r n n ∧ (∀ k, r.foot k → w.heap.size ≤ k) ∧ Grow w w21) := by
    intro b qi qs w8 Hb oi os H1 G qb qi2 qs2 d1 d2 d3
    have z2 := h1.mod.size
    refine store_i Hb rfl rfl fun w9 Hb mb => ?_
    have oi := oi.keep mb fun k hk (e : k = b) => by simp [blk] at hk; omega
    have os := os.keep mb fun k hk (e : k = b) => by simp [blk] at hk; omega
    have H1 := H1.put mb (by omega)
    have G := G.then mb fun k hk (e : k = b) => by omega
    obtain ⟨r, hrd⟩ : ∃ r : RS, r = ⟨some ⟨qi, 0, none⟩, n + 1, some ⟨qs, 0, none⟩, n + 1, List.replicate (n + 1) false, List.replicate (n + 1) 0, 64⟩ := ⟨_, rfl⟩
    have f : RFresh r n 0 := by
      rw [hrd]
      refine ⟨by simp, fun u u0 u1 => ?_, rfl, rfl⟩
      show gb (List.replicate (n + 1) false) u = _
      rw [gb_rep]; simp; omega
    have hf : ∀ k, r.foot k → w2.heap.size ≤ k := by
      rw [hrd]
      rintro k (e | e) <;> simp [blk] at e <;> omega
    have hfb : ¬ r.foot b := by
      rw [hrd]
      rintro (e | e) <;> simp [blk] at e <;> omega
    have dis : ∀ k, blk r.ps = some k → ¬ blk r.pi = some k := by
      rw [hrd]
      intro k e e2
      simp [blk] at e e2; omega
    have hr : RRep w9 r := by rw [hrd]; exact ⟨oi, os⟩
    have Hb : Has w9 b #[.slice (some ⟨qi, 0, none⟩) (n + 1) (n + 1), .slice (some ⟨qs, 0, none⟩) (n + 1) (n + 1), .int .i64 64] := Hb
    have Hb : Has w9 b r.row := by rw [hrd]; simpa [RS.row] using Hb
    clear oi os hrd
    refine ⟨fun v w' k => ∃ (t : Nat) (l : List Bool), v = t + 1 ∧ t ≤ n ∧ l.length = n + 1 ∧ (∀ u : Int, 1 ≤ u → u ≤ n → gb l u = decide (u ≤ t)) ∧ OwB ty_bool w' r.pi r.ci l ∧ (OwI ty_int w' r.ps r.cs r.rs) ∧ Has w' b r.row ∧ Has w' n1 #[.slice none 0 0, .slice none 0 0, .int .i64 0] ∧ Grow w w' ∧ k + t = n,
      ⟨n, 0, r.rin, rfl, by omega, f.i, f.iu, hr.i, hr.s, Hb, H1, G, rfl⟩, ?_⟩
    clear Hb H1 G hr
    rintro v w14 k _ ⟨t, l, rfl, ht, hl, hu, li, ls, Hb, H2, G2', hk⟩
    have Hc : Has w14 b #[.slice r.pi l.length r.ci, .slice r.ps r.rs.length r.cs, .int .i64 r.step] := by rw [hl, ← f.i]; exact Hb
    refine cnd_i (fun q => ?_) (fun q => ?_) <;> simp only [decide_eq_true_eq, decide_eq_false_iff_not] at q
    · refine ⟨_, _, _, cell_add Hc rfl, li.st true rfl rfl (by omega) rfl (by omega) fun w17 o m => ?_⟩
      refine ⟨k - 1, by omega, t + 1, _, ?_, by omega, by rw [List.length_set]; exact hl, ?_, o, ls.keep m ?_, ?_, H2.keep m fun e => by have := hf n1 (.inl e); omega, G2'.then m fun k hk e => by have := hf k (.inl e); omega, by omega⟩
      · rw [wrap64_of (by omega) (by omega)]; omega
      · intro u u0 u1
        rw [gb_set (by omega) (by omega)]
        simp only
        split
        · simp; omega
        · rw [hu u u0 u1]; congr 1; apply propext; omega
      · exact dis
      · rw [hl, ← f.i] at Hc
        exact Hc.keep m fun e => hfb (.inl e)
    · have et : t = n := by omega
      subst et
      refine ⟨_, _, _, _, _, _, _, cells3 Hc, store_i H2 rfl rfl fun w21 H1' m => ⟨_, _, _, _, _, _, _, cells3 H1', ?_⟩⟩
      refine ⟨⟨r.pi, r.ci, r.ps, r.cs, l, r.rs, r.step⟩, rfl, ⟨li.keep m fun k hk e => by have := hf k (.inl hk); omega, ls.keep m fun k hk e => by have := hf k (.inr hk); omega⟩, ⟨hl, hu, f.s, f.st⟩, fun k hk => by have := hf k hk; omega, G2'.then m fun k hk e => by omega⟩
  have d0 : w2.drew.heap.size = w2.heap.size := rfl
  have mkB : ∀ {w : World} {K : World → Option Addr → Nat → Nat → Prop}, (∀ w', OwB ty_bool w' (some ⟨w.heap.size, 0, none⟩) (n + 1) (List.replicate (n + 1) false) → Grow w w' → w'.heap.size = w.heap.size + 1 → K w' (some ⟨w.heap.size, 0, none⟩) (n + 1) (n + 1)) → ∃ w', ∃ p' n' c', (Instr.makeSlice ty_sl_bool (.int .i64 ((n + 1 : Nat) : Int)) (.int .i64 ((n + 1 : Nat) : Int))).run Try.prog w = .ok (.slice p' n' c') w' ∧ K w' p' n' c' := fun hk => make_i sl_bool bool_zero rfl (n + 1) rfl (by omega) hk
  have mkI : ∀ {w : World} {K : World → Option Addr → Nat → Nat → Prop}, (∀ w', OwI ty_int w' (some ⟨w.heap.size, 0, none⟩) (n + 1) (List.replicate (n + 1) 0) → Grow w w' → w'.heap.size = w.heap.size + 1 → K w' (some ⟨w.heap.size, 0, none⟩) (n + 1) (n + 1)) → ∃ w', ∃ p' n' c', (Instr.makeSlice ty_sl_int (.int .i64 ((n + 1 : Nat) : Int)) (.int .i64 ((n + 1 : Nat) : Int))).run Try.prog w = .ok (.slice p' n' c') w' ∧ K w' p' n' c' := fun hk => make_i sl_int int_zero rfl (n + 1) rfl (by omega) hk
  refine ⟨mkB fun w3 o3 g3 z3 => ⟨mkI fun w5 o5 g5 z5 => ?_, ?_⟩, mkI fun w3 o3 g3 z3 => ⟨mkB fun w5 o5 g5 z5 => ?_, ?_⟩, ?_⟩
  · intro n7 w8 h7
    have s7 := h7.num
    exact made n7 _ _ w8 h7.has ((o3.grow g5).grow h7.mod) (o5.grow h7.mod) (((H1.grow g3).grow g5).old h7) (((G2.trans g3).trans g5).trans h7.mod) (by omega) (by omega) (by omega) (by omega) (by omega) (by omega)
  · intro n7 w5 h7
    have s7 := h7.num; have l7 := h7.has.lt
    refine mkI fun w8 o5 g5 z5 => ?_
    exact made n7 _ _ w8 (h7.has.grow g5) ((o3.grow h7.mod).grow g5) o5 (((H1.grow g3).old h7).grow g5) (((G2.trans g3).trans h7.mod).trans g5) (by omega) (by omega) (by omega) (by omega) (by omega) (by omega)
  · intro n7 w8 h7
    have s7 := h7.num
    exact made n7 _ _ w8 h7.has (o5.grow h7.mod) ((o3.grow g5).grow h7.mod) (((H1.grow g3).grow g5).old h7) (((G2.trans g3).trans g5).trans h7.mod) (by omega) (by omega) (by omega) (by omega) (by omega) (by omega)
  · intro n7 w5 h7
    have s7 := h7.num; have l7 := h7.has.lt
    refine mkB fun w8 o5 g5 z5 => ?_
    exact made n7 _ _ w8 (h7.has.grow g5) o5 ((o3.grow h7.mod).grow g5) (((H1.grow g3).old h7).grow g5) (((G2.trans g3).trans h7.mod).trans g5) (by omega) (by omega) (by omega) (by omega) (by omega) (by omega)
  · intro n7 w3 h7
    have s7 := h7.num; have l7 := h7.has.lt
    refine ⟨mkB fun w5 o3 g3 z3 => mkI fun w8 o5 g5 z5 => ?_, mkI fun w5 o3 g3 z3 => mkB fun w8 o5 g5 z5 => ?_⟩
    · exact made n7 _ _ w8 ((h7.has.grow g3).grow g5) (o3.grow g5) o5 (((H1.old h7).grow g3).grow g5) (((G2.trans h7.mod).trans g3).trans g5) (by omega) (by omega) (by omega) (by omega) (by omega) (by omega)
    · exact made n7 _ _ w8 ((h7.has.grow g3).grow g5) o5 (o3.grow g5) (((H1.old h7).grow g3).grow g5) (((G2.trans h7.mod).trans g3).trans g5) (by omega) (by omega) (by omega) (by omega) (by omega) (by omega)
end Go.Proofs.Ytamckcamloelbaa.W
