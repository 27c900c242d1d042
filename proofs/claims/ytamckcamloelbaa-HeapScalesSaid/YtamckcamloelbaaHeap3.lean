/- Layer 9: a new heap; nobody's heap. -/
import Derived.Test.YtamckcamloelbaaHeap2
namespace Go.Proofs.Ytamckcamloelbaa.W
open Go Go.Fw Go.RowKit Go.HeapP

theorem int_zero : (Try.prog.info? ty_int).bind (·.zero) = some (.int .i64 0) := by kernel_rfl

theorem g_rep (n : Nat) (v : Int) : g (List.replicate n 0) v = 0 := by
  unfold g
  split
  · rfl
  · simp only [List.getD_eq_getElem?_getD, List.getElem?_replicate]; split <;> rfl

/-- A heap of n variables, of which the first t are in it. -/
structure Fresh (x : HS) (n t : Nat) : Prop where
  l : x.l.length = t
  lj : ∀ j : Int, 0 ≤ j → j < t → g x.l j = j + 1
  a : x.at_.length = n + 1
  au : ∀ u : Int, 0 ≤ u → u ≤ n → g x.at_ u = if u ≤ t then u else 0
  s : x.score = List.replicate (n + 1) 0
  st : x.step = 64

theorem Fresh.good {x : HS} {n : Nat} (h : Fresh x n n) (hn : n ≤ 1048576) : HGood x n := by
  have hl := h.l
  refine ⟨⟨by rw [h.a]; omega, by rw [h.s]; simp, by omega, ⟨fun j j0 j1 => ?_, fun v v1 v2 => ?_⟩, by rw [hl]; omega⟩, by omega, fun j j1 j2 j3 j4 => ?_, fun v _ _ => ?_, by rw [h.st]; decide⟩
  · have := h.lj j j0 (by omega)
    rw [this, h.au _ (by omega) (by omega)]
    refine ⟨by omega, by omega, ?_⟩
    rw [if_pos (by omega)]
  · rw [h.au v (by omega) v2, if_pos v2]
    refine ⟨by omega, by omega, fun _ => ?_⟩
    rw [h.lj _ (by omega) (by omega)]; omega
  · rw [h.lj j (by omega) (by omega), h.lj _ (by omega) (by omega), h.s]
    unfold Bt
    rw [g_rep, g_rep]; omega
  · rw [h.s, g_rep]; decide

theorem new_bad {w : World} (n : Int) (h : n < 0 ∨ 1048576 < n) : Calls Try.prog heap_New.id #[.int .i64 n] w fun e w' => e = .returned (.tuple #[.pointer none, .int .i64 1]) ∧ Grow w w' := by
  refine heap_New.calls ?_
  refine cnd_i (fun t => ⟨rfl, Mod.refl w⟩) (fun t => cnd_i (fun t2 => ⟨rfl, Mod.refl w⟩) (fun t2 => ?_))
  simp at t t2; omega

theorem new_ok {w : World} (n : Nat) (hn : n ≤ 1048576) : Calls Try.prog heap_New.id #[.int .i64 n] w fun e w' => ∃ b x, e = .returned (.tuple #[ptr b, .int .i64 0]) ∧ HRep w' b x ∧ Fresh x n n ∧ (∀ k, x.foot b k → w.heap.size ≤ k) ∧ Grow w w' := by
  refine heap_New.calls ?_
  refine cnd_f (decide_eq_false (by omega)) (cnd_f (decide_eq_false (by omega)) ?_)
  have e1 : IntKind.i64.wrap ((n : Int) + 1) = ((n + 1 : Nat) : Int) := by rw [wrap64_of (by omega) (by omega)]; omega
  rw [e1]
  have made : ∀ (b : Nat) (x : HS) (w6 : World), HRep w6 b x → Fresh x n 0 → (∀ k, x.foot b k → w.heap.size ≤ k) → Grow w w6 → 
      ∃ I7 : Int → World → Nat → Prop, (∃ k8, I7 1 w6 k8) ∧
        ∀ (v_10 : Int) (w11 : World) (k8 : Nat) (_ : Fr), I7 v_10 w11 k8 →
        cnd (decide (v_10 ≤ (n : Int)))
          (∃ a12 : Addr, (some (Addr.mk b 0 none)) = some a12 ∧ ∃ x13_p : Option Addr, ∃ x13_n : Nat, ∃ x13_c : Nat, w11.cell? (a12.add 0) = some (.slice x13_p x13_n x13_c) ∧ 
            ∀ (n14 : Nat) (w15 : World), New (.cells #[.int .i64 v_10] ty_int) w11 n14 w15 → 
            ∃ w16 : World, ∃ r17_p : Option Addr, ∃ r17_n : Nat, ∃ r17_c : Nat, (Builtin.append_ #[ty_sl_int, ty_sl_int] ty_sl_int #[.slice x13_p x13_n x13_c, .slice (some (Addr.mk n14 0 none)) 1 1]).run Try.prog w15 = .ok (.slice r17_p r17_n r17_c) w16 ∧ 
            ∃ a18 : Addr, (some (Addr.mk b 0 none)) = some a18 ∧ ∃ w19 : World, StoreAt (a18.add 0) 0 [.slice r17_p r17_n r17_c] w16 w19 ∧ 
            ∃ a20 : Addr, (some (Addr.mk b 0 none)) = some a20 ∧ ∃ x21_p : Option Addr, ∃ x21_n : Nat, ∃ x21_c : Nat, w19.cell? (a20.add 1) = some (.slice x21_p x21_n x21_c) ∧ 
            ixK x21_p x21_n v_10 1 fun a22 =>
            ∃ w23 : World, StoreAt a22 0 [.int .i64 v_10] w19 w23 ∧ 
            ∃ k9, k9 < k8 ∧ I7 (IntKind.i64.wrap (v_10 + (1 : Int))) w23 k9)
          (∃ b' x, Ending.returned (.tuple #[.pointer (some (Addr.mk b 0 none)), .int .i64 0]) = .returned (.tuple #[ptr b', .int .i64 0]) ∧ HRep w11 b' x ∧ Fresh x n n ∧ (∀ k, x.foot b' k → w.heap.size ≤ k) ∧ Grow w w11) := by
    intro b x w6 h f hf G
    refine ⟨fun v w' k => ∃ (t : Nat) (y : HS), v = t + 1 ∧ t ≤ n ∧ HRep w' b y ∧ Fresh y n t ∧ (∀ k, y.foot b k → w.heap.size ≤ k) ∧ Grow w w' ∧ k + t = n, ⟨n, 0, x, by omega, by omega, h, f, hf, G, by omega⟩, ?_⟩
    clear h f hf G
    rintro v w11 k _ ⟨t, x, rfl, ht, h, f, hf, G, hk⟩
    refine cnd_i (fun tt => ?_) (fun tt => ?_) <;> simp only [decide_eq_true_eq, decide_eq_false_iff_not] at tt
    · refine ⟨_, rfl, _, _, _, cell_add h.me rfl, ?_⟩
      intro n9 w10 hn9
      have hx := h.grow hn9.mod
      have G10 : Grow w w10 := G.trans hn9.mod
      have hl := f.l
      refine hx.hl.app1 sl_int ((t : Int) + 1) hn9.has rfl rfl oneInt (by omega) fun w11 p' c' o m hp hsz => ?_
      have hlts := hx.lt
      have S : ∀ k, blk p' = some k → blk x.pl = some k ∨ w10.heap.size ≤ k := by
        intro k hk
        rcases hp with rfl | rfl
        · exact .inl hk
        · right; simp [blk] at hk; omega
      have S2 : ∀ k, blk p' = some k → w.heap.size ≤ k := fun k hk => (S k hk).elim (fun e => hf k (.inr (.inl e))) (fun e => Nat.le_trans G10.size e)
      have m1 := hx.me.keep m hx.bl
      refine ⟨_, rfl, store_f m1 rfl rfl fun w14 o14 m14 => ?_⟩
      have pb : blk p' ≠ some b := fun e => by
        rcases S b e with e2 | e2
        · exact hx.bl e2
        · have := hlts b (.inl rfl); omega
      have h14 : HRep w14 b { x with l := x.l ++ [(t : Int) + 1], pl := p', cl := c' } := by
        refine ⟨?_, o.keep m14 fun k hk e => pb (e ▸ hk), (hx.ha.keep m fun k hk hk' => hx.la k hk' hk).keep m14 fun k hk e => hx.ba (e ▸ hk), (hx.hs.keep m fun k hk hk' => hx.ls k hk' hk).keep m14 fun k hk e => hx.bs (e ▸ hk), pb, hx.ba, hx.bs, ?_, ?_, hx.sa⟩
        · have e : (x.l ++ [(t : Int) + 1]).length = x.l.length + 1 := by simp
          show Has w14 b #[.slice p' (x.l ++ [(t : Int) + 1]).length c', _, _, _]
          rw [e]; exact o14
        · intro k hk hk'
          rcases S k hk with e | e
          · exact hx.la k e hk'
          · have := hlts k (.inr (.inr (.inl hk'))); omega
        · intro k hk hk'
          rcases S k hk with e | e
          · exact hx.ls k e hk'
          · have := hlts k (.inr (.inr (.inr hk'))); omega
      have G11 : Grow w w11 := G10.then m fun k hk e => by have := hf k (.inr (.inl e)); omega
      have G14 : Grow w w14 := G11.then m14 fun k hk e => by have := hf b (.inl rfl); omega
      refine ⟨_, rfl, _, _, _, cell_add h14.me rfl, h14.ha.st ((t : Int) + 1) rfl rfl (by omega) rfl (by have := f.a; show (t : Int) + 1 < (x.at_.length : Int); omega) fun w20 o20 m20 => ?_⟩
      have h20 := h14.setA (by simp) o20 m20
      refine ⟨k - 1, by omega, t + 1, _, ?_, by omega, h20, ?_, ?_, ?_, by omega⟩
      · rw [wrap64_of (by omega) (by omega)]; omega
      · refine ⟨by simp [hl], fun j j0 j1 => ?_, by simpa using f.a, fun u u0 u1 => ?_, f.s, f.st⟩
        · show g (x.l ++ [(t : Int) + 1]) j = j + 1
          rw [g_app]
          show (if j = (x.l.length : Int) then (t : Int) + 1 else g x.l j) = j + 1
          split
          · omega
          · exact f.lj j j0 (by omega)
        · show g (x.at_.set ((t : Int) + 1).toNat ((t : Int) + 1)) u = _
          rw [g_set (by omega) (by have := f.a; omega)]
          show (if u = (t : Int) + 1 then (t : Int) + 1 else g x.at_ u) = _
          rw [f.au u u0 u1]
          split
          · rw [if_pos (by omega)]; omega
          · split
            · rw [if_pos (by omega)]
            · rw [if_neg (by omega)]
      · rintro k (e | e | e | e)
        · exact hf k (.inl e)
        · exact S2 k e
        · exact hf k (.inr (.inr (.inl e)))
        · exact hf k (.inr (.inr (.inr e)))
      · exact G14.then m20 fun k hk e => by have := hf k (.inr (.inr (.inl e))); omega
    · have : t = n := by omega
      subst this
      exact ⟨b, x, rfl, h, f, hf, G⟩
  have G0 : Grow w w.drew := (Mod.refl w).drew
  have s0 : w.drew.heap.size = w.heap.size := rfl
  refine ⟨?_, ?_⟩ <;> refine make_i sl_int int_zero (f := Value.int .i64) (x := 0) rfl (n + 1) rfl (by omega) fun w1 o1 g1 z1 => make_i sl_int int_zero (f := Value.int .i64) (x := 0) rfl (n + 1) rfl (by omega) fun w3 o3 g3 z3 => ?_ <;> intro n5 w6 hn5 <;> have o1' := (o1.grow g3).grow hn5.mod <;> have o3' := o3.grow hn5.mod <;> have hnum := hn5.num
  · refine made n5 ⟨none, 0, some ⟨w.heap.size, 0, none⟩, n + 1, some ⟨w1.heap.size, 0, none⟩, n + 1, [], List.replicate (n + 1) 0, List.replicate (n + 1) 0, 64⟩ w6 ⟨?_, Ow.nil _ _ _, o1', o3', ?_, ?_, ?_, ?_, ?_, ?_⟩ ⟨rfl, fun j j0 j1 => by omega, by simp, fun u u0 u1 => ?_, rfl, rfl⟩ ?_ (((G0.trans g1).trans g3).trans hn5.mod)
    · have := hn5.has
      simpa using this
    · simp [blk]
    · simp [blk]; omega
    · simp [blk]; omega
    · simp [blk]
    · simp [blk]
    · simp [blk]; omega
    · rw [g_rep]; split <;> omega
    · rintro k (e | e | e | e) <;> (try simp [blk] at e) <;> omega
  · refine made n5 ⟨none, 0, some ⟨w1.heap.size, 0, none⟩, n + 1, some ⟨w.heap.size, 0, none⟩, n + 1, [], List.replicate (n + 1) 0, List.replicate (n + 1) 0, 64⟩ w6 ⟨?_, Ow.nil _ _ _, o3', o1', ?_, ?_, ?_, ?_, ?_, ?_⟩ ⟨rfl, fun j j0 j1 => by omega, by simp, fun u u0 u1 => ?_, rfl, rfl⟩ ?_ (((G0.trans g1).trans g3).trans hn5.mod)
    · have := hn5.has
      simpa using this
    · simp [blk]
    · simp [blk]; omega
    · simp [blk]; omega
    · simp [blk]
    · simp [blk]
    · simp [blk]; omega
    · rw [g_rep]; split <;> omega
    · rintro k (e | e | e | e) <;> (try simp [blk] at e) <;> omega

end Go.Proofs.Ytamckcamloelbaa.W
