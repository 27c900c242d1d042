/- Layer 9: a play, and the laws of acts. -/
import Derived.Test.YtamckcamloelbaaHeap8
namespace Go.Proofs.Ytamckcamloelbaa.W
open Go Go.Fw Go.RowKit Go.HeapP

variable {w0 w w' : World} {b n1 n7 N : Nat} {x z : HS} {r r' : RS}

/-- What a play tells. -/
def Played (w0 : World) (N : Nat) (v : Value) (w' : World) : Prop := ∃ b x r, v = .tuple #[ptr b, r.val, .bool true] ∧ HRep w' b x ∧ HGood x N ∧ RRep w' r ∧ Rel x N r ∧ (∀ k, x.foot b k → ¬ r.foot k ∧ w0.heap.size ≤ k) ∧ Grow w0 w'

theorem play_ok {p : Option Addr} {n c : Nat} {f : Nat → Int × Int × Int} (hN : N ≤ 1048576) (ha : Acts w p n f) (hn : n ≤ maxLen) : Calls Try.prog fathomlaw09_play.id #[.int .i64 N, .slice p n c] w fun e w' => ∃ v, e = .returned v ∧ Played w N v w' := by
  refine fathomlaw09_play.calls ?_
  unfold maxLen at hn
  intro n1 w2 h1
  have H1 := h1.has
  refine (refNew_ok N hN).mono ?_
  rintro e w3 ⟨r, rfl, hr, fr, rf, g3⟩
  refine ⟨_, _, _, _, _, _, _, rfl, ?_⟩
  intro n7 w8 h7
  have l1 := H1.lt
  have s1 := h1.num; have s7 := h7.num
  have z3 := g3.size
  have z2 := h1.mod.size
  refine store_i h7.has rfl rfl fun w9 Hv m9 => ?_
  have hrl := hr.lt
  have hr := (hr.grow h7.mod).put m9 fun e => by have := hrl _ e; omega
  have H1 := ((H1.grow g3).old h7).put m9 (by omega)
  have G9 : Grow w w9 := ((h1.mod.trans g3).trans h7.mod).then m9 fun k hk (e : k = n7) => by omega
  have Hv : Has w9 n7 r.row := Hv
  have l7 := Hv.lt
  have l19 := H1.lt
  refine (new_ok N hN).mono ?_
  rintro e w10 ⟨b, x, rfl, hx, fx, xf, g10⟩
  have gd := fx.good hN
  have z9 := G9.size
  have P : PInv w b n1 n7 N w10 x r := ⟨hx, gd, hr.grow g10, Hv.grow g10, H1.grow g10, fun k hk => by
      have := xf k hk
      exact ⟨fun e => by have := hr.lt k e; omega, by omega, by omega, by omega⟩, fun k hk => by have := rf k hk; have := hrl k hk; exact ⟨by omega, by omega⟩, by omega, by omega, by omega, G9.trans g10⟩
  have R : Rel x N r := ⟨fr.i, by rw [fr.s, fx.s], by rw [fr.st, fx.st], fun u u0 u1 => by rw [fr.iu u u0 u1, fx.au u (by omega) u1, if_pos u1]; exact decide_eq_decide.2 (by omega)⟩
  refine ⟨_, _, rfl, cnd_f rfl (cnd_f rfl ?_)⟩
  refine ⟨fun i w' k => ∃ t : Nat, i = t ∧ t ≤ n ∧ k + t = n ∧ ∃ x r, PInv w b n1 n7 N w' x r ∧ Rel x N r, ⟨n, 0, rfl, by omega, rfl, x, r, P, R⟩, ?_⟩
  clear P R gd fx xf hx Hv H1 hr hrl rf fr G9 g10 l7 l19 z9
  rintro i w31 k _ ⟨t, rfl, ht, hk, x, r, P, R⟩
  have fin : ∀ w' x r, PInv w b n1 n7 N w' x r → Rel x N r → ∃ x126_p : Option Addr, ∃ x126_n : Nat, ∃ x126_c : Nat, ∃ x127_p : Option Addr, ∃ x127_n : Nat, ∃ x127_c : Nat, ∃ x128 : Int, CellsAt w' (Addr.mk n7 0 none) 0 [.slice x126_p x126_n x126_c, .slice x127_p x127_n x127_c, .int .i64 x128] ∧ 
        ∃ w129 : World, StoreAt (Addr.mk n1 0 none) 0 [.slice x126_p x126_n x126_c, .slice x127_p x127_n x127_c, .int .i64 x128] w' w129 ∧ 
        ∃ x130_p : Option Addr, ∃ x130_n : Nat, ∃ x130_c : Nat, ∃ x131_p : Option Addr, ∃ x131_n : Nat, ∃ x131_c : Nat, ∃ x132 : Int, CellsAt w129 (Addr.mk n1 0 none) 0 [.slice x130_p x130_n x130_c, .slice x131_p x131_n x131_c, .int .i64 x132] ∧ 
        ∃ v, Ending.returned (.tuple #[.pointer (some ⟨b, 0, none⟩), .agg #[.slice x130_p x130_n x130_c, .slice x131_p x131_n x131_c, .int .i64 x132], .bool true]) = .returned v ∧ Played w N v w129 := by
    intro w' x r P R
    refine ⟨_, _, _, _, _, _, _, cells3 P.hv, store_i P.ho rfl rfl fun w3 Ho m => ⟨_, _, _, _, _, _, _, cells3 Ho, _, rfl, b, x, r, rfl, ?_, P.gd, ?_, R, fun k hk => ⟨(P.dx k hk).1, (P.dx k hk).2.2.2⟩, ?_⟩⟩
    · exact P.h.keep m fun k hk e => (P.dx k hk).2.2.1 e
    · exact P.hr.put m fun e => (P.dr _ e).2 rfl
    · exact P.G.then m fun k hk (e : k = n1) => by omega
  refine cnd_i (fun q => cnd_i (fun q2 => ?_) (fun q2 => fin _ x r P.drew R)) (fun q => fin _ x r P.drew R)
  simp only [decide_eq_true_eq] at q q2
  have q' : t < n := by omega
  have acts : ∀ {w' : World} {K : Addr → Prop}, Grow w w' → (∀ a, w'.cell? (a.add 0) = some (.int .i64 (f t).1) → w'.cell? (a.add 1) = some (.int .i64 (f t).2.1) → w'.cell? (a.add 2) = some (.int .i64 (f t).2.2) → K a) → ixK p n (t : Int) 3 K := fun g hk => ha.ix q' fun a e1 e2 e3 => hk a (cell_keep g e1) (cell_keep g e2) (cell_keep g e3)
  generalize (f t).1 = d at acts
  generalize (f t).2.1 = v at acts
  generalize (f t).2.2 = m at acts
  refine ⟨fun is w' => is = decide (1 ≤ v ∧ v ≤ (N : Int)) ∧ w' = w31, ?_, ?_⟩
  · refine acts P.G fun a e1 e2 e3 => ⟨_, e2, cnd_i (fun s1 => acts P.G fun a e1 e2 e3 => ⟨_, e2, ?_, rfl⟩) (fun s1 => ⟨?_, rfl⟩)⟩ <;> simp only [decide_eq_true_eq, decide_eq_false_iff_not, ge_iff_le] at s1
    · exact decide_eq_decide.2 (by omega)
    · exact (decide_eq_false (by omega)).symm
  rintro is w38 _ ⟨rfl, rfl⟩
  refine ⟨fun is e w' => ((e == 0) == is) = true ∧ ∃ x r, PInv w b n1 n7 N w' x r ∧ Rel x N r, ?_, ?_⟩
  · refine acts P.G fun a e1 e2 e3 => ⟨_, e1, ?_⟩
    have gd := P.gd
    have hna := gd.ok.na
    have hns := gd.ok.ns
    have hnl := gd.ok.nl
    have hst := gd.st
    unfold top at hst
    have sm := gd.small R
    have hrn := R.n
    have hrs : r.rs.length = N + 1 := by rw [R.s]; omega
    refine cnd_i (fun s => ?_) (fun s => cnd_i (fun s2 => ?_) (fun s2 => cnd_i (fun s3 => ?_) (fun s3 => cnd_i (fun s4 => ?_) (fun s4 => ?_))))
    · refine acts P.G fun a e1 e2 e3 => ⟨_, e2, (bump_ok P.h gd v).mono ?_⟩
      rintro e w44 ⟨rfl, z, hz, gz, lz, mz⟩
      by_cases hv : 1 ≤ v ∧ v ≤ (N : Int)
      · rw [if_pos hv] at lz ⊢
        have zf : ∀ k, z.foot b k → x.foot b k ∨ w38.heap.size ≤ k := by
          intro k hk
          left
          rw [lz.foot b] at hk
          split at hk <;> exact hk
        have P2 := (P.heap hz gz mz zf).drew
        have sv := sm v.toNat (by omega)
        rw [g_nn (by omega)] at sv
        have v0 : 0 ≤ v := by omega
        have v1 : v < r.rs.length := by omega
        refine ⟨_, rfl, cnd_t (decide_eq_true hv) ⟨_, _, _, _, _, _, _, cells3 P2.hv, acts P2.G fun a e1 e2 e3 => ⟨_, e2, (refBump_ok P2.hr (by omega) (fun t ht => ⟨(sm t ht).1, by have := (sm t ht).2; omega⟩) (by rw [R.st]; omega) v v0 v1).mono ?_⟩⟩⟩
        rintro e w51 ⟨r', rfl, sc, hf, g51⟩
        refine ⟨_, _, _, _, _, _, _, rfl, store_i (P2.hv.grow g51) rfl rfl fun w55 Hv m55 => ⟨by rw [decide_eq_true hv]; rfl, z, r', P2.ref g51 sc.rep hf Hv m55, ?_⟩⟩
        have must : RS.must { r with rs := r.rs.set v.toNat (g r.rs v + r.step) } = true ↔ top < g x.score v + x.step := by
          rw [must_iff]
          show (top < r.step ∨ ∃ t : Nat, t < (r.rs.set v.toNat (g r.rs v + r.step)).length ∧ top < g (r.rs.set v.toNat (g r.rs v + r.step)) t) ↔ _
          rw [g_set v0 v1, List.length_set, ← R.s, ← R.st]
          constructor
          · rintro (h | ⟨t, ht, h⟩)
            · rw [R.st] at h; unfold top at h; omega
            · simp only at h
              split at h
              · exact h
              · have := (sm t ht).2
                rw [g_nat] at this
                unfold top at h; omega
          · intro h
            right
            refine ⟨v.toNat, by omega, ?_⟩
            simp only [Int.toNat_of_nonneg v0, if_true]
            exact h
        by_cases hc : top < g x.score v + x.step
        · rw [if_pos hc] at lz
          have hm := must.2 hc
          refine ⟨by rw [sc.rin]; exact R.n, ?_, ?_, fun u u0 u1 => ?_⟩
          · rw [sc.rs, if_pos hm]; show (r.rs.set v.toNat (g r.rs v + r.step)).map f20 = _; rw [R.s, R.st]; exact lz.score.symm
          · rw [sc.step, if_pos hm]; show imax 1 (f20 r.step) = _; rw [R.st]; exact lz.step.symm
          · rw [sc.rin]; show gb r.rin u = _; rw [R.i u u0 u1]; exact decide_eq_decide.2 (lz.has u u0 u1).symm
        · rw [if_neg hc] at lz
          have hm : ¬ RS.must { r with rs := r.rs.set v.toNat (g r.rs v + r.step) } = true := fun h => hc (must.1 h)
          refine ⟨by rw [sc.rin]; exact R.n, ?_, ?_, fun u u0 u1 => ?_⟩
          · rw [sc.rs, if_neg hm]; show r.rs.set v.toNat (g r.rs v + r.step) = _; rw [R.s, R.st]; exact lz.score.symm
          · rw [sc.step, if_neg hm]; show r.step = _; rw [R.st]; exact lz.step.symm
          · rw [sc.rin]; show gb r.rin u = _; rw [R.i u u0 u1]; exact decide_eq_decide.2 (lz.has u u0 u1).symm
      · rw [if_neg hv] at lz ⊢
        have zf : ∀ k, z.foot b k → x.foot b k ∨ w38.heap.size ≤ k := fun k hk => .inl (by rw [← lz.foot b]; exact hk)
        exact ⟨_, rfl, cnd_f (decide_eq_false hv) ⟨by rw [decide_eq_false hv]; rfl, z, r, P.heap hz gz mz zf, R.lk lz⟩⟩
    · have popd : Calls Try.prog heap_Heap_Pop.id #[ptr b] w38 fun e w' => ∃ z, e = .returned (.tuple #[.int .i64 (if x.l.length = 0 then 0 else g x.l 0), .bool (decide (x.l.length ≠ 0))]) ∧ PInv w b n1 n7 N w' z r ∧ (x.l.length = 0 → z = x) ∧ (x.l.length ≠ 0 → Lk0 N (g x.l 0) x z) := by
        by_cases h0 : x.l.length = 0
        · refine (pop_no P.h h0).mono ?_
          rintro e w' ⟨rfl, h, g⟩
          exact ⟨x, by simp [h0], P.grow g, fun _ => rfl, fun h => absurd h0 h⟩
        · refine (pop_ok P.h gd h0).mono ?_
          rintro e w' ⟨rfl, z, hz, gz, lz, _, mz, zf⟩
          exact ⟨z, by simp [h0], P.heap hz gz mz fun k hk => .inl (by rw [← zf]; exact hk), fun h => absurd h h0, fun _ => lz⟩
      refine popd.mono ?_
      rintro e w56 ⟨z, rfl, P2, z0, z1⟩
      refine ⟨_, _, rfl, _, _, _, _, _, _, _, cells3 P2.hv, (refBest_ok (r := r) P2.hr (by omega) (by omega)).mono ?_⟩
      rintro e w62 ⟨⟨b', rfl, hb⟩, g62⟩
      have P3 := P2.grow g62
      have hb' := R.best gd hb
      refine ⟨_, rfl, cnd_f ?_ (cnd_f ?_ (cnd_i (fun s5 => ?_) (fun s5 => ⟨rfl, z, r, P3, ?_⟩)))⟩
      · rcases hb' with ⟨e1, e2⟩ | ⟨e1, e2, _⟩ <;> simp [e1, e2]
      · rcases hb' with ⟨e1, e2⟩ | ⟨e1, e2, e3, _⟩
        · simp [e1, e2]
        · simp [e1]; omega
      · have s5 : x.l.length ≠ 0 := by simpa using s5
        obtain ⟨_, e2, e3, e4⟩ := hb'.resolve_left (fun h => s5 h.1)
        have lz := z1 s5
        rw [if_neg s5, ← e2]
        rw [← e2] at lz
        refine ⟨_, _, _, _, _, _, _, cells3 P3.hv, (refSet_ok P3.hr b' false (by omega) (by omega) (by omega)).mono ?_⟩
        rintro e w81 ⟨r', rfl, hr', ri, rs, rt, rf, g81⟩
        refine ⟨_, _, _, _, _, _, _, rfl, store_i (P3.hv.grow g81) rfl rfl fun w85 Hv m85 => ⟨rfl, z, r', P3.ref g81 hr' rf Hv m85, ?_⟩⟩
        refine ⟨by rw [ri, List.length_set]; exact R.n, by rw [rs, R.s, lz.score], by rw [rt, R.st, lz.step], fun u u0 u1 => ?_⟩
        rw [ri, gb_set (by omega) (by omega)]
        simp only
        rw [R.i u u0 u1]
        by_cases e : u = b'
        · rw [if_pos e]
          refine (decide_eq_false fun h => ?_).symm
          exact ((lz.has u u0 u1).1 h).2 e
        · rw [if_neg e]
          refine decide_eq_decide.2 ?_
          rw [lz.has u u0 u1]
          exact ⟨fun h => ⟨h, e⟩, fun h => h.1⟩
      · have s5 : x.l.length = 0 := by simpa using s5
        rw [z0 s5]; exact R
    · refine acts P.G fun a e1 e2 e3 => ⟨_, e2, ?_⟩
      by_cases hv : 1 ≤ v ∧ v ≤ (N : Int)
      · refine (push_ok P.h gd v hv).mono ?_
        rintro e w88 ⟨rfl, z, hz, gz, lz, mz, zf⟩
        have P2 := (P.heap hz gz mz zf).drew
        have v0 : 0 ≤ v := by omega
        refine ⟨_, rfl, cnd_t (decide_eq_true hv) ⟨_, _, _, _, _, _, _, cells3 P2.hv, acts P2.G fun a e1 e2 e3 => ⟨_, e2, (refSet_ok P2.hr v true v0 (by omega) (by omega)).mono ?_⟩⟩⟩
        rintro e w95 ⟨r', rfl, hr', ri, rs, rt, rf, g95⟩
        refine ⟨_, _, _, _, _, _, _, rfl, store_i (P2.hv.grow g95) rfl rfl fun w99 Hv m99 => ⟨by rw [decide_eq_true hv]; rfl, z, r', P2.ref g95 hr' rf Hv m99, ?_⟩⟩
        refine ⟨by rw [ri, List.length_set]; exact R.n, by rw [rs, R.s, lz.score], by rw [rt, R.st, lz.step], fun u u0 u1 => ?_⟩
        rw [ri, gb_set (by omega) (by omega)]
        simp only
        rw [R.i u u0 u1]
        by_cases e : u = v
        · rw [if_pos e]
          exact (decide_eq_true ((lz.has u u0 u1).2 (.inr e))).symm
        · rw [if_neg e]
          refine decide_eq_decide.2 ?_
          rw [lz.has u u0 u1]
          exact ⟨.inl, fun h => h.resolve_right e⟩
      · refine (push_no P.h hna v hv).mono ?_
        rintro e w88 ⟨rfl, h, g⟩
        exact ⟨_, rfl, cnd_f (decide_eq_false hv) ⟨by rw [decide_eq_false hv]; rfl, x, r, P.grow g, R⟩⟩
    · refine ⟨fun k w' m => 0 ≤ k ∧ k ≤ 400 ∧ m = (400 - k).toNat ∧ ∃ x r, PInv w b n1 n7 N w' x r ∧ Rel x N r, ⟨400, by omega, by omega, rfl, x, r, P, R⟩, ?_⟩
      clear P R gd hna hns hnl hst sm hrn hrs fin
      rintro k w104 m' _ ⟨k0, k1, hm, x, r, P, R⟩
      refine acts P.G fun a e1 e2 e3 => ⟨_, e3, cnd_i (fun s5 => cnd_i (fun s6 => ?_) (fun s6 => ⟨rfl, x, r, P, R⟩)) (fun s5 => ⟨rfl, x, r, P, R⟩)⟩
      simp only [decide_eq_true_eq] at s6
      refine decay2 P R fun w' x' r' P' R' => ⟨(400 - (k + 1)).toNat, by omega, ?_, ?_, ?_, x', r', P', R'⟩
      · rw [wrap64_of (by omega) (by omega)]; omega
      · rw [wrap64_of (by omega) (by omega)]; omega
      · rw [wrap64_of (by omega) (by omega)]
    · exact ⟨rfl, x, r, P, R⟩
  · rintro is e w118 _ ⟨he, x, r, P, R⟩
    refine cnd_f (by rw [he]; rfl) ⟨k - 1, by omega, t + 1, ?_, by omega, by omega, x, r, P, R⟩
    rw [wrap64_of (by omega) (by omega)]; omega

end Go.Proofs.Ytamckcamloelbaa.W
