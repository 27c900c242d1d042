/- Layer 12: what is studied: levels, what is added, and what is at the top. -/
import Derived.Test.YtlpmapeojecenaaLearn3
namespace Go.Proofs.Ytlpmapeojecenaa.W
open Go Go.Fw Go.RowKit Go.SoP Go.LiP Go.LeP
variable {W0 w w' : World} {p q : Option Addr} {n c m d ns b1 b2 nb : Nat} {tr : List As} {l : List Int} {s : Int → Bool}

/-- What is studied: a trail, its places, and what is in. -/
structure Stu (W0 w : World) (ns : Nat) (p : Option Addr) (n c : Nat) (tr : List As) (b1 b2 : Nat) : Prop where
  tv : TV W0 p tr
  hn : n = tr.length
  ok : TrOk tr
  hl : tr.length ≤ 4096
  G : Grow W0 w
  h : Has w ns #[.slice p n c, .map (some b1), .map (some b2)]
  M : MI Try.prog ty_int ty_int w b1 tr.length (atM tr)
  f2 : W0.heap.size ≤ b2
  d1 : b1 ≠ b2
  d2 : ns ≠ b2
theorem Stu.keep {S : Nat → Prop} (h : Stu W0 w ns p n c tr b1 b2) (m : Mod S w w') (h0 : ∀ b, S b → W0.heap.size ≤ b) (h1 : ¬ S ns) (h2 : ¬ S b1) : Stu W0 w' ns p n c tr b1 b2 :=
  ⟨h.tv, h.hn, h.ok, h.hl, h.G.then m fun x hx e => by have := h0 x e; omega, h.h.keep m h1, h.M.keep m h2, h.f2, h.d1, h.d2⟩
theorem Stu.grow (h : Stu W0 w ns p n c tr b1 b2) (m : Grow w w') : Stu W0 w' ns p n c tr b1 b2 := h.keep m (fun _ e => e.elim) id id
theorem Stu.put (h : Stu W0 w ns p n c tr b1 b2) (m : Mod (· = b2) w w') : Stu W0 w' ns p n c tr b1 b2 := h.keep m (fun _ (e : _ = b2) => by subst e; exact h.f2) h.d2 h.d1

theorem level_ok (h : Stu W0 w ns p n c tr b1 b2) {x : Int} (hx : Br1 tr x) : Calls Try.prog learn_study_level.id #[.pointer (some ⟨ns, 0, none⟩), .int .i64 x] w fun e w' => e = .returned (.int .i64 (lv tr x)) ∧ Grow w w' := by
  refine learn_study_level.calls ?_
  have hb := litB_bd hx.isl
  have H : Has w.drew ns _ := h.h.drew
  have sl : ∀ {u : World}, Grow w.drew u → u.cell? ((Addr.mk ns 0 none).add 0) = some (.slice p n c) := fun g => cell_add (H.grow g) rfl
  have mp : ∀ {u : World}, Grow w.drew u → u.cell? ((Addr.mk ns 0 none).add 1) = some (.map (some b1)) := fun g => cell_add (H.grow g) rfl
  have g0 : Grow w.drew w.drew := Mod.refl _
  have GD : Grow w w.drew := (Mod.refl w).drew
  have am1 : ∀ {Q : Ending → World → Prop}, (∀ u, Grow w.drew u → Q (.returned (.int .i64 (am x))) u) → Calls Try.prog learn_amount.id #[.int .i64 x] w.drew Q := fun hQ => by
    refine (amount12_ok (by omega) (by omega) w.drew).mono ?_
    rintro e u ⟨rfl, g⟩
    exact hQ u g
  have look : ∀ {u : World}, Grow w.drew u → (Instr.lookup ty_map_int_int (.map (some b1)) (.int .i64 (am x)) false).run Try.prog u = .ok (.int .i64 (atM tr (am x))) u := fun g => (h.M.grow (GD.trans g)).look mapI_at (wf_am hx.isl)
  have fin : ∀ {u : World}, Grow w.drew u → ixK p n (IntKind.i64.wrap (atM tr (am x) - 1)) 3 fun a => ∃ y : Int, u.cell? (a.add 1) = some (.int .i64 y) ∧ (Ending.returned (.int .i64 y) = .returned (.int .i64 (lv tr x)) ∧ Grow w u) := by
    intro u g
    rw [atM_wrap h.hl hx.lt]
    exact (h.tv.grow ((h.G.trans GD).trans g)).ix h.hn _ rfl hx.lt fun a s C e1 e2 v => ⟨_, C.2.1, rfl, GD.trans g⟩
  refine ⟨_, rfl, _, rfl, ⟨_, _, _, sl g0, ⟨_, mp g0, am1 fun u g => ⟨_, rfl, u, _, look g, fin g⟩⟩, am1 fun u g => ⟨_, rfl, _, mp g, u, _, look g, fin g⟩⟩,
    ⟨_, mp g0, ⟨_, _, _, sl g0, am1 fun u g => ⟨_, rfl, u, _, look g, fin g⟩⟩, am1 fun u g => ⟨_, rfl, ⟨_, _, _, sl g, u, _, look g, fin g⟩, ⟨u, _, look g, _, _, _, sl g, fin g⟩⟩⟩,
    am1 fun u g => ⟨_, rfl, _, mp g, ⟨_, _, _, sl g, u, _, look g, fin g⟩, ⟨u, _, look g, _, _, _, sl g, fin g⟩⟩⟩

theorem MS_cast {b n : Nat} {s s' : Int → Bool} (h : MS Try.prog ty_int ty_bool w b n s) (e : ∀ u, s u = s' u) : MS Try.prog ty_int ty_bool w b n s' := by
  rw [← show s = s' from funext e]; exact h

theorem add_ok (h : Stu W0 w ns p n c tr b1 b2) (M : MS Try.prog ty_int ty_bool w b2 nb s) (hc : Vw (Value.int .i64) W0 q l) (hk : m = l.length) (hx : nb + l.length ≤ 10000000) (hi : ∀ x ∈ l, isL x = true) (but : Int) :
    Calls Try.prog learn_study_add.id #[.pointer (some ⟨ns, 0, none⟩), .slice q m d, .int .i64 but] w fun e w' => e = .returned (.tuple #[]) ∧ Stu W0 w' ns p n c tr b1 b2 ∧ ∃ nb' s', nb' ≤ nb + l.length ∧ MS Try.prog ty_int ty_bool w' b2 nb' s' ∧ ∀ u, s' u = (s u || decide (u ∈ l ∧ u ≠ but)) := by
  refine learn_study_add.calls ?_
  refine ⟨fun I w' k => ∃ (t nb' : Nat) (s' : Int → Bool), I = t ∧ t ≤ l.length ∧ k = l.length - t ∧ nb' ≤ nb + t ∧ Stu W0 w' ns p n c tr b1 b2 ∧ MS Try.prog ty_int ty_bool w' b2 nb' s' ∧ ∀ u, s' u = (s u || decide (u ∈ l.take t ∧ u ≠ but)), ⟨_, 0, nb, s, rfl, Nat.zero_le _, rfl, Nat.le_refl _, h, M, fun u => by simp⟩, ?_⟩
  rintro I w5 k _ ⟨t, nb', s', rfl, ht, rfl, hb, S, M', hs⟩
  refine cnd_i (fun r => ?_) (fun r => ?_)
  · have r : t < l.length := by simp at r; omega
    refine (hc.grow S.G).ix 0 (by omega) hk (by omega) fun a e => ⟨_, e, ?_⟩
    rw [Int.toNat_natCast]
    refine cnd_i (fun r2 => ⟨_, rfl, _, cell_add S.h rfl, ?_⟩) (fun r2 => ⟨_, ?_, t + 1, nb', s', wN (by omega) (by omega), by omega, rfl, by omega, S, M', fun u => ?_⟩)
    · have r2 : l.getD t 0 ≠ but := by simpa using r2
      obtain ⟨w10, hr, M10, m10⟩ := M'.put mapB_in (by unfold maxLen; omega) (wf_lit (hi _ (mem_getD r)))
      refine ⟨w10, hr, _, ?_, t + 1, nb' + 1, _, wN (by omega) (by omega), by omega, rfl, by omega, S.put m10, M10, fun u => ?_⟩
      · omega
      · simp only [mem_take_succ r, hs u]
        by_cases e : u = l.getD t 0
        · rw [if_pos e]
          have : decide ((u ∈ l.take t ∨ u = l.getD t 0) ∧ u ≠ but) = true := decide_eq_true ⟨.inr e, e ▸ r2⟩
          rw [this, Bool.or_true]
        · rw [if_neg e]
          exact congrArg (s u || ·) (decide_eq_decide.2 ⟨fun h => ⟨.inl h.1, h.2⟩, fun h => ⟨h.1.resolve_right e, h.2⟩⟩)
    · omega
    · have r2 : l.getD t 0 = but := by simpa using r2
      rw [hs u]
      refine congrArg (s u || ·) (decide_eq_decide.2 ?_)
      rw [mem_take_succ r]
      constructor
      · rintro ⟨a, b⟩; exact ⟨.inl a, b⟩
      · rintro ⟨a | a, b⟩
        · exact ⟨a, b⟩
        · exact absurd (a.trans r2) b
  · have r : t = l.length := by simp at r; omega
    subst r
    rw [List.take_length] at hs
    exact ⟨rfl, S, nb', s', by omega, M', hs⟩

/-- The greatest level of a list, how many are of it, and the place of the last of them. -/
def TopR (tr : List As) (c : List Int) (L N P : Int) : Prop :=
  (c = [] ∧ L = 0 ∧ N = 0 ∧ P = -1) ∨ ((∀ x ∈ c, lv tr x ≤ L) ∧ N = cntL tr c L ∧ 0 < N ∧ (∃ x ∈ c, lv tr x = L ∧ (atN tr (am x) : Int) = P) ∧ ∀ x ∈ c, lv tr x = L → (atN tr (am x) : Int) ≤ P)
theorem TopR.perm {c k : List Int} {L N P : Int} (h : TopR tr c L N P) (e : c.Perm k) : TopR tr k L N P := by
  rcases h with ⟨rfl, h⟩ | ⟨h1, h2, h3, ⟨x, hx, h4⟩, h5⟩
  · exact .inl ⟨e.nil_eq.symm, h⟩
  · exact .inr ⟨fun x hx => h1 x (e.mem_iff.2 hx), by rw [h2]; unfold cntL; rw [e.countP_eq], h3, ⟨x, e.mem_iff.1 hx, h4⟩, fun x hx => h5 x (e.mem_iff.2 hx)⟩
theorem TopR.step {c : List Int} {L N P a : Int} (h : TopR tr c L N P) :
    (N = 0 ∨ L < lv tr a → TopR tr (a :: c) (lv tr a) 1 (atN tr (am a))) ∧ (N ≠ 0 → lv tr a = L → TopR tr (a :: c) L (N + 1) (imax P (atN tr (am a)))) ∧ (N ≠ 0 → lv tr a < L → TopR tr (a :: c) L N P) := by
  refine ⟨fun e => ?_, fun hN e => ?_, fun hN e => ?_⟩
  · have all : ∀ x ∈ c, lv tr x < lv tr a := by
      rcases h with ⟨rfl, h⟩ | ⟨h1, h2, h3, _⟩
      · simp
      · intro x hx
        have := h1 x hx
        omega
    refine .inr ⟨fun x hx => ?_, ?_, by omega, ⟨a, by simp, rfl, rfl⟩, fun x hx hl => ?_⟩
    · rcases List.mem_cons.1 hx with e | e
      · rw [e]; exact Int.le_refl _
      · have := all x e; omega
    · have : c.countP (fun x => lv tr x == lv tr a) = 0 := List.countP_eq_zero.2 fun x hx => by
        have := all x hx
        simp; omega
      unfold cntL
      rw [List.countP_cons, this]; simp
    · rcases List.mem_cons.1 hx with e | e
      · rw [e]; exact Int.le_refl _
      · have := all x e; omega
  · rcases h with ⟨rfl, h⟩ | ⟨h1, h2, h3, ⟨y, hy, h4, h6⟩, h5⟩
    · exact absurd h.2.1 hN
    · refine .inr ⟨fun x hx => ?_, ?_, by omega, ?_, fun x hx hl => ?_⟩
      · rcases List.mem_cons.1 hx with e2 | e2
        · rw [e2, e]; exact Int.le_refl _
        · exact h1 x e2
      · rw [h2]; unfold cntL
        rw [List.countP_cons, if_pos (by simpa using e)]; simp
      · unfold imax
        split
        · exact ⟨a, by simp, e, rfl⟩
        · exact ⟨y, List.mem_cons_of_mem _ hy, h4, h6⟩
      · unfold imax
        rcases List.mem_cons.1 hx with e2 | e2
        · subst e2; split <;> omega
        · have := h5 x e2 hl
          split <;> omega
  · rcases h with ⟨rfl, h⟩ | ⟨h1, h2, h3, ⟨y, hy, h4⟩, h5⟩
    · exact absurd h.2.1 hN
    · refine .inr ⟨fun x hx => ?_, ?_, h3, ⟨y, List.mem_cons_of_mem _ hy, h4⟩, fun x hx hl => ?_⟩
      · rcases List.mem_cons.1 hx with e2 | e2
        · rw [e2]; omega
        · exact h1 x e2
      · rw [h2]; unfold cntL
        rw [List.countP_cons, if_neg (by simp; omega)]; simp
      · rcases List.mem_cons.1 hx with e2 | e2
        · subst e2; omega
        · exact h5 x e2 hl

/-- What was visited by a round: those that are left no more. -/
def Vis (s lf : Int → Bool) (V : List Int) : Prop := V.Nodup ∧ ∀ x, x ∈ V ↔ s x = true ∧ lf x = false
theorem Vis.nil : Vis s s [] := ⟨List.nodup_nil, fun x => by
  constructor
  · intro h; simp at h
  · rintro ⟨a, b⟩; rw [a] at b; simp at b⟩
theorem Vis.step {lf : Int → Bool} {V : List Int} {a : Int} (h : Vis s lf V) (ha : lf a = true) (hs : s a = true) : Vis s (fun x => lf x && x != a) (a :: V) := by
  refine ⟨List.nodup_cons.2 ⟨fun e => ?_, h.1⟩, fun x => ?_⟩
  · have := ((h.2 a).1 e).2
    rw [ha] at this; simp at this
  · rw [List.mem_cons, h.2 x]
    constructor
    · rintro (rfl | ⟨h1, h2⟩)
      · exact ⟨hs, by simp⟩
      · exact ⟨h1, by show (lf x && x != a) = false; rw [h2]; rfl⟩
    · rintro ⟨h1, h2⟩
      by_cases e : x = a
      · exact .inl e
      · refine .inr ⟨h1, ?_⟩
        simpa [e] using h2
theorem Vis.snoc {lf : Int → Bool} {V : List Int} {a : Int} (h : Vis s lf V) (ha : lf a = true) (hs : s a = true) : Vis s (fun x => lf x && x != a) (V ++ [a]) := by
  have h2 := h.step ha hs
  have e : (V ++ [a]).Perm (a :: V) := List.perm_append_comm (l₁ := V) (l₂ := [a])
  exact ⟨e.nodup_iff.2 h2.1, fun x => e.mem_iff.trans (h2.2 x)⟩
theorem Vis.done {lf : Int → Bool} {V c : List Int} (h : Vis s lf V) (hl : ∀ a, lf a = false) (hc : ∀ x, s x = true ↔ x ∈ c) (hd : c.Nodup) : V.Perm c :=
  (List.perm_ext_iff_of_nodup h.1 hd).2 fun x => by rw [h.2 x, hl x, ← hc x]; simp

theorem top_ok (h : Stu W0 w ns p n c tr b1 b2) (M : MS Try.prog ty_int ty_bool w b2 nb s) {k : List Int} (hs : ∀ x, s x = true ↔ x ∈ k) (hd : k.Nodup) (hb : ∀ x ∈ k, Br1 tr x) :
    Calls Try.prog learn_study_top.id #[.pointer (some ⟨ns, 0, none⟩)] w fun e w' => ∃ L N P : Int, e = .returned (.tuple #[.int .i64 L, .int .i64 N, .int .i64 P]) ∧ TopR tr k L N P ∧ Grow w w' := by
  refine learn_study_top.calls ?_
  obtain ⟨w3, cnt, hr, R, g3⟩ := M.range mapB_in
  have hr0 := R.lt
  refine ⟨_, rfl, _, cell_add h.h rfl, w3, _, hr, ?_⟩
  refine ⟨fun L N P u z => ∃ (V : List Int) (lf : Int → Bool), Vis s lf V ∧ TopR tr V L N P ∧ (∀ x, lf x = true → s x = true) ∧ MR Try.prog ty_int ty_bool u b2 w.heap.size nb s lf z ∧ Grow w u, ⟨_, [], s, Vis.nil, .inl ⟨rfl, rfl, rfl, rfl⟩, fun x => id, R, g3⟩, ?_⟩
  rintro L N P w11 z _ ⟨V, lf, v, T, hlf, R11, G⟩
  rcases R11.next mapB_in 0 with ⟨h0, hl, hrun⟩ | ⟨a, va, w13, z', ha, haw, hrun, hent, R13, hz, m13⟩
  · exact .inl ⟨w11, hrun, _, _, _, rfl, T.perm (v.done hl hs hd), G⟩
  refine .inr ⟨w13, _, _, hrun, w13, _, _, hent, ?_⟩
  have G13 : Grow w w13 := Mod.fresh G m13 (Nat.le_refl _)
  have hsa := hlf a ha
  have hB := hb a ((hs a).1 hsa)
  have hbd := litB_bd hB.isl
  have v' := v.step ha hsa
  have hlf' : ∀ x, (lf x && x != a) = true → s x = true := fun x e => hlf x (by simp at e; exact e.1)
  have T' := T.step (a := a)
  refine (level_ok (h.grow G13) hB).mono ?_
  rintro e w19 ⟨rfl, g19⟩
  have R19 := R13.grow g19
  have S19 := (h.grow (G13.trans g19)).grow (Mod.refl w19).drew
  have g0 : Grow w19.drew w19.drew := Mod.refl _
  have G19 : Grow w w19.drew := (G13.trans g19).trans (Mod.refl w19).drew
  have mp : ∀ {u : World}, Grow w19.drew u → u.cell? ((Addr.mk ns 0 none).add 1) = some (.map (some b1)) := fun g => cell_add (S19.h.grow g) rfl
  have am1 : ∀ {Q : Ending → World → Prop}, (∀ u, Grow w19.drew u → Q (.returned (.int .i64 (am a))) u) → Calls Try.prog learn_amount.id #[.int .i64 a] w19.drew Q := fun hQ => by
    refine (amount12_ok (by omega) (by omega) w19.drew).mono ?_
    rintro e u ⟨rfl, g⟩
    exact hQ u g
  have look : ∀ {u : World}, Grow w19.drew u → (Instr.lookup ty_map_int_int (.map (some b1)) (.int .i64 (am a)) false).run Try.prog u = .ok (.int .i64 (atM tr (am a))) u := fun g => (S19.M.grow g).look mapI_at (wf_am hB.isl)
  have R20 : ∀ {u : World}, Grow w19.drew u → MR Try.prog ty_int ty_bool u b2 w.heap.size nb s (fun x => lf x && x != a) z' := fun g => R19.drew.grow g
  have hw := atM_wrap h.hl hB.lt
  have N0 : 0 ≤ N ∧ N ≤ 1000000 := by
    have hNl : N ≤ V.length := by
      rcases T with ⟨rfl, _, e, _⟩ | ⟨_, e, _⟩
      · rw [e]; simp
      · rw [e]
        have : cntL tr V L ≤ V.length := List.countP_le_length
        omega
    have hVl : V.length ≤ tr.length := by
      have inj : (V.map fun x => atN tr (am x)).Nodup := by
        refine List.pairwise_map.2 (List.Pairwise.imp_of_mem (fun {x y} hx hy hne e => ?_) v.1)
        exact hne ((hb x ((hs x).1 ((v.2 x).1 hx).1)).same (hb y ((hs y).1 ((v.2 y).1 hy).1)) e)
      have := List.Nodup.length_le_of_subset inj (l₂ := List.range tr.length) fun y hy => by
        obtain ⟨x, hx, rfl⟩ := List.mem_map.1 hy
        exact List.mem_range.2 (hb x ((hs x).1 ((v.2 x).1 hx).1)).lt
      simpa using this
    have := h.hl
    refine ⟨?_, by omega⟩
    rcases T with ⟨_, _, e, _⟩ | ⟨_, _, e, _⟩ <;> omega
  refine ⟨_, rfl, cnd_i (fun r => ?_) (fun r => cnd_i (fun r2 => ?_) (fun r2 => cnd_i (fun r3 => ?_) (fun r3 => ?_)))⟩
  · have r : N = 0 := by simpa using r
    have T1 := T'.1 (.inl r)
    rw [← hw] at T1
    exact ⟨_, rfl, ⟨_, mp g0, am1 fun u g => ⟨_, rfl, u, _, look g, z', hz, _, _, v', T1, hlf', R20 g, G19.trans g⟩⟩, am1 fun u g => ⟨_, rfl, _, mp g, u, _, look g, z', hz, _, _, v', T1, hlf', R20 g, G19.trans g⟩⟩
  · have r2 : L < lv tr a := by simpa using r2
    have T1 := T'.1 (.inr r2)
    rw [← hw] at T1
    exact ⟨_, rfl, ⟨_, mp g0, am1 fun u g => ⟨_, rfl, u, _, look g, z', hz, _, _, v', T1, hlf', R20 g, G19.trans g⟩⟩, am1 fun u g => ⟨_, rfl, _, mp g, u, _, look g, z', hz, _, _, v', T1, hlf', R20 g, G19.trans g⟩⟩
  · have r : N ≠ 0 := by simpa using r
    have r3 : lv tr a = L := by simpa using r3
    have T1 := T'.2.1 r r3
    rw [← hw, ← wrap64_of (x := N + 1) (by omega) (by omega)] at T1
    exact ⟨_, rfl, ⟨_, mp g0, am1 fun u g => ⟨_, rfl, u, _, look g, z', hz, _, _, v', T1, hlf', R20 g, G19.trans g⟩⟩, am1 fun u g => ⟨_, rfl, _, mp g, u, _, look g, z', hz, _, _, v', T1, hlf', R20 g, G19.trans g⟩⟩
  · have r : N ≠ 0 := by simpa using r
    have r2 : ¬ L < lv tr a := by simpa using r2
    have r3 : lv tr a ≠ L := by simpa using r3
    exact ⟨z', hz, _, _, v', T'.2.2 r (by omega), hlf', R19, G13.trans g19⟩
end Go.Proofs.Ytlpmapeojecenaa.W
