/- Layer 12: what is idle. -/
import Derived.Test.YtlpmapeojecenaaLearn7
import Derived.Test.YtlpmapeojecenaaFwMaps
namespace Go.Proofs.Ytlpmapeojecenaa.W
open Go Go.Fw Go.RowKit Go.SoP Go.LiP Go.LeP
variable {W0 w w' W u : World} {p q : Option Addr} {n c m d ns b1 b2 b3 nb : Nat} {tr : List As} {l ld : List Int} {s h : Int → Bool}

/-- What keeps a literal idle by one of its reason. -/
def idP (tr : List As) (ld : List Int) (lit x : Int) : Bool := x == lit || decide (lv tr x ≤ 0) || decide (x ∈ ld) || idle tr ld x
theorem idle_eqP (ok : TrOk tr) {x : Int} (hx : atN tr (am x) < tr.length) : idle tr ld x = (!(nth tr (atN tr (am x))).rs.isEmpty && (nth tr (atN tr (am x))).rs.all (idP tr ld (nth tr (atN tr (am x))).lit)) := idle_eq ok hx

theorem refIdle_ok (ok : TrOk tr) (hl : tr.length ≤ 4096) (hn : n = tr.length) (hk : m = ld.length) (hx : m ≤ maxLen) : ∀ (n0 : Nat) {w : World} {x : Int}, TV w p tr → Vw (Value.int .i64) w q ld → Br1 tr x → atN tr (am x) = n0 →
    Calls Try.prog fathomref12_Idle.id #[.slice p n c, .slice q m d, .int .i64 x] w fun e w' => e = .returned (.bool (idle tr ld x)) ∧ Grow w w' := by
  intro n0
  induction n0 using Nat.strongRecOn with
  | _ n0 ih =>
  intro w x h hq hB hn0
  subst hn0
  have hbx := litB_bd hB.isl
  refine fathomref12_Idle.calls ?_
  refine (refVar_ok (l := x) (by omega) w (by omega)).mono ?_
  rintro e w1 ⟨rfl, g1⟩
  refine ⟨_, rfl, (At_ok (h.grow g1) hn (by unfold maxLen; omega) ok.isl _).mono ?_⟩
  rintro e w3 ⟨rfl, g3⟩
  rw [amt_am, if_pos hB.lt]
  have G3 := g1.trans g3
  refine ⟨_, rfl, (h.grow G3).ix hn _ rfl hB.lt fun a sl C e1 e2 v => ⟨_, _, _, _, _, C, fun n9 w10 h10 => asCopy h10 fun w11 H G11 => ?_⟩⟩
  have hid := idle_eqP (ld := ld) ok hB.lt
  have hrea := fun hr => ok.reason hB.lt hr
  generalize hrs : (nth tr (atN tr (am x))).rs = rs at *
  generalize hlt : (nth tr (atN tr (am x))).lit = x0 at *
  have G0 := G3.trans G11
  refine ⟨fun I u z => ∃ t : Nat, I = t ∧ t ≤ rs.length ∧ z = rs.length - t ∧ (rs.take t).all (idP tr ld x0) = true ∧ Grow w11 u, ⟨_, 0, rfl, Nat.zero_le _, rfl, rfl, Mod.refl w11⟩, ?_⟩
  rintro I w16 z _ ⟨t, rfl, ht, rfl, ha, G⟩
  have H16 := H.grow G
  refine ⟨_, _, _, cell_add H16 rfl, cnd_i (fun r => ?_) (fun r => ?_)⟩
  · have r : t < rs.length := by simp at r; omega
    obtain ⟨rl, rm, rb⟩ := hrea (fun e => by rw [e] at r; simp at r)
    refine ⟨_, _, _, cell_add H16 rfl, (v.grow (G11.trans G)).ix 0 (by omega) e1 (by omega) fun a e => ⟨_, e, _, cell_add H16 rfl, ?_⟩⟩
    rw [Int.toNat_natCast]
    have nxt : ∀ {u : World}, Grow w16 u → idP tr ld x0 (rs.getD t 0) = true → ∃ k14, k14 < rs.length - t ∧ ∃ t2 : Nat, IntKind.i64.wrap ((t : Int) + 1) = t2 ∧ t2 ≤ rs.length ∧ k14 = rs.length - t2 ∧ (rs.take t2).all (idP tr ld x0) = true ∧ Grow w11 u := fun g hp =>
      ⟨_, by omega, t + 1, wN (by omega) (by omega), by omega, rfl, allTakeS (d := 0) r ha hp, G.trans g⟩
    refine cnd_i (fun r2 => ?_) (fun r2 => nxt (Mod.refl _) (by unfold idP; rw [show (rs.getD t 0 == x0) = true by simpa using r2]; rfl))
    have r2 : rs.getD t 0 ≠ x0 := by simpa using r2
    obtain ⟨hBy, hlty⟩ := rb _ (mem_getD r) r2
    have gw := G0.trans G
    refine (Level12_ok (h.grow gw) hn (by unfold maxLen; omega) ok hBy).mono ?_
    rintro e w22 ⟨rfl, g22⟩
    refine ⟨_, rfl, cnd_i (fun r3 => ?_) (fun r3 => nxt g22 (by unfold idP; rw [decide_eq_true (show lv tr (rs.getD t 0) ≤ 0 by simpa using r3)]; simp))⟩
    refine (has_ok ((hq.grow gw).grow g22) hk hx _).mono ?_
    rintro e w24 ⟨rfl, g24⟩
    refine ⟨_, rfl, cnd_i (fun r4 => ?_) (fun r4 => nxt (g22.trans g24) (by unfold idP; rw [decide_eq_true (show rs.getD t 0 ∈ ld by simpa using r4)]; simp))⟩
    refine (ih _ hlty (((h.grow gw).grow g22).grow g24) (((hq.grow gw).grow g22).grow g24) hBy rfl).mono ?_
    rintro e w26 ⟨rfl, g26⟩
    have g2 := (g22.trans g24).trans g26
    refine ⟨_, rfl, cnd_i (fun r5 => ⟨?_, gw.trans g2⟩) (fun r5 => nxt g2 (by unfold idP; rw [show idle tr ld (rs.getD t 0) = true by simpa using r5]; simp))⟩
    have : rs.all (idP tr ld x0) = false := allFalse (d := 0) r (by
      unfold idP
      rw [show (rs.getD t 0 == x0) = false by simpa using r2, decide_eq_false (show ¬ lv tr (rs.getD t 0) ≤ 0 by simpa using r3), decide_eq_false (show rs.getD t 0 ∉ ld by simpa using r4), show idle tr ld (rs.getD t 0) = false by simpa using r5]; rfl)
    rw [hid, this, Bool.and_false]
  · have r : t = rs.length := by simp at r; omega
    subst r
    rw [List.take_length] at ha
    refine ⟨_, _, _, cell_add H16 rfl, ?_, G0.trans G⟩
    rw [hid, ha, e1, Bool.and_true]
    cases rs <;> simp

/-- How many are known. -/
def cntK (tr : List As) (h : Int → Bool) : Nat := (List.range tr.length).countP fun i => h (am (nth tr i).lit)
theorem countP_step {L : List Nat} {f g : Nat → Bool} {i : Nat} (hi : i ∈ L) (h0 : f i = false) (h1 : g i = true) (hm : ∀ j, f j = true → g j = true) : L.countP f + 1 ≤ L.countP g := by
  induction L with
  | nil => simp at hi
  | cons a L ih =>
    rw [List.countP_cons, List.countP_cons]
    have hle : L.countP f ≤ L.countP g := List.countP_mono_left fun j _ => hm j
    by_cases e : i = a
    · subst e
      rw [h0, h1]
      simp; omega
    · have := ih ((List.mem_cons.1 hi).resolve_left e)
      have h3 : (if f a = true then 1 else 0) ≤ (if g a = true then 1 else 0) := by
        by_cases e2 : f a = true
        · rw [if_pos e2, if_pos (hm a e2)]; exact Nat.le_refl _
        · rw [if_neg e2]; omega
      omega

/-- What is studied, and what is known. -/
structure Kn (W0 w : World) (ns : Nat) (p : Option Addr) (n c : Nat) (tr : List As) (b1 b2 b3 : Nat) (ld : List Int) (h : Int → Bool) : Prop where
  S : Stu W0 w ns p n c tr b1 b2
  M : ∃ nb s, MS Try.prog ty_int ty_bool w b2 nb s ∧ ∀ x, s x = decide (x ∈ ld)
  K : ∃ nk s, MK Try.prog ty_int ty_bool w b3 nk s h ∧ nk ≤ cntK tr h ∧ ∀ x, Br1 tr x → h (am x) = true → s (am x) = idle tr ld x
  d1 : b1 ≠ b3
  d2 : b2 ≠ b3
  d3 : ns ≠ b3
  f : W0.heap.size ≤ b3
theorem Kn.grow (k : Kn W0 w ns p n c tr b1 b2 b3 ld h) (m : Grow w w') : Kn W0 w' ns p n c tr b1 b2 b3 ld h := by
  obtain ⟨S, ⟨nb, s, M, hs⟩, ⟨nk, s2, K, hk, hi⟩, d1, d2, d3, f⟩ := k
  exact ⟨S.grow m, ⟨nb, s, M.grow m, hs⟩, ⟨nk, s2, K.grow m, hk, hi⟩, d1, d2, d3, f⟩
theorem Kn.put (k : Kn W0 w ns p n c tr b1 b2 b3 ld h) {x : Int} (hB : Br1 tr x) (h0 : h (am x) = false) :
    ∃ w', (Instr.mapUpdate ty_map_int_bool (.map (some b3)) (.int .i64 (am x)) (.bool (idle tr ld x))).run Try.prog w = .ok () w' ∧ Kn W0 w' ns p n c tr b1 b2 b3 ld (fun u => if u = am x then true else h u) ∧ Mod (· = b3) w w' := by
  obtain ⟨S, ⟨nb, s, M, hs⟩, ⟨nk, s2, K, hk, hi⟩, d1, d2, d3, f⟩ := k
  have hle : cntK tr h ≤ tr.length := by
    have : cntK tr h ≤ (List.range tr.length).length := List.countP_le_length
    simpa using this
  have hl := S.hl
  obtain ⟨w', hr, K', m'⟩ := K.put mapB_in (by unfold maxLen; omega) (wf_am hB.isl) (idle tr ld x)
  refine ⟨w', hr, ⟨S.keep m' (fun b (e : b = b3) => by omega) (fun e => d3 e) (fun e => d1 e), ⟨nb, s, M.keep m' (fun e => d2 e), hs⟩, ⟨nk + 1, _, K', ?_, fun y hy hh => ?_⟩, d1, d2, d3, f⟩, m'⟩
  · have e0 : am (nth tr (atN tr (am x))).lit = am x := atN_hit hB.lt
    have := countP_step (L := List.range tr.length) (f := fun i => h (am (nth tr i).lit)) (g := fun i => if am (nth tr i).lit = am x then true else h (am (nth tr i).lit)) (i := atN tr (am x)) (List.mem_range.2 hB.lt) (by show h (am (nth tr (atN tr (am x))).lit) = false; rw [e0]; exact h0) (by rw [if_pos e0]) fun j hj => by
      show (if am (nth tr j).lit = am x then true else h (am (nth tr j).lit)) = true
      split
      · rfl
      · exact hj
    have e1 : cntK tr h = (List.range tr.length).countP fun i => h (am (nth tr i).lit) := rfl
    have e2 : cntK tr (fun u => if u = am x then true else h u) = (List.range tr.length).countP fun i => if am (nth tr i).lit = am x then true else h (am (nth tr i).lit) := rfl
    omega
  · by_cases e : am y = am x
    · rw [if_pos e, hy.am hB e]
    · rw [if_neg e] at hh ⊢
      exact hi y hy hh

/-- A world that grew, with a copy's fresh place. -/
structure Zs (W u : World) (o : Option Nat) : Prop where
  g : Grow W u
  z : ∀ nc, o = some nc → Has u nc #[.int .i64 0, .int .i64 0, .slice none 0 0] ∧ W.heap.size ≤ nc
theorem Zs.grow {o : Option Nat} (z : Zs W u o) {v : World} (g : Grow u v) : Zs W v o := ⟨z.g.trans g, fun nc e => ⟨(z.z nc e).1.grow g, (z.z nc e).2⟩⟩
theorem Zs.new (z : Zs W u none) {nc : Nat} {v : World} (hn : New (.cells #[.int .i64 0, .int .i64 0, .slice none 0 0] 73) u nc v) : Zs W v (some nc) := by
  refine ⟨z.g.trans hn.mod, fun k e => ?_⟩
  obtain rfl : nc = k := Option.some.inj e
  have := z.g.size
  have := hn.num
  exact ⟨hn.has, by omega⟩
theorem Zs.store {nc : Nat} (z : Zs W u (some nc)) {a b : Int} {sp : Option Addr} {sn sc : Nat} {K : World → Prop} (hk : ∀ v, Has v nc #[.int .i64 a, .int .i64 b, .slice sp sn sc] → Grow W v → W.heap.size ≤ nc → K v) :
    ∃ v, StoreAt (Addr.mk nc 0 none) 0 [.int .i64 a, .int .i64 b, .slice sp sn sc] u v ∧ K v := by
  obtain ⟨H, hf⟩ := z.z nc rfl
  exact store_i H rfl rfl fun v H' m => hk v H' (Mod.fresh z.g m hf) hf

theorem idleP_ok : ∀ (n0 : Nat) {w : World} {x : Int} {h : Int → Bool}, Kn W0 w ns p n c tr b1 b2 b3 ld h → Br1 tr x → atN tr (am x) = n0 →
    Calls Try.prog learn_study_idle.id #[.pointer (some ⟨ns, 0, none⟩), .int .i64 x, .map (some b3)] w fun e w' => e = .returned (.bool (idle tr ld x)) ∧ ∃ h', Kn W0 w' ns p n c tr b1 b2 b3 ld h' ∧ (∀ v, h v = true → h' v = true) ∧ (∀ v, h' v = true → h v = true ∨ atN tr v ≤ n0) ∧ Mod (· = b3) w w' := by
  intro n0
  induction n0 using Nat.strongRecOn with
  | _ n0 ih =>
  intro w x h k hB hn0
  subst hn0
  refine learn_study_idle.calls ?_
  have hbx := litB_bd hB.isl
  refine (amount12_ok (by omega) (by omega) w).mono ?_
  rintro e w1 ⟨rfl, g1⟩
  have k1 := k.grow g1
  obtain ⟨nk, s, K, hk, hi⟩ := k1.K
  refine ⟨_, rfl, w1, _, _, K.look mapB_in (wf_am hB.isl), cnd_i (fun r => ?_) (fun rK => ?_)⟩
  · refine ⟨?_, h, k1, fun v hv => hv, fun v hv => .inl hv, g1.mono fun _ _ e => e.elim⟩
    rw [hi x hB r]
  have k2 := k1.grow (Mod.refl w1).drew
  have G2 : Grow w w1.drew := g1.trans (Mod.refl w1).drew
  clear K hk hi k1
  generalize w1.drew = W at k2 G2
  have hl := k2.S.hl
  have ok := k2.S.ok
  have Z0 : Zs W W none := ⟨Mod.refl _, fun nc e => by simp at e⟩
  have sl : ∀ {u : World} {o : Option Nat}, Zs W u o → u.cell? ((Addr.mk ns 0 none).add 0) = some (.slice p n c) := fun z => cell_add (k2.S.h.grow z.g) rfl
  have mp : ∀ {u : World} {o : Option Nat}, Zs W u o → u.cell? ((Addr.mk ns 0 none).add 1) = some (.map (some b1)) := fun z => cell_add (k2.S.h.grow z.g) rfl
  have am1 : ∀ {u : World} {o : Option Nat} {Q : Ending → World → Prop}, Zs W u o → (∀ v, Zs W v o → Q (.returned (.int .i64 (am x))) v) → Calls Try.prog learn_amount.id #[.int .i64 x] u Q := fun {u o Q} z hQ => by
    refine (amount12_ok (by omega) (by omega) u).mono ?_
    rintro e v ⟨rfl, g⟩
    exact hQ v (z.grow g)
  have look : ∀ {u : World} {o : Option Nat}, Zs W u o → (Instr.lookup ty_map_int_int (.map (some b1)) (.int .i64 (am x)) false).run Try.prog u = .ok (.int .i64 (atM tr (am x))) u := fun z => (k2.S.M.grow z.g).look mapI_at (wf_am hB.isl)
  obtain ⟨aT, sT, eT, cT, e1, e2, vT⟩ := k2.S.tv _ hB.lt
  have hid := idle_eqP (ld := ld) ok hB.lt
  have hrea := fun hr => ok.reason hB.lt hr
  have ix : ∀ {P : Addr → Prop}, (∀ a, (∀ {u : World} {o : Option Nat}, Zs W u o → CellsAt u a 0 [.int .i64 (nth tr (atN tr (am x))).lit, .int .i64 (nth tr (atN tr (am x))).lev, .slice sT.p sT.n sT.c]) → P a) → ixK p n (IntKind.i64.wrap (atM tr (am x) - 1)) 3 P := fun hP => by
    rw [atM_wrap hl hB.lt]
    have hn := k2.S.hn
    have hlt := hB.lt
    refine ⟨aT, eT, by omega, by omega, hP _ fun z => ?_⟩
    rw [Int.toNat_natCast]
    exact CellsAt.keep (k2.S.G.trans z.g) id cT
  generalize hrs : (nth tr (atN tr (am x))).rs = rs at *
  generalize hlt : (nth tr (atN tr (am x))).lit = x0 at *
  generalize hlev : (nth tr (atN tr (am x))).lev = y0 at *
  have fin : ∀ {v : World} {nc : Nat}, Has v nc #[.int .i64 x0, .int .i64 y0, .slice sT.p sT.n sT.c] → Grow W v → W.heap.size ≤ nc →
    ∃ x21_p : Option Addr, ∃ x21_n : Nat, ∃ x21_c : Nat, v.cell? ((Addr.mk nc 0 none).add 2) = some (.slice x21_p x21_n x21_c) ∧ 
    ∃ x22_p : Option Addr, ∃ x22_n : Nat, ∃ x22_c : Nat, v.cell? ((Addr.mk nc 0 none).add 2) = some (.slice x22_p x22_n x22_c) ∧ 
    ∃ I23 : Bool → Int → World → Nat → Prop, (∃ k24, I23 (decide ((x21_n : Int) > (0 : Int))) 0 v k24) ∧
    ∀ (is_26 : Bool) (v27 : Int) (w28 : World) (k24 : Nat) (_ : Fr), I23 is_26 v27 w28 k24 →
    cnd (decide (v27 < (x22_n : Int)))
      (ixK x22_p x22_n v27 1 fun a29 =>
        ∃ x30 : Int, w28.cell? a29 = some (.int .i64 x30) ∧ 
        cnd is_26
        (∃ x31 : Int, w28.cell? ((Addr.mk nc 0 none).add 0) = some (.int .i64 x31) ∧ 
        cnd (x30 != x31)
        (Calls Try.prog learn_study_level.id #[.pointer (some ⟨ns, 0, none⟩), .int .i64 x30] w28 fun e w32 => ∃ r33 : Int, e = .returned (.int .i64 r33) ∧ 
          cnd (r33 == (0 : Int))
          (∃ k25, k25 < k24 ∧ I23 true (IntKind.i64.wrap (v27 + (1 : Int))) w32 k25)
          (∃ a34 : Addr, (some (Addr.mk ns 0 none)) = some a34 ∧ ∃ x35 : Option Nat, w32.cell? (a34.add 2) = some (.map x35) ∧ 
          ∃ w36 : World, ∃ r37 : Bool, (Instr.lookup ty_map_int_bool (.map x35) (.int .i64 x30) false).run Try.prog w32 = .ok (.bool r37) w36 ∧ 
          cnd r37
          (∃ k25, k25 < k24 ∧ I23 true (IntKind.i64.wrap (v27 + (1 : Int))) w36 k25)
          (Calls Try.prog learn_study_idle.id #[.pointer (some ⟨ns, 0, none⟩), .int .i64 x30, .map (some b3)] w36 fun e w38 => ∃ r39 : Bool, e = .returned (.bool r39) ∧ 
          ∃ k25, k25 < k24 ∧ I23 r39 (IntKind.i64.wrap (v27 + (1 : Int))) w38 k25)))
        (∃ k25, k25 < k24 ∧ I23 is_26 (IntKind.i64.wrap (v27 + (1 : Int))) w28 k25))
        (∃ k25, k25 < k24 ∧ I23 is_26 (IntKind.i64.wrap (v27 + (1 : Int))) w28 k25))
      (Calls Try.prog learn_amount.id #[.int .i64 x] w28 fun e w40 => ∃ r41 : Int, e = .returned (.int .i64 r41) ∧ 
        ∃ w42 : World, (Instr.mapUpdate ty_map_int_bool (.map (some b3)) (.int .i64 r41) (.bool is_26)).run Try.prog w40 = .ok () w42 ∧ 
        (Ending.returned (.bool is_26) = .returned (.bool (idle tr ld x)) ∧ ∃ h', Kn W0 w42 ns p n c tr b1 b2 b3 ld h' ∧ (∀ v, h v = true → h' v = true) ∧ (∀ v, h' v = true → h v = true ∨ atN tr v ≤ atN tr (am x)) ∧ Mod (· = b3) w w42)) := by
    intro v nc H G hf
    obtain ⟨nk, s, K, _, _⟩ := k2.K
    have lk := K.lt
    refine ⟨_, _, _, cell_add H rfl, _, _, _, cell_add H rfl, ?_⟩
    refine ⟨fun is I u z => ∃ (t : Nat) (h1 : Int → Bool), I = t ∧ t ≤ rs.length ∧ z = rs.length - t ∧ is = (!rs.isEmpty && (rs.take t).all (idP tr ld x0)) ∧ Kn W0 u ns p n c tr b1 b2 b3 ld h1 ∧ (∀ v, h v = true → h1 v = true) ∧ (∀ v, h1 v = true → h v = true ∨ atN tr v < atN tr (am x)) ∧ Has u nc #[.int .i64 x0, .int .i64 y0, .slice sT.p sT.n sT.c] ∧ Mod (· = b3) w u,
      ⟨_, 0, h, rfl, Nat.zero_le _, rfl, ?_, k2.grow G, fun v hv => hv, fun v hv => .inl hv, H, (G2.trans G).mono fun _ _ e => e.elim⟩, ?_⟩
    · rw [e1]; cases rs <;> simp
    clear H G K
    rintro is I w28 z _ ⟨t, h1, rfl, ht, rfl, rfl, k1, hm1, hm2, H, mm⟩
    refine cnd_i (fun r => ?_) (fun r => ?_)
    · have r : t < rs.length := by simp at r; omega
      have hne : rs ≠ [] := fun e => by rw [e] at r; simp at r
      obtain ⟨rl, rm, rb⟩ := hrea hne
      have hie : rs.isEmpty = false := List.isEmpty_eq_false_iff.2 hne
      rw [hie]
      have et : (rs.take (t + 1)).all (idP tr ld x0) = ((rs.take t).all (idP tr ld x0) && idP tr ld x0 (rs.getD t 0)) := by
        have : rs[t]? = some (rs.getD t 0) := by simp [List.getD, r]
        rw [List.take_add_one, this, List.all_append]; simp
      refine (vT.grow k1.S.G).ix 0 (by omega) e1 (by omega) fun a e => ⟨_, e, ?_⟩
      rw [Int.toNat_natCast]
      refine cnd_i (fun r2 => ⟨_, cell_add H rfl, ?_⟩) (fun r2 => ⟨_, ?_, t + 1, h1, wN (by omega) (by omega), by omega, rfl, ?_, k1, hm1, hm2, H, mm⟩)
      · have r2 : (rs.take t).all (idP tr ld x0) = true := by simpa using r2
        rw [r2] at et ⊢
        have nxt : ∀ {u : World}, Grow w28 u → idP tr ld x0 (rs.getD t 0) = true → ∃ k25, k25 < rs.length - t ∧ ∃ (t2 : Nat) (h1 : Int → Bool), IntKind.i64.wrap ((t : Int) + 1) = t2 ∧ t2 ≤ rs.length ∧ k25 = rs.length - t2 ∧ true = (!false && (rs.take t2).all (idP tr ld x0)) ∧ Kn W0 u ns p n c tr b1 b2 b3 ld h1 ∧ (∀ v, h v = true → h1 v = true) ∧ (∀ v, h1 v = true → h v = true ∨ atN tr v < atN tr (am x)) ∧ Has u nc #[.int .i64 x0, .int .i64 y0, .slice sT.p sT.n sT.c] ∧ Mod (· = b3) w u := fun g hp =>
          ⟨_, by omega, t + 1, h1, wN (by omega) (by omega), by omega, rfl, by rw [et, hp]; rfl, k1.grow g, hm1, hm2, H.grow g, mm.grow g⟩
        refine cnd_i (fun r3 => ?_) (fun r3 => nxt (Mod.refl _) (by unfold idP; rw [show (rs.getD t 0 == x0) = true by simpa using r3]; rfl))
        have r3 : rs.getD t 0 ≠ x0 := by simpa using r3
        obtain ⟨hBy, hlty⟩ := rb _ (mem_getD r) r3
        have hlv := lv_bd ok hl hBy
        refine (level_ok k1.S hBy).mono ?_
        rintro e w32 ⟨rfl, g32⟩
        refine ⟨_, rfl, cnd_i (fun r4 => nxt g32 (by unfold idP; rw [decide_eq_true (show lv tr (rs.getD t 0) ≤ 0 by have := beq_iff_eq.1 r4; omega)]; simp)) (fun r4 => ?_)⟩
        have k32 := k1.grow g32
        obtain ⟨nb, s2, M2, hs2⟩ := k32.M
        have hlk := M2.look mapB_in (wf_lit hBy.isl)
        rw [hs2] at hlk
        refine ⟨_, rfl, _, cell_add k32.S.h rfl, w32, _, hlk, cnd_i (fun r5 => nxt g32 (by unfold idP; rw [r5]; simp)) (fun r5 => ?_)⟩
        refine (ih _ hlty k32 hBy rfl).mono ?_
        rintro e w38 ⟨rfl, h2, k38, hn1, hn2, m38⟩
        have hsz := G2.size
        refine ⟨_, rfl, _, ?_, t + 1, h2, wN (by omega) (by omega), by omega, rfl, ?_, k38, fun v hv => hn1 v (hm1 v hv), fun v hv => ?_, (H.grow g32).keep m38 fun (e : nc = b3) => by omega, (mm.grow g32).trans m38⟩
        · omega
        · rw [et]
          unfold idP
          rw [show (rs.getD t 0 == x0) = false by simpa using r3, decide_eq_false (show ¬ lv tr (rs.getD t 0) ≤ 0 by have := beq_eq_false_iff_ne.1 r4; omega), r5]; simp
        · rcases hn2 v hv with e | e
          · exact hm2 v e
          · exact .inr (by omega)
      · omega
      · have r2 : (rs.take t).all (idP tr ld x0) = false := by simpa using r2
        rw [et, r2]; rfl
    · have r : t = rs.length := by simp at r; omega
      subst r
      rw [List.take_length, ← hid]
      refine (amount12_ok (by omega) (by omega) w28).mono ?_
      rintro e w40 ⟨rfl, g40⟩
      have h0 : h1 (am x) = false := by
        cases e : h1 (am x) with
        | false => rfl
        | true =>
          rcases hm2 _ e with e | e
          · rw [rK] at e; simp at e
          · omega
      obtain ⟨w42, hr, k42, m42⟩ := (k1.grow g40).put hB h0
      refine ⟨_, rfl, w42, hr, rfl, _, k42, fun v hv => ?_, fun v hv => ?_, (mm.grow g40).trans m42⟩
      · show (if v = am x then true else h1 v) = true
        split
        · rfl
        · exact hm1 v hv
      · by_cases e : v = am x
        · right; rw [e]; exact Nat.le_refl _
        · have hv : (if v = am x then true else h1 v) = true := hv
          rw [if_neg e] at hv
          rcases hm2 v hv with e | e
          · exact .inl e
          · right; omega
  refine ⟨_, rfl, _, rfl, ?_⟩
  repeat' first
    | exact fin (by assumption) (by assumption) (by assumption)
    | with_reducible refine ⟨_, _, _, sl (by assumption), ?_⟩
    | with_reducible refine ⟨_, mp (by assumption), ?_⟩
    | with_reducible refine am1 (by assumption) fun v z => ⟨_, rfl, ?_⟩
    | with_reducible refine ⟨_, _, look (by assumption), ?_⟩
    | with_reducible refine ix fun a ca => ?_
    | with_reducible refine ⟨_, _, _, _, _, ca (by assumption), ?_⟩
    | with_reducible refine Zs.store (by assumption) fun v H g hf => ?_
    | with_reducible refine fun nc v hn => (fun (z : Zs W v (some nc)) => ?_) (Zs.new (by assumption) hn)
    | with_reducible refine ⟨?_, ?_⟩
end Go.Proofs.Ytlpmapeojecenaa.W
