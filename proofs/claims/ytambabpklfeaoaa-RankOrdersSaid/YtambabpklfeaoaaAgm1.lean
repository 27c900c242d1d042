/- Layer 15: graphs in memory, with what their nodes are told by, and "and". -/
import Derived.Test.YtambabpklfeaoaaRank16
import Derived.Test.YtambabpklfeaoaaTs0
import Derived.Test.YtambabpklfeaoaaPureA
import Derived.Test.YtambabpklfeaoaaFwMaps
namespace Go.Proofs.Ytambabpklfeaoaa.W
open Go Go.Fw Go.RowKit Go.TsP Go.AgP
variable {w w' w2 : World} {b : Nat} {x y z : AG}

theorem gate_map : mapG Try.prog ty_map_api_Gate_int ty_api_Gate ty_int = true := by kernel_rfl
theorem gate_law : Maps.Keyed Try.prog ty_api_Gate := Maps.Keyed.of_law (deep_law_laid (by kernel_rfl) (m := 2) (by omega) (of_decide_eq_true (by kernel_rfl)) (by kernel_rfl) (by kernel_rfl))
theorem flip_eq (l : Int) : flip l = flipL l := rfl

/-- A graph's blocks, with its map's. -/
def AG.fm (x : AG) (b : Nat) (k : Nat) : Prop := x.foot b k ∨ k = x.bm
structure AM (w : World) (b : Nat) (x : AG) : Prop where
  a : ARep w b x
  may : mayG x.g = true
  d1 : x.bm ≠ b
  d2 : blk x.pg ≠ some x.bm
  M : ∃ nb s, MG Try.prog ty_api_Gate ty_int w x.bm nb s ∧ nb ≤ x.g.length ∧ ∀ p v, s p = some v → ∃ i, i < x.g.length ∧ v = 2 * ((i + 1 : Nat) : Int) ∧ x.g.getD i (0, 0) = p ∧ 0 ≤ p.1
theorem AM.keep {S : Nat → Prop} (h : AM w b x) (m : Mod S w w') (hS : ∀ k, x.fm b k → ¬ S k) : AM w' b x := by
  obtain ⟨a, may, d1, d2, nb, s, M, hn, hs⟩ := h
  exact ⟨a.keep m fun k hk => hS k (.inl hk), may, d1, d2, nb, s, M.keep m (hS _ (.inr rfl)), hn, hs⟩
theorem AM.grow (h : AM w b x) (m : Grow w w') : AM w' b x := h.keep m fun _ _ => id
theorem AM.lt (h : AM w b x) : ∀ k, x.fm b k → k < w.heap.size := by
  rintro k (e | rfl)
  · exact h.a.lt k e
  · obtain ⟨nb, s, M, _⟩ := h.M
    exact M.lt
theorem AM.len (h : AM w b x) : x.g.length ≤ 1048576 := (mayG_iff.1 h.may).1

/-- What was done to a graph. -/
structure Aft (w w' : World) (b : Nat) (x y : AG) : Prop where
  am : AM w' b y
  bm : y.bm = x.bm
  foot : ∀ k, y.fm b k → x.fm b k ∨ w.heap.size ≤ k
  mod : Mod (x.fm b) w w'
theorem Aft.refl (h : AM w b x) (g : Grow w w') : Aft w w' b x x := ⟨h.grow g, rfl, fun _ hk => .inl hk, g.mono fun _ _ e => e.elim⟩
theorem Aft.trans {w3 : World} (h : Aft w w2 b x y) (k : Aft w2 w3 b y z) : Aft w w3 b x z := by
  refine ⟨k.am, k.bm.trans h.bm, fun j hj => ?_, h.mod.then k.mod fun j hj e => ?_⟩
  · rcases k.foot j hj with e | e
    · exact h.foot j e
    · exact .inr (Nat.le_trans h.mod.size e)
  · rcases h.foot j e with e | e
    · exact e
    · omega
theorem Aft.grow {w3 : World} (h : Aft w w2 b x y) (g : Grow w2 w3) : Aft w w3 b x y := h.trans (.refl h.am g)
theorem Aft.pre {w0 : World} (g : Grow w0 w) (h : Aft w w2 b x y) : Aft w0 w2 b x y :=
  ⟨h.am, h.bm, fun k hk => (h.foot k hk).imp id fun e => Nat.le_trans g.size e, (g.mono fun _ _ e => e.elim).trans h.mod⟩

theorem aigNewM_ok (w : World) : Calls Try.prog aig_New.id #[] w fun e w' => ∃ b x, e = .returned (ptr b) ∧ AM w' b x ∧ x.g = [] ∧ (∀ k, x.fm b k → w.heap.size ≤ k) ∧ Grow w w' := by
  refine aig_New.calls ?_
  intro n1 w2 h1 n3 w4 h3
  have s1 := h1.num; have s3 := h3.num; have z1 := h1.size
  have M := (MG.new (P := Try.prog) (k := ty_api_Gate) (e := ty_int) h1).grow h3.mod
  refine ⟨n3, ⟨none, 0, n1, []⟩, rfl, ⟨⟨h3.has, Row.nil _ _ _ _, by simp [blk]⟩, rfl, by simp; omega, by simp [blk], 0, _, M, Nat.le_refl _, fun p v e => by simp at e⟩, rfl, ?_, h1.mod.trans h3.mod⟩
  rintro k ((rfl | hk) | rfl)
  · omega
  · simp [blk] at hk
  · show w.heap.size ≤ _; omega

theorem aigInM_ok (h : AM w b x) (hb : x.g.length < 1048576) : Calls Try.prog aig_Aig_In.id #[ptr b] w fun e w' =>
    e = .returned (.int .i64 (2 * (x.g.length + 1 : Nat))) ∧ ∃ y, Aft w w' b x y ∧ y.g = x.g ++ [(-1, -1)] := by
  refine (aigIn_ok h.a hb).mono ?_
  rintro e w' ⟨rfl, y, hy, my, m⟩
  obtain ⟨a, may, d1, d2, nb, s, M, hn, hs⟩ := h
  have hlt := M.lt
  refine ⟨rfl, y, ⟨⟨hy, by rw [my.g]; exact mayG_add may hb rfl, by rw [my.bm]; exact d1, fun e => ?_, nb, s, ?_, by rw [my.g]; simp; omega, fun p v e => ?_⟩, my.bm, fun k hk => ?_, m.mono fun k _ hk => .inl hk⟩, my.g⟩
  · rw [my.bm] at e
    rcases my.foot _ (.inr e) with (e2 | e2) | e2
    · exact d1 e2
    · exact d2 e2
    · omega
  · rw [my.bm]
    refine M.keep m fun e => ?_
    rcases e with e | e
    · exact d1 e
    · exact d2 e
  · obtain ⟨i, hi, h1, h2, h3⟩ := hs p v e
    refine ⟨i, ?_, h1, ?_, h3⟩
    · rw [my.g]; simp; omega
    · rw [my.g, getD_app1 hi]; exact h2
  · rcases hk with hk | rfl
    · exact (my.foot k hk).imp .inl id
    · exact .inl (.inr my.bm)

/-- A world that grew, with a copy of a gate. -/
structure Zg (W u : World) (nc : Nat) (c d : Int) : Prop where
  g : Grow W u
  h : Has u nc #[.int .i64 c, .int .i64 d]
theorem Zg.grow {W u v : World} {nc : Nat} {c d : Int} (z : Zg W u nc c d) (g : Grow u v) : Zg W v nc c d := ⟨z.g.trans g, z.h.grow g⟩

theorem kids_ok (h : AM w b x) {l : Int} (hl : isL x.g.length l = true) : Calls Try.prog aig_Aig_kids.id #[ptr b, .int .i64 l] w fun e w' => ∃ (c d : Int) (ok : Bool), e = .returned (.tuple #[.int .i64 c, .int .i64 d, .bool ok]) ∧ Grow w w' ∧
    (ok = true → ∃ i, i < x.g.length ∧ l / 2 = ((i + 1 : Nat) : Int) ∧ x.g.getD i (0, 0) = (c, d) ∧ 0 ≤ c ∧ isL i c = true ∧ isL i d = true) := by
  refine aig_Aig_kids.calls ?_
  have hb := isL_bd hl
  have hlen := h.len
  refine cnd_i (fun q => ⟨_, _, _, rfl, Mod.refl w, fun e => by simp at e⟩) (fun q => ?_)
  have q : 2 ≤ l := by simp at q; omega
  obtain ⟨i, hi⟩ : ∃ i : Nat, l / 2 = ((i + 1 : Nat) : Int) := ⟨(l / 2 - 1).toNat, by omega⟩
  have hil : i < x.g.length := by omega
  refine ⟨_, rfl, _, _, _, cell_add h.a.me rfl, by decide, ?_⟩
  rw [Int.tdiv_eq_ediv_of_nonneg (by omega), wrap64_of (x := l / 2) (by omega) (by omega), wrap64_of (by omega) (by omega), show l / 2 - 1 = (i : Int) by omega]
  refine (h.a.hg.vr gateE).ix (0, 0) (by omega) rfl (by omega) fun a C => ?_
  rw [Int.toNat_natCast] at C
  have ok := mayG_at h.may hil
  generalize hg : x.g.getD i (0, 0) = cd at *
  obtain ⟨c, d⟩ := cd
  refine ⟨_, _, C, fun n6 w7 h7 => store_i h7.has rfl rfl fun w8 H m => ?_⟩
  have e7 := h7.num
  have G8 : Grow w w8.drew := (h7.mod.then m fun k hk (e : k = n6) => by omega).drew
  have Z0 : Zg w8.drew w8.drew n6 c d := ⟨Mod.refl _, H.drew⟩
  clear C h7 m
  generalize w8.drew = W at Z0 G8
  have c0 : ∀ {u : World}, Zg W u n6 c d → u.cell? ((Addr.mk n6 0 none).add 0) = some (.int .i64 c) := fun z => cell_add z.h rfl
  have c1 : ∀ {u : World}, Zg W u n6 c d → u.cell? ((Addr.mk n6 0 none).add 1) = some (.int .i64 d) := fun z => cell_add z.h rfl
  have cc : ∀ {u : World}, Zg W u n6 c d → CellsAt u (Addr.mk n6 0 none) 0 [.int .i64 c, .int .i64 d] := fun z => ⟨cell_add z.h rfl, cell_add z.h rfl, trivial⟩
  have inp : ∀ {u : World} {Q : Ending → World → Prop}, Zg W u n6 c d → (∀ v, Zg W v n6 c d → Q (.returned (.agg #[.int .i64 (-1), .int .i64 (-1)])) v) → Calls Try.prog aig_input.id #[] u Q := fun {u Q} z hQ => by
    refine (aigInput_ok u).mono ?_
    rintro e v ⟨rfl, g⟩
    exact hQ v (z.grow g)
  have fin' : ∀ {u : World}, Zg W u n6 c d → ∃ (c' d' : Int) (ok : Bool), Ending.returned (.tuple #[.int .i64 c, .int .i64 d, .bool (!([c, d] == [-1, -1]))]) = .returned (.tuple #[.int .i64 c', .int .i64 d', .bool ok]) ∧ Grow w u ∧
      (ok = true → ∃ i, i < x.g.length ∧ l / 2 = ((i + 1 : Nat) : Int) ∧ x.g.getD i (0, 0) = (c', d') ∧ 0 ≤ c' ∧ isL i c' = true ∧ isL i d' = true) := fun z => by
    refine ⟨c, d, _, rfl, G8.trans z.g, fun e => ⟨i, hil, hi, hg, ?_⟩⟩
    have hne : (c, d) ≠ (-1, -1) := fun e2 => by
      injection e2 with e2 e3
      subst e2 e3; simp at e
    unfold okG at ok
    rw [decide_eq_false hne, Bool.false_or, decide_eq_true_eq] at ok
    exact ⟨ok.1, isL_of ok.1 ok.2.2.1, isL_of ok.2.1 ok.2.2.2⟩
  repeat' first
    | exact fin' (by assumption)
    | with_reducible refine ⟨_, c0 (by assumption), ?_⟩
    | with_reducible refine ⟨_, c1 (by assumption), ?_⟩
    | with_reducible refine ⟨_, _, cc (by assumption), ?_⟩
    | with_reducible refine inp (by assumption) fun v z => ⟨_, _, rfl, ?_⟩
    | refine ⟨_, _, run_neq2 gate_eq _ _ c d (-1) (-1) _, ?_⟩
    | with_reducible refine And.intro ?_ ?_

theorem tmod2 {l : Int} (h : 0 ≤ l) : l.tmod 2 = l % 2 := Int.tmod_eq_emod_of_nonneg h

theorem plain_ok (h : AM w b x) {a c : Int} (ha : isL x.g.length a = true) (hc : isL x.g.length c = true) : Calls Try.prog aig_Aig_plain.id #[ptr b, .int .i64 a, .int .i64 c] w fun e w' => ∃ (l : Int) (ok : Bool), e = .returned (.tuple #[.int .i64 l, .bool ok]) ∧ Grow w w' ∧ (ok = true → Mk x.g x.g 1 l (And2 x.g a c)) := by
  refine aig_Aig_plain.calls ?_
  have hlen := h.len
  have ba := isL_bd ha
  have bc := isL_bd hc
  refine (kids_ok h hc).mono ?_
  rintro e w1 ⟨p, q, ok, rfl, g1, hk⟩
  refine ⟨_, _, _, rfl, cnd_i (fun _ => ⟨_, _, rfl, g1, fun e => by simp at e⟩) (fun r => ⟨by decide, cnd_i (fun _ => ⟨_, _, rfl, g1, fun e => by simp at e⟩) (fun r2 => ?_)⟩)⟩
  obtain ⟨i, hi, hci, hg, h0, _, _⟩ := hk (by simpa using r)
  have he : c % 2 = 0 := by
    have r2 := beq_eq_false_iff_ne.1 r2
    rw [tmod2 bc.1] at r2; omega
  have xa : IntKind.i64.wrap ((BitVec.ofInt (IntKind.bits .i64) a ^^^ BitVec.ofInt (IntKind.bits .i64) (1 : Int)).toNat) = flipL a := xor1 (by omega) (by omega)
  rw [xa]
  refine cnd_i (fun r3 => ⟨_, _, rfl, g1, fun _ => mk_plain h.may hc hi hg h0 hci he (.inl (by simpa using r3))⟩) (fun _ => cnd_i (fun r3 => ⟨_, _, rfl, g1, fun _ => mk_plain h.may hc hi hg h0 hci he (.inr (by simpa using r3))⟩) (fun _ => cnd_i (fun r3 => ⟨_, _, rfl, g1, fun _ => mk_plain0 h.may ha hi hg h0 hci he (.inl (by simpa using r3))⟩) (fun _ => cnd_i (fun r3 => ⟨_, _, rfl, g1, fun _ => mk_plain0 h.may ha hi hg h0 hci he (.inr (by simpa using r3))⟩) (fun _ => ⟨_, _, rfl, g1, fun e => by simp at e⟩))))

/-- What an operation made. -/
def OpS (w : World) (b : Nat) (x : AG) (m : Nat) (f : List Bool → Bool) (e : Ending) (w' : World) : Prop := ∃ l y, e = .returned (.int .i64 l) ∧ Aft w w' b x y ∧ Mk x.g y.g m l f

theorem and_ok : ∀ (n0 : Nat) {w : World} {x : AG} {a c : Int}, AM w b x → x.g.length < 1048576 → isL x.g.length a = true → isL x.g.length c = true → (a + c).toNat = n0 →
    Calls Try.prog aig_Aig_And.id #[ptr b, .int .i64 a, .int .i64 c] w fun e w' => OpS w b x 1 (And2 x.g a c) e w' := by
  intro n0
  induction n0 using Nat.strongRecOn with
  | _ n0 ih =>
  intro w x a c h hlt ha hc hn0
  have hlen := h.len
  -- what is made of a negation
  have turned : ∀ {w : World} {a c : Int}, AM w b x → isL x.g.length a = true → isL x.g.length c = true → (a + c).toNat = n0 → Calls Try.prog aig_Aig_turned.id #[ptr b, .int .i64 a, .int .i64 c] w fun e w' =>
      ∃ (l : Int) (ok : Bool), e = .returned (.tuple #[.int .i64 l, .bool ok]) ∧ (ok = true → ∃ y, Aft w w' b x y ∧ Mk x.g y.g 1 l (And2 x.g a c)) ∧ (ok = false → Grow w w') := by
    intro w a c h ha hc hn
    refine aig_Aig_turned.calls ?_
    have ba := isL_bd ha
    have bc := isL_bd hc
    refine (kids_ok h hc).mono ?_
    rintro e w1 ⟨p, q, ok, rfl, g1, hk⟩
    have no : ∃ (l : Int) (ok : Bool), Ending.returned (.tuple #[.int .i64 0, .bool false]) = .returned (.tuple #[.int .i64 l, .bool ok]) ∧ (ok = true → ∃ y, Aft w w1 b x y ∧ Mk x.g y.g 1 l (And2 x.g a c)) ∧ (ok = false → Grow w w1) := ⟨_, _, rfl, fun e => by simp at e, fun _ => g1⟩
    refine ⟨_, _, _, rfl, cnd_i (fun _ => no) (fun r => ⟨by decide, cnd_i (fun _ => no) (fun r2 => ?_)⟩)⟩
    obtain ⟨i, hi, hci, hg, h0, hp, hq⟩ := hk (by simpa using r)
    have bp := isL_bd hp
    have bq := isL_bd hq
    have he : c % 2 ≠ 0 := by
      have r2 := beq_eq_false_iff_ne.1 r2
      rw [tmod2 bc.1] at r2; exact r2
    have xf : ∀ {z : Int}, 0 ≤ z → z ≤ 2 * x.g.length + 1 → IntKind.i64.wrap ((BitVec.ofInt (IntKind.bits .i64) z ^^^ BitVec.ofInt (IntKind.bits .i64) (1 : Int)).toNat) = flipL z := fun h1 h2 => xor1 h1 (by omega)
    rw [xf ba.1 ba.2, xf (z := p) bp.1 (by omega), xf (z := q) bq.1 (by omega)]
    have rcs : ∀ {z : Int}, isL i z = true → ∀ {Q : Ending → World → Prop}, (∀ l y u, Aft w1 u b x y → Mk x.g y.g 1 l (And2 x.g a (flipL z)) → Q (.returned (.int .i64 l)) u) → Calls Try.prog aig_Aig_And.id #[ptr b, .int .i64 a, .int .i64 (flipL z)] w1 Q := fun {z} hz Q hQ => by
      have bz := isL_bd (flip_bd hz)
      refine (ih _ ?_ (h.grow g1) hlt ha (isL_mono (flip_bd hz) (by omega)) rfl).mono ?_
      · omega
      rintro e u ⟨l, y, rfl, A, k⟩
      exact hQ l y u A k
    refine cnd_i (fun r3 => ⟨_, _, rfl, fun _ => ⟨x, .refl h g1, mk_turned h.may ha hi hg h0 hci he (.inl (by simpa using r3))⟩, fun e => by simp at e⟩) (fun _ => cnd_i (fun r3 => ⟨_, _, rfl, fun _ => ⟨x, .refl h g1, mk_turned h.may ha hi hg h0 hci he (.inr (by simpa using r3))⟩, fun e => by simp at e⟩) (fun _ => cnd_i (fun r3 => ?_) (fun _ => cnd_i (fun r3 => ?_) (fun _ => no))))
    · exact rcs hq fun l y u A k => ⟨_, rfl, _, _, rfl, fun _ => ⟨y, A.pre g1, mk_other h.may hi hg h0 hci he (.inl ⟨by simpa using r3, k⟩)⟩, fun e => by simp at e⟩
    · exact rcs hp fun l y u A k => ⟨_, rfl, _, _, rfl, fun _ => ⟨y, A.pre g1, mk_other h.may hi hg h0 hci he (.inr ⟨by simpa using r3, k⟩)⟩, fun e => by simp at e⟩
  refine aig_Aig_And.calls ?_
  unfold aig_Aig_And.w
  refine (aigIs_ok h.a hlen a).mono ?_
  rintro e w1 ⟨rfl, g1⟩
  have ba := isL_bd ha
  have bc := isL_bd hc
  refine ⟨_, rfl, cnd_f (by rw [decide_eq_true (p := _ ∧ _) ba]; rfl) ?_⟩
  refine (aigIs_ok (h.grow g1).a hlen c).mono ?_
  rintro e w3 ⟨rfl, g3⟩
  refine ⟨_, rfl, cnd_f (by rw [decide_eq_true (p := _ ∧ _) bc]; rfl) ?_⟩
  have G3 := g1.trans g3
  obtain ⟨lo, hi, e1, e2, hlo, hhi, hsum, hcomm⟩ : ∃ lo hi : Int, imin a c = lo ∧ imax a c = hi ∧ isL x.g.length lo = true ∧ isL x.g.length hi = true ∧ lo + hi = a + c ∧ ∀ y m l, Mk x.g y m l (And2 x.g lo hi) → Mk x.g y m l (And2 x.g a c) := by
    by_cases e : c < a
    · exact ⟨c, a, by unfold imin; rw [if_pos e], by unfold imax; rw [if_neg (by omega)], hc, ha, by omega, fun y m l k => k.comm⟩
    · by_cases e2 : a = c
      · exact ⟨a, c, by unfold imin; rw [if_neg e], by unfold imax; rw [if_neg (by omega), e2], ha, hc, rfl, fun y m l k => k⟩
      · exact ⟨a, c, by unfold imin; rw [if_neg e], by unfold imax; rw [if_pos (by omega)], ha, hc, rfl, fun y m l k => k⟩
  rw [e1, e2]
  have blo := isL_bd hlo
  have bhi := isL_bd hhi
  have xa : IntKind.i64.wrap ((BitVec.ofInt (IntKind.bits .i64) lo ^^^ BitVec.ofInt (IntKind.bits .i64) (1 : Int)).toNat) = flipL lo := xor1 (by omega) (by omega)
  rw [xa]
  have done : ∀ {u : World} {l : Int}, Grow w u → Mk x.g x.g 1 l (And2 x.g lo hi) → OpS w b x 1 (And2 x.g a c) (.returned (.int .i64 l)) u := fun g k => ⟨_, x, rfl, .refl h g, hcomm _ _ _ k⟩
  refine cnd_i (fun r => done G3 (mk_no h.may hlo (.inl (by simpa using r)))) (fun _ => cnd_i (fun r => done G3 (mk_no h.may hlo (.inr (by simpa using r)))) (fun _ => cnd_i (fun r => done G3 (mk_b h.may hhi (.inl (by simpa using r)))) (fun _ => cnd_i (fun r => done G3 (mk_b h.may hhi (.inr (by simpa using r)))) (fun _ => ?_))))
  refine (plain_ok (h.grow G3) hlo hhi).mono ?_
  rintro e w5 ⟨l5, ok5, rfl, g5, k5⟩
  have G5 := G3.trans g5
  refine ⟨_, _, rfl, cnd_i (fun r => done G5 (k5 r)) (fun _ => (plain_ok (h.grow G5) hhi hlo).mono ?_)⟩
  rintro e w8 ⟨l8, ok8, rfl, g8, k8⟩
  have G8 := G5.trans g8
  refine ⟨_, _, rfl, cnd_i (fun r => done G8 (k8 r).comm) (fun _ => (turned (h.grow G8) hlo hhi (by omega)).mono ?_)⟩
  rintro e w11 ⟨l11, ok11, rfl, t11, f11⟩
  refine ⟨_, _, rfl, cnd_i (fun r => ?_) (fun r => ?_)⟩
  · obtain ⟨y, A, k⟩ := t11 r
    exact ⟨_, y, rfl, A.pre G8, hcomm _ _ _ k⟩
  have G11 := G8.trans (f11 r)
  refine (turned (h.grow G11) hhi hlo (by omega)).mono ?_
  rintro e w14 ⟨l14, ok14, rfl, t14, f14⟩
  refine ⟨_, _, rfl, cnd_i (fun r => ?_) (fun r => ?_)⟩
  · obtain ⟨y, A, k⟩ := t14 r
    exact ⟨_, y, rfl, A.pre G11, hcomm _ _ _ k.comm⟩
  have G14 := G11.trans (f14 r)
  intro n17 w18 h18
  have e18 := h18.num
  refine store_i h18.has rfl rfl fun w19 H m => ?_
  have G19 : Grow w w19.drew := (G14.trans (h18.mod.then m fun k hk (e : k = n17) => by omega)).drew
  have H' : Has w19.drew n17 #[.int .i64 lo, .int .i64 hi] := H.drew
  have hz : n17 < w19.drew.heap.size := H'.lt
  have hn17 : w.heap.size ≤ n17 := by have := G14.size; omega
  clear H m h18
  generalize w19.drew = W at G19 H' hz
  have hW := h.grow G19
  obtain ⟨nb, s, M, hnb, hs⟩ := hW.M
  have wlo : (Lit.int .i64 lo).wf = true := wf64 (by omega) (by omega)
  have whi : (Lit.int .i64 hi).wf = true := wf64 (by omega) (by omega)
  have cc : ∀ {u : World}, Has u n17 #[.int .i64 lo, .int .i64 hi] → CellsAt u (Addr.mk n17 0 none) 0 [.int .i64 lo, .int .i64 hi] := fun H => ⟨cell_add H rfl, cell_add H rfl, trivial⟩
  refine ⟨_, rfl, _, cell_add hW.a.me rfl, _, _, cc H', _, _, _, M.look gate_map gate_law (x := (lo, hi)) wlo whi, cnd_i (fun r => ?_) (fun r => ⟨_, _, cc H', (aigAdd_ok hW.a hlt lo hi).mono ?_⟩)⟩
  · obtain ⟨v, hv⟩ := Option.isSome_iff_exists.1 r
    obtain ⟨i, hi', rfl, hg, h0⟩ := hs _ _ hv
    rw [hv]
    exact done G19 (mk_at h.may hi' hg h0)
  have hlm := hW.lt
  rintro e w29 ⟨rfl, y, hy, my, m29⟩
  have H29 : Has w29 n17 #[.int .i64 lo, .int .i64 hi] := H'.keep m29 fun e => by have := h.lt n17 (.inl e); omega
  have hbmf : ¬ x.foot b x.bm := fun e => by
    rcases e with e | e
    · exact h.d1 e
    · exact h.d2 e
  have M29 := M.keep m29 hbmf
  obtain ⟨w35, hr, M35, m35⟩ := M29.grow (Mod.refl w29).drew |>.put gate_map gate_law (by unfold maxLen; omega) (x := (lo, hi)) wlo whi (v := 2 * ((x.g.length + 1 : Nat) : Int)) (wf64 (by omega) (by omega))
  have hyD := hy.grow (Mod.refl w29).drew
  have hyb : y.bm = x.bm := my.bm
  have nyb : ∀ k, y.foot b k → k ≠ x.bm := fun k hk e => by
    subst e
    rcases my.foot _ hk with e | e
    · exact hbmf e
    · have := hlm x.bm (.inr rfl)
      omega
  refine ⟨_, rfl, cnd_t (by simp; omega) ⟨_, rfl, _, cell_add hyD.me rfl, _, _, cc H29.drew, w35, by rw [hyb]; exact hr, _, y, rfl, ⟨⟨hyD.keep m35 fun k hk => nyb k hk, ?_, ?_, ?_, nb + 1, _, by rw [hyb]; exact M35, ?_, ?_⟩, hyb, ?_, ?_⟩, ?_⟩⟩
  · rw [my.g]; exact mayG_add h.may hlt (okG_lits hlo hhi)
  · rw [hyb]; exact h.d1
  · intro e
    exact nyb _ (.inr e) hyb
  · rw [my.g]; simp; omega
  · intro p v e
    have e : (if p = (lo, hi) then some (2 * ((x.g.length + 1 : Nat) : Int)) else s p) = some v := e
    by_cases ep : p = (lo, hi)
    · rw [if_pos ep] at e
      refine ⟨x.g.length, by rw [my.g]; simp, (Option.some.inj e).symm, by rw [my.g, getD_last, ep], by rw [ep]; exact blo.1⟩
    · rw [if_neg ep] at e
      obtain ⟨i, hi', h1, h2, h3⟩ := hs p v e
      exact ⟨i, by rw [my.g]; simp; omega, h1, by rw [my.g, getD_app1 hi']; exact h2, h3⟩
  · rintro k (hk | hk)
    · rcases my.foot k hk with e | e
      · exact .inl (.inl e)
      · exact .inr (Nat.le_trans G19.size e)
    · exact .inl (.inr (hk.trans hyb))
  · exact ((G19.mono fun _ _ e => e.elim).trans ((m29.drew).mono fun k _ e => .inl e)).trans (m35.mono fun k _ e => .inr e)
  · refine hcomm _ _ _ ?_
    rw [my.g]
    exact mk_new h.may hlt hlo hhi
end Go.Proofs.Ytambabpklfeaoaa.W
