/- Layer 9: what the inner functions of a heap come to. -/
import Derived.Test.YtamckcamloelbaaGenHeap
import Derived.Test.YtamckcamloelbaaFwSlice
import Derived.Test.YtamckcamloelbaaHeapPure
namespace Go.Proofs.Ytamckcamloelbaa.W
open Go Go.Fw Go.RowKit Go.HeapP

theorem sl_int : slOk Try.prog ty_sl_int ty_int 8 = true := by kernel_rfl

/-- A heap's rows, and what stands in them. -/
structure HS where
  pl : Option Addr
  cl : Nat
  pa : Option Addr
  ca : Nat
  ps : Option Addr
  cs : Nat
  l : List Int
  at_ : List Int
  score : List Int
  step : Int

/-- The blocks of a heap. -/
def HS.foot (x : HS) (b : Nat) (k : Nat) : Prop := k = b ∨ blk x.pl = some k ∨ blk x.pa = some k ∨ blk x.ps = some k

structure HRep (w : World) (b : Nat) (x : HS) : Prop where
  me : Has w b #[.slice x.pl x.l.length x.cl, .slice x.pa x.at_.length x.ca, .slice x.ps x.score.length x.cs, .int .i64 x.step]
  hl : OwI ty_int w x.pl x.cl x.l
  ha : OwI ty_int w x.pa x.ca x.at_
  hs : OwI ty_int w x.ps x.cs x.score
  bl : blk x.pl ≠ some b
  ba : blk x.pa ≠ some b
  bs : blk x.ps ≠ some b
  la : ∀ k, blk x.pl = some k → blk x.pa ≠ some k
  ls : ∀ k, blk x.pl = some k → blk x.ps ≠ some k
  sa : ∀ k, blk x.pa = some k → blk x.ps ≠ some k

theorem HRep.keep {w w' : World} {b : Nat} {x : HS} {S : Nat → Prop} (h : HRep w b x) (m : Mod S w w') (hS : ∀ k, x.foot b k → ¬ S k) : HRep w' b x :=
  ⟨h.me.keep m (hS b (.inl rfl)), h.hl.keep m fun k hk => hS k (.inr (.inl hk)), h.ha.keep m fun k hk => hS k (.inr (.inr (.inl hk))), h.hs.keep m fun k hk => hS k (.inr (.inr (.inr hk))), h.bl, h.ba, h.bs, h.la, h.ls, h.sa⟩
theorem HRep.grow {w w' : World} {b : Nat} {x : HS} (h : HRep w b x) (m : Grow w w') : HRep w' b x := h.keep m fun _ _ => id
theorem HRep.drew {w : World} {b : Nat} {x : HS} (h : HRep w b x) : HRep w.drew b x := ⟨h.me, h.hl, h.ha, h.hs, h.bl, h.ba, h.bs, h.la, h.ls, h.sa⟩
theorem HRep.lt {w : World} {b : Nat} {x : HS} (h : HRep w b x) : ∀ k, x.foot b k → k < w.heap.size := by
  rintro k (rfl | hk | hk | hk)
  · exact h.me.lt
  · exact h.hl.lt k hk
  · exact h.ha.lt k hk
  · exact h.hs.lt k hk

abbrev ptr (b : Nat) : Value := .pointer (some ⟨b, 0, none⟩)

/-- Is a better than c, of these scores? -/
def bt (s : List Int) (a c : Int) : Bool := if g s a = g s c then decide (a < c) else decide (g s a > g s c)
theorem bt_iff (s : List Int) (a c : Int) : bt s a c = true ↔ Bt (g s) a c := by
  unfold bt Bt; split <;> simp <;> omega

theorem better_spec {w : World} {b : Nat} {x : HS} (h : HRep w b x) (a c : Int) (a0 : 0 ≤ a) (a1 : a < x.score.length) (c0 : 0 ≤ c) (c1 : c < x.score.length) :
    Calls Try.prog heap_Heap_better.id #[ptr b, .int .i64 a, .int .i64 c] w fun e w' => e = .returned (.bool (bt x.score a c)) ∧ Grow w w' := by
  refine heap_Heap_better.calls ?_
  have h1 := h.drew
  have h2 := h1.drew
  refine ⟨_, rfl, _, _, _, cell_add h1.me rfl, h1.hs.ix 0 a0 rfl a1 fun a3 e3 => ⟨_, e3, _, rfl, _, _, _, cell_add h1.me rfl, h1.hs.ix 0 c0 rfl c1 fun a7 e7 => ⟨_, e7, cnd_i (fun t => ?_) (fun t => ?_)⟩⟩⟩
  · refine ⟨_, rfl, _, _, _, cell_add h2.me rfl, h2.hs.ix 0 a0 rfl a1 fun a3 e3 => ⟨_, e3, _, rfl, _, _, _, cell_add h2.me rfl, h2.hs.ix 0 c0 rfl c1 fun a7 e7 => ⟨_, e7, ?_, ((Mod.refl w).drew).drew⟩⟩⟩
    simp only [bne_iff_ne, ne_eq, g_nn a0, g_nn c0] at t
    rw [g_nn a0, g_nn c0]
    unfold bt; rw [if_neg t]
  · simp only [bne_eq_false_iff_eq, g_nn a0, g_nn c0] at t
    refine ⟨?_, (Mod.refl w).drew⟩
    unfold bt; rw [if_pos t]

def HS.put (x : HS) (i v : Int) : HS := { x with l := x.l.set i.toNat v, at_ := x.at_.set v.toNat (i + 1) }

theorem HRep.setL {w w' : World} {b : Nat} {x : HS} (h : HRep w b x) {l' : List Int} (hl : l'.length = x.l.length) (o : OwI ty_int w' x.pl x.cl l') (m : Mod (fun k => blk x.pl = some k) w w') : HRep w' b { x with l := l' } :=
  ⟨by have := h.me.keep m h.bl; rwa [← hl] at this, o, h.ha.keep m fun k hk hk' => h.la k hk' hk, h.hs.keep m fun k hk hk' => h.ls k hk' hk, h.bl, h.ba, h.bs, h.la, h.ls, h.sa⟩
theorem HRep.setA {w w' : World} {b : Nat} {x : HS} (h : HRep w b x) {l' : List Int} (hl : l'.length = x.at_.length) (o : OwI ty_int w' x.pa x.ca l') (m : Mod (fun k => blk x.pa = some k) w w') : HRep w' b { x with at_ := l' } :=
  ⟨by have := h.me.keep m h.ba; rwa [← hl] at this, h.hl.keep m fun k hk hk' => h.la k hk hk', o, h.hs.keep m fun k hk hk' => h.sa k hk' hk, h.bl, h.ba, h.bs, h.la, h.ls, h.sa⟩
theorem HRep.setS {w w' : World} {b : Nat} {x : HS} (h : HRep w b x) {l' : List Int} (hl : l'.length = x.score.length) (o : OwI ty_int w' x.ps x.cs l') (m : Mod (fun k => blk x.ps = some k) w w') : HRep w' b { x with score := l' } :=
  ⟨by have := h.me.keep m h.bs; rwa [← hl] at this, h.hl.keep m fun k hk hk' => h.ls k hk hk', h.ha.keep m fun k hk hk' => h.sa k hk hk', o, h.bl, h.ba, h.bs, h.la, h.ls, h.sa⟩
theorem HRep.setT {w w' : World} {b : Nat} {x : HS} (h : HRep w b x) {t : Int} (o : Has w' b #[.slice x.pl x.l.length x.cl, .slice x.pa x.at_.length x.ca, .slice x.ps x.score.length x.cs, .int .i64 t]) (m : Mod (· = b) w w') : HRep w' b { x with step := t } :=
  ⟨o, h.hl.keep m fun _ hk hk' => h.bl (hk' ▸ hk), h.ha.keep m fun _ hk hk' => h.ba (hk' ▸ hk), h.hs.keep m fun _ hk hk' => h.bs (hk' ▸ hk), h.bl, h.ba, h.bs, h.la, h.ls, h.sa⟩

theorem put_spec {w : World} {b : Nat} {x : HS} (h : HRep w b x) (i v : Int) (i0 : 0 ≤ i) (i1 : i < x.l.length) (v0 : 0 ≤ v) (v1 : v < x.at_.length) (hb : x.l.length < 2147483648) :
    Calls Try.prog heap_Heap_put.id #[ptr b, .int .i64 i, .int .i64 v] w fun e w' => e = .returned (.tuple #[]) ∧ HRep w' b (x.put i v) ∧ Mod (x.foot b) w w' := by
  refine heap_Heap_put.calls ?_
  refine ⟨_, rfl, _, _, _, cell_add h.me rfl, h.hl.st v rfl rfl i0 rfl i1 fun w4 o m => ?_⟩
  have h4 := h.setL (by simp) o m
  refine ⟨_, rfl, _, _, _, cell_add h4.me rfl, ?_⟩
  rw [wrap64_of (x := i + 1) (by omega) (by omega)]
  refine h4.ha.st (i + 1) rfl rfl v0 rfl v1 fun w8 o' m' => ⟨rfl, h4.setA (by simp) o' m', ?_⟩
  exact (m.mono fun k _ hk => .inr (.inl hk)).trans (m'.mono fun k _ hk => .inr (.inr (.inl hk)))

/-- A heap whose places and variables go with each other; it has N variables. -/
structure HOk (x : HS) (N : Int) : Prop where
  na : (x.at_.length : Int) = N + 1
  ns : (x.score.length : Int) = N + 1
  big : N ≤ 1048576
  pos : Pos (g x.l) (g x.at_) x.l.length N
  nl : (x.l.length : Int) ≤ N

/-- The same rows, the same scores, the same variables that are in it. -/
structure Lk (N : Int) (x y : HS) : Prop where
  pl : y.pl = x.pl
  cl : y.cl = x.cl
  pa : y.pa = x.pa
  ca : y.ca = x.ca
  ps : y.ps = x.ps
  cs : y.cs = x.cs
  l : y.l.length = x.l.length
  a : y.at_.length = x.at_.length
  score : y.score = x.score
  step : y.step = x.step
  has : ∀ u, 1 ≤ u → u ≤ N → (0 < g y.at_ u ↔ 0 < g x.at_ u)

theorem Lk.refl (N : Int) (x : HS) : Lk N x x := ⟨rfl, rfl, rfl, rfl, rfl, rfl, rfl, rfl, rfl, rfl, fun _ _ _ => Iff.rfl⟩
theorem Lk.trans {N : Int} {x y z : HS} (h : Lk N x y) (k : Lk N y z) : Lk N x z :=
  ⟨k.pl.trans h.pl, k.cl.trans h.cl, k.pa.trans h.pa, k.ca.trans h.ca, k.ps.trans h.ps, k.cs.trans h.cs, k.l.trans h.l, k.a.trans h.a, k.score.trans h.score, k.step.trans h.step, fun u a b => (k.has u a b).trans (h.has u a b)⟩
theorem Lk.foot {N : Int} {x y : HS} (h : Lk N x y) (b : Nat) : y.foot b = x.foot b := by funext k; unfold HS.foot; rw [h.pl, h.pa, h.ps]

theorem put_l {x : HS} {i v : Int} (i0 : 0 ≤ i) (i1 : i < x.l.length) : g (x.put i v).l = fun j => if j = i then v else g x.l j := g_set i0 i1
theorem put_a {x : HS} {i v : Int} (v0 : 0 ≤ v) (v1 : v < x.at_.length) : g (x.put i v).at_ = fun u => if u = v then i + 1 else g x.at_ u := g_set v0 v1

/-- A hole that is filled with what it has. -/
theorem put_same {x : HS} {N i : Int} (h : HOk x N) (i0 : 0 ≤ i) (i1 : i < x.l.length) : g (x.put i (g x.l i)).l = g x.l ∧ g (x.put i (g x.l i)).at_ = g x.at_ := by
  have f := h.pos.fit i i0 i1
  have hna := h.na
  rw [put_l i0 i1, put_a (by omega) (by omega)]
  constructor
  · funext j; split
    · subst_vars; rfl
    · rfl
  · funext u; split
    · subst_vars; omega
    · rfl

/-- The hole goes from i to p. -/
theorem put_put {y : HS} {N i p v : Int} (h : HOk (y.put i v) N) (v1 : 1 ≤ v) (v2 : v ≤ N) (i0 : 0 ≤ i) (i1 : i < y.l.length) (p0 : 0 ≤ p) (p1 : p < y.l.length) (hne : i ≠ p) :
    g ((y.put i (g y.l p)).put p v).l = swapL (g (y.put i v).l) i p ∧ g ((y.put i (g y.l p)).put p v).at_ = swapA (g (y.put i v).l) (g (y.put i v).at_) i p ∧ 1 ≤ g y.l p ∧ g y.l p ≤ N := by
  have hl : (y.put i v).l.length = y.l.length := by simp [HS.put]
  have hl2 : (y.put i (g y.l p)).l.length = y.l.length := by simp [HS.put]
  have ha2 : (y.put i (g y.l p)).at_.length = y.at_.length := by simp [HS.put]
  have hna : (y.at_.length : Int) = N + 1 := by have := h.na; simpa [HS.put] using this
  have f := h.pos.fit p p0 (by rw [hl]; exact p1)
  rw [put_l i0 i1] at f
  simp only [if_neg (Ne.symm hne)] at f
  refine ⟨?_, ?_, f.1, f.2.1⟩
  · rw [put_l p0 (by rw [hl2]; exact p1), put_l i0 i1, put_l i0 i1]
    funext j
    unfold swapL
    by_cases e : j = p
    · simp [e]
    · by_cases e2 : j = i
      · simp [e2, hne, Ne.symm hne]
      · simp [e, e2]
  · rw [put_a (by omega) (by rw [ha2]; omega), put_a (by omega) (by omega), put_l i0 i1, put_a (by omega) (by omega)]
    funext u
    unfold swapA
    simp only [if_neg (Ne.symm hne), if_true]
    by_cases e : u = v
    · simp [e]
    · by_cases e2 : u = g y.l p
      · simp [e2]
      · simp [e, e2]

theorem HOk.swap {y z : HS} {N i p : Int} (h : HOk y N) (i0 : 0 ≤ i) (i1 : i < y.l.length) (p0 : 0 ≤ p) (p1 : p < y.l.length) (hne : i ≠ p) (hl : g z.l = swapL (g y.l) i p) (ha : g z.at_ = swapA (g y.l) (g y.at_) i p) (k : z.l.length = y.l.length) (k2 : z.at_.length = y.at_.length) (k3 : z.score.length = y.score.length) :
    HOk z N ∧ ∀ u, (0 < g z.at_ u ↔ 0 < g y.at_ u) := by
  refine ⟨⟨by rw [k2]; exact h.na, by rw [k3]; exact h.ns, h.big, ?_, by rw [k]; exact h.nl⟩, fun u => ?_⟩
  · rw [hl, ha, k]; exact h.pos.swap i0 i1 p0 p1 hne
  · rw [ha]; exact swapA_pos h.pos i0 i1 p0 p1 u

theorem up_spec {w : World} {b : Nat} {x : HS} {N : Int} (h : HRep w b x) (ok : HOk x N) (i : Int) (i0 : 0 ≤ i) (i1 : i < x.l.length) (ho : OrdU (g x.score) (g x.l) x.l.length i) :
    Calls Try.prog heap_Heap_up.id #[ptr b, .int .i64 i] w fun e w' => e = .returned (.tuple #[]) ∧ ∃ x', HRep w' b x' ∧ HOk x' N ∧ Lk N x x' ∧ Ord (g x.score) (g x'.l) x'.l.length 0 (-1) ∧ Mod (x.foot b) w w' := by
  refine heap_Heap_up.calls ?_
  have hbig : (x.l.length : Int) ≤ 1048576 := Int.le_trans ok.nl ok.big
  refine ⟨_, rfl, _, _, _, cell_add h.me rfl, h.hl.ix 0 i0 rfl i1 fun a3 e3 => ⟨_, e3, ?_⟩⟩
  rw [g_nn i0]
  have fv := ok.pos.fit i i0 i1
  generalize hv : g x.l i = v at fv ⊢
  refine ⟨fun i w' k => ∃ y : HS, HRep w' b y ∧ Lk N x (y.put i v) ∧ HOk (y.put i v) N ∧ OrdU (g x.score) (g (y.put i v).l) x.l.length i ∧ 0 ≤ i ∧ i < x.l.length ∧ k = i.toNat ∧ Mod (x.foot b) w w', ⟨i.toNat, x, h, ?_, ?_, ?_, i0, i1, rfl, Mod.refl w⟩, ?_⟩
  · have ps := put_same ok i0 i1
    rw [hv] at ps
    exact ⟨rfl, rfl, rfl, rfl, rfl, rfl, by simp [HS.put], by simp [HS.put], rfl, rfl, fun u _ _ => by rw [ps.2]⟩
  · have ps := put_same ok i0 i1
    rw [hv] at ps
    exact ⟨by simpa [HS.put] using ok.na, ok.ns, ok.big, by rw [ps.1, ps.2]; simpa [HS.put] using ok.pos, by simpa [HS.put] using ok.nl⟩
  · have ps := put_same ok i0 i1
    rw [hv] at ps
    rw [ps.1]; exact ho
  clear h ho i0 i1 fv hv
  rintro i w' k _ ⟨y, hy, lk, ok', ou, i0, i1, hk, M⟩
  have hyl : y.l.length = x.l.length := by simpa [HS.put] using lk.l
  have hya : y.at_.length = x.at_.length := by simpa [HS.put] using lk.a
  have hys : y.score = x.score := lk.score
  have hna := ok.na
  have hns := ok.ns
  have hft : y.foot b = x.foot b := lk.foot b
  have hpl : (y.put i v).l.length = x.l.length := lk.l
  have fv := ok'.pos.fit i i0 (by rw [hpl]; exact i1)
  rw [put_l i0 (by omega)] at fv
  simp only [if_true] at fv
  have fin : (i ≤ 0 ∨ ¬ Bt (g x.score) v (g y.l ((i - 1) / 2))) → ∀ w2, HRep w2 b y → Mod (x.foot b) w w2 → Calls Try.prog heap_Heap_put.id #[ptr b, .int .i64 i, .int .i64 v] w2 fun e w' => e = .returned (.tuple #[]) ∧ (Ending.returned (.tuple #[]) = .returned (.tuple #[]) ∧ ∃ x', HRep w' b x' ∧ HOk x' N ∧ Lk N x x' ∧ Ord (g x.score) (g x'.l) x'.l.length 0 (-1) ∧ Mod (x.foot b) w w') := by
    intro hb w2 hy2 M2
    refine (put_spec hy2 i v i0 (by omega) (by omega) (by omega) (by omega)).mono ?_
    rintro e w3 ⟨rfl, h3, m3⟩
    refine ⟨rfl, rfl, _, h3, ok', lk, ?_, M2.trans (hft ▸ m3)⟩
    rw [hpl]
    refine ou.done (hb.imp id fun hb => ?_)
    rw [put_l i0 (by omega)]
    simp only [if_true]
    by_cases e : (i - 1) / 2 = i
    · rw [if_pos e]; exact fun hb => hb.asymm hb
    · rw [if_neg e]; exact hb
  refine cnd_i (fun t => ?_) (fun t => fin (.inl (by simpa using t)) w' hy M)
  simp only [decide_eq_true_eq] at t
  have ep : IntKind.i64.wrap ((IntKind.i64.wrap (i - 1)).tdiv 2) = (i - 1) / 2 := by
    rw [wrap64_of (x := i - 1) (by omega) (by omega), Int.tdiv_eq_ediv_of_nonneg (by omega), wrap64_of (by omega) (by omega)]
  rw [ep]
  have p0 : 0 ≤ (i - 1) / 2 := by omega
  have pp := put_put ok' (by omega) (by omega) i0 (by omega) p0 (by omega) (show i ≠ (i - 1) / 2 by omega)
  obtain ⟨e1, e2, u1, u2⟩ := pp
  refine ⟨by decide, _, rfl, _, _, _, cell_add hy.me rfl, hy.hl.ix 0 p0 rfl (by omega) fun a12 e12 => ⟨_, e12, ?_⟩⟩
  rw [g_nn p0]
  refine (better_spec hy v (g y.l ((i - 1) / 2)) (by omega) (by rw [hys]; omega) (by omega) (by rw [hys]; omega)).mono ?_
  rintro e w14 ⟨rfl, g14⟩
  have hy := hy.grow g14
  have M := M.grow g14
  refine ⟨_, rfl, cnd_i (fun tb => fin (.inr ?_) w14 hy M) (fun tb => ?_)⟩
  · rw [← bt_iff, ← hys]; simpa using tb
  · have tb : Bt (g x.score) v (g y.l ((i - 1) / 2)) := by rw [← bt_iff, ← hys]; simpa using tb
    refine ⟨_, rfl, _, _, _, cell_add hy.me rfl, hy.hl.ix 0 p0 rfl (by omega) fun a12 e12 => ⟨_, e12, ?_⟩⟩
    rw [g_nn p0]
    refine (put_spec hy i _ i0 (by omega) (show 0 ≤ g y.l ((i - 1) / 2) by omega) (by omega) (by omega)).mono ?_
    rintro e w21 ⟨rfl, h21, m21⟩
    have sw := HOk.swap (z := (y.put i (g y.l ((i - 1) / 2))).put ((i - 1) / 2) v) ok' i0 (by rw [hpl]; exact i1) p0 (by rw [hpl]; omega) (by omega) e1 e2 (by simp [HS.put]) (by simp [HS.put]) rfl
    refine ⟨rfl, ((i - 1) / 2).toNat, by omega, _, h21, ?_, sw.1, ?_, p0, by omega, rfl, M.trans (hft ▸ m21)⟩
    · refine lk.trans ⟨rfl, rfl, rfl, rfl, rfl, rfl, by simp [HS.put], by simp [HS.put], rfl, rfl, fun u _ _ => sw.2 u⟩
    · rw [e1]
      refine ou.step (by omega) i1 ?_
      rw [put_l i0 (by omega)]
      simpa [show ¬ (i - 1) / 2 = i by omega] using tb

theorem fall_spec {w : World} {b : Nat} {x : HS} {N : Int} (h : HRep w b x) (ok : HOk x N) (i : Int) (i0 : 0 ≤ i) (i1 : i < x.l.length) (k : Int) (ki : k ≤ i) (ho : OrdF (g x.score) (g x.l) x.l.length k i) :
    Calls Try.prog heap_Heap_fall.id #[ptr b, .int .i64 i] w fun e w' => e = .returned (.tuple #[]) ∧ ∃ x', HRep w' b x' ∧ HOk x' N ∧ Lk N x x' ∧ Ord (g x.score) (g x'.l) x'.l.length k (-1) ∧ Mod (x.foot b) w w' := by
  refine heap_Heap_fall.calls ?_
  have hbig : (x.l.length : Int) ≤ 1048576 := Int.le_trans ok.nl ok.big
  refine ⟨_, rfl, _, _, _, cell_add h.me rfl, h.hl.ix 0 i0 rfl i1 fun a3 e3 => ⟨_, e3, ?_⟩⟩
  rw [g_nn i0]
  generalize hv : g x.l i = v
  have ps := put_same ok i0 i1
  rw [hv] at ps
  refine ⟨fun i w' m => ∃ y : HS, HRep w' b y ∧ Lk N x (y.put i v) ∧ HOk (y.put i v) N ∧ OrdF (g x.score) (g (y.put i v).l) x.l.length k i ∧ k ≤ i ∧ 0 ≤ i ∧ i < x.l.length ∧ m = x.l.length - i.toNat ∧ Mod (x.foot b) w w', ⟨x.l.length - i.toNat, x, h, ?_, ?_, ?_, ki, i0, i1, rfl, Mod.refl w⟩, ?_⟩
  · exact ⟨rfl, rfl, rfl, rfl, rfl, rfl, by simp [HS.put], by simp [HS.put], rfl, rfl, fun u _ _ => by rw [ps.2]⟩
  · exact ⟨by simpa [HS.put] using ok.na, ok.ns, ok.big, by rw [ps.1, ps.2]; simpa [HS.put] using ok.pos, by simpa [HS.put] using ok.nl⟩
  · rw [ps.1]; exact ho
  clear h ho i0 i1 hv ps ki
  rintro i w' m _ ⟨y, hy, lk, ok', ou, ki, i0, i1, hm, M⟩
  have hyl : y.l.length = x.l.length := by simpa [HS.put] using lk.l
  have hya : y.at_.length = x.at_.length := by simpa [HS.put] using lk.a
  have hys : y.score = x.score := lk.score
  have hna := ok.na
  have hns := ok.ns
  have hft : y.foot b = x.foot b := lk.foot b
  have hpl : (y.put i v).l.length = x.l.length := lk.l
  have fv := ok'.pos.fit i i0 (by rw [hpl]; exact i1)
  rw [put_l i0 (by omega)] at fv
  simp only [if_true] at fv
  have fin : (∀ j : Int, 1 ≤ j → j < x.l.length → (j - 1) / 2 = i → ¬ Bt (g x.score) (g y.l j) v) → ∀ w2, HRep w2 b y → Mod (x.foot b) w w2 → Calls Try.prog heap_Heap_put.id #[ptr b, .int .i64 i, .int .i64 v] w2 fun e w' => e = .returned (.tuple #[]) ∧ (Ending.returned (.tuple #[]) = .returned (.tuple #[]) ∧ ∃ x', HRep w' b x' ∧ HOk x' N ∧ Lk N x x' ∧ Ord (g x.score) (g x'.l) x'.l.length k (-1) ∧ Mod (x.foot b) w w') := by
    intro hb w2 hy2 M2
    refine (put_spec hy2 i v i0 (by omega) (by omega) (by omega) (by omega)).mono ?_
    rintro e w3 ⟨rfl, h3, m3⟩
    refine ⟨rfl, rfl, _, h3, ok', lk, ?_, M2.trans (hft ▸ m3)⟩
    rw [hpl]
    refine ou.done fun j j1 j2 j3 => ?_
    rw [put_l i0 (by omega)]
    simp only [if_true]
    rw [if_neg (by omega)]
    exact hb j j1 j2 j3
  have ec : IntKind.i64.wrap (IntKind.i64.wrap (2 * i) + 1) = 2 * i + 1 := by rw [wrap64_of (x := 2 * i) (by omega) (by omega), wrap64_of (by omega) (by omega)]
  have ec1 : IntKind.i64.wrap (2 * i + 1 + 1) = 2 * i + 2 := by rw [wrap64_of (by omega) (by omega)]; omega
  rw [ec, ec1]
  refine ⟨_, rfl, _, _, _, cell_add hy.me rfl, cnd_i (fun t => fin ?_ w' hy M) (fun t => ?_)⟩
  · simp only [decide_eq_true_eq, ge_iff_le] at t
    intro j j1 j2 j3; omega
  simp only [decide_eq_false_iff_not, ge_iff_le] at t
  have kids : ∀ c, c = 2 * i + 1 ∨ c = 2 * i + 2 → c < x.l.length → 1 ≤ g y.l c ∧ g y.l c ≤ N := by
    intro c hc hc2
    have := ok'.pos.fit c (by omega) (by rw [hpl]; exact hc2)
    rw [put_l i0 (by omega)] at this
    simp only [show ¬ c = i by omega, if_false] at this
    exact ⟨this.1, this.2.1⟩
  have hy := hy.drew
  have M := M.drew
  have rest : ∀ c w2, HRep w2 b y → Mod (x.foot b) w w2 → c = 2 * i + 1 ∨ c = 2 * i + 2 → c < x.l.length → (∀ j : Int, 1 ≤ j → j < x.l.length → (j - 1) / 2 = i → ¬ Bt (g x.score) (g y.l j) (g y.l c)) → 
      (∃ a25 : Addr, (some (⟨b, 0, none⟩ : Addr)) = some a25 ∧ ∃ x26_p : Option Addr, ∃ x26_n : Nat, ∃ x26_c : Nat, w2.cell? (a25.add 0) = some (.slice x26_p x26_n x26_c) ∧ 
        ixK x26_p x26_n c 1 fun a27 =>
        ∃ x28 : Int, w2.cell? a27 = some (.int .i64 x28) ∧ 
        Calls Try.prog heap_Heap_better.id #[.pointer (some ⟨b, 0, none⟩), .int .i64 x28, .int .i64 v] w2 fun e w29 => ∃ r30 : Bool, e = .returned (.bool r30) ∧ 
        cnd (!r30)
        (Calls Try.prog heap_Heap_put.id #[.pointer (some ⟨b, 0, none⟩), .int .i64 i, .int .i64 v] w29 fun e w31 => e = .returned (.tuple #[]) ∧ 
          (Ending.returned (.tuple #[]) = .returned (.tuple #[]) ∧ ∃ x', HRep w31 b x' ∧ HOk x' N ∧ Lk N x x' ∧ Ord (g x.score) (g x'.l) x'.l.length k (-1) ∧ Mod (x.foot b) w w31))
        (∃ a32 : Addr, (some (⟨b, 0, none⟩ : Addr)) = some a32 ∧ ∃ x33_p : Option Addr, ∃ x33_n : Nat, ∃ x33_c : Nat, w29.cell? (a32.add 0) = some (.slice x33_p x33_n x33_c) ∧ 
          ixK x33_p x33_n c 1 fun a34 =>
          ∃ x35 : Int, w29.cell? a34 = some (.int .i64 x35) ∧ 
          Calls Try.prog heap_Heap_put.id #[.pointer (some ⟨b, 0, none⟩), .int .i64 i, .int .i64 x35] w29 fun e w36 => e = .returned (.tuple #[]) ∧ 
          ∃ k7, k7 < m ∧ ∃ y : HS, HRep w36 b y ∧ Lk N x (y.put c v) ∧ HOk (y.put c v) N ∧ OrdF (g x.score) (g (y.put c v).l) x.l.length k c ∧ k ≤ c ∧ 0 ≤ c ∧ c < x.l.length ∧ k7 = x.l.length - c.toNat ∧ Mod (x.foot b) w w36)) := by
    intro c w2 hy M hc hcn hbest
    have fc := kids c hc hcn
    have pp := put_put ok' (by omega) (by omega) i0 (by omega) (show 0 ≤ c by omega) (by omega) (show i ≠ c by omega)
    obtain ⟨e1, e2, u1, u2⟩ := pp
    have c0 : 0 ≤ c := by omega
    refine ⟨_, rfl, _, _, _, cell_add hy.me rfl, hy.hl.ix 0 c0 rfl (by omega) fun a12 e12 => ⟨_, e12, ?_⟩⟩
    rw [g_nn c0]
    refine (better_spec hy (g y.l c) v (by omega) (by rw [hys]; omega) (by omega) (by rw [hys]; omega)).mono ?_
    rintro e w14 ⟨rfl, g14⟩
    have hy := hy.grow g14
    have M := M.grow g14
    refine ⟨_, rfl, cnd_i (fun tb => fin (fun j j1 j2 j3 => ?_) w14 hy M) (fun tb => ?_)⟩
    · have : ¬ Bt (g x.score) (g y.l c) v := by rw [← bt_iff, ← hys]; simpa using tb
      exact Bt.ntrans (hbest j j1 j2 j3) this
    · have tb : Bt (g x.score) (g y.l c) v := by rw [← bt_iff, ← hys]; simpa using tb
      refine ⟨_, rfl, _, _, _, cell_add hy.me rfl, hy.hl.ix 0 c0 rfl (by omega) fun a12 e12 => ⟨_, e12, ?_⟩⟩
      rw [g_nn c0]
      refine (put_spec hy i _ i0 (by omega) (show 0 ≤ g y.l c by omega) (by omega) (by omega)).mono ?_
      rintro e w21 ⟨rfl, h21, m21⟩
      have sw := HOk.swap (z := (y.put i (g y.l c)).put c v) ok' i0 (by rw [hpl]; exact i1) c0 (by rw [hpl]; omega) (by omega) e1 e2 (by simp [HS.put]) (by simp [HS.put]) rfl
      refine ⟨rfl, x.l.length - c.toNat, by omega, _, h21, ?_, sw.1, ?_, by omega, c0, by omega, rfl, M.trans (hft ▸ m21)⟩
      · refine lk.trans ⟨rfl, rfl, rfl, rfl, rfl, rfl, by simp [HS.put], by simp [HS.put], rfl, rfl, fun u _ _ => sw.2 u⟩
      · rw [e1]
        refine ou.step ki i0 hcn (by omega) (by omega) ?_ ?_
        · rw [put_l i0 (by omega)]
          simpa [show ¬ c = i by omega] using tb
        · intro j j1 j2 j3
          rw [put_l i0 (by omega)]
          simpa [show ¬ c = i by omega, show ¬ j = i by omega] using hbest j j1 j2 j3
  refine ⟨_, rfl, _, _, _, cell_add hy.me rfl, cnd_i (fun t1 => ?_) (fun t1 => ?_)⟩ <;> simp only [decide_eq_true_eq, decide_eq_false_iff_not] at t1
  · have f1 := kids (2 * i + 1) (.inl rfl) (by omega)
    have f2 := kids (2 * i + 2) (.inr rfl) (by omega)
    refine ⟨_, rfl, _, _, _, cell_add hy.me rfl, hy.hl.ix 0 (by omega) rfl t1 fun a12 e12 => ⟨_, e12, _, rfl, _, _, _, cell_add hy.me rfl, hy.hl.ix 0 (by omega) rfl (by omega) fun a13 e13 => ⟨_, e13, ?_⟩⟩⟩
    rw [g_nn (by omega), g_nn (by omega)]
    refine (better_spec hy _ _ (show 0 ≤ g y.l (2 * i + 2) by omega) (by rw [hys]; omega) (show 0 ≤ g y.l (2 * i + 1) by omega) (by rw [hys]; omega)).mono ?_
    rintro e w14 ⟨rfl, g14⟩
    have hy := hy.grow g14
    have M := M.grow g14
    refine ⟨_, rfl, cnd_i (fun tb => rest _ w14 hy M (.inr rfl) (by omega) fun j j1 j2 j3 => ?_) (fun tb => rest _ w14 hy M (.inl rfl) (by omega) fun j j1 j2 j3 => ?_)⟩
    · have tb : Bt (g x.score) (g y.l (2 * i + 2)) (g y.l (2 * i + 1)) := by rw [← bt_iff, ← hys]; simpa using tb
      obtain rfl | rfl : j = 2 * i + 1 ∨ j = 2 * i + 2 := by omega
      · exact tb.asymm
      · exact fun hb => hb.asymm hb
    · have tb : ¬ Bt (g x.score) (g y.l (2 * i + 2)) (g y.l (2 * i + 1)) := by rw [← bt_iff, ← hys]; simpa using tb
      obtain rfl | rfl : j = 2 * i + 1 ∨ j = 2 * i + 2 := by omega
      · exact fun hb => hb.asymm hb
      · exact tb
  · refine rest _ _ hy M (.inl rfl) (by omega) fun j j1 j2 j3 => ?_
    obtain rfl : j = 2 * i + 1 := by omega
    exact fun hb => hb.asymm hb

end Go.Proofs.Ytamckcamloelbaa.W
