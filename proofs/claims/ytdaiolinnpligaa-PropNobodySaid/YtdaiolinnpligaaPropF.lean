/- Layer 6: the law's own functions: a decision, a run, and levels that are taken back. -/
import Derived.Test.YtdaiolinnpligaaPropE
namespace Go.Proofs.Ytdaiolinnpligaa.W
open Go Go.Fw Go.RowKit Go.SoP Go.LiP
variable {w w' w0 w2 w3 : World} {b : Nat} {H H' H2 : Pt → Sl} {s t u s' T : PSt} {cp gp dp : Option Addr} {hs : List Sl} {cs : List (List Int)} {gl : List Bool} {dl : List Int} {cn cc gn gc dn dc : Nat} {v : Int}

theorem sl_bool6 : slOk Try.prog ty_sl_bool ty_bool 1 = true := by kernel_rfl

/-- What is told is put into the cells of the result, and read from there. -/
theorem ret5 {n1 n5 : Nat} {x0 p2 p3 p4 : Option Addr} {x1 : Int} {n2 c2 n3 c3 n4 c4 : Nat} {cs5 : Array Value} (h1 : Has w n1 #[.pointer x0, .int .i64 x1, .slice p2 n2 c2, .slice p3 n3 c3, .slice p4 n4 c4]) (h5 : Has w n5 cs5) (hz : cs5 = #[.pointer none, .int .i64 0, .slice none 0 0, .slice none 0 0, .slice none 0 0])
    {K : Option Addr → Int → Option Addr → Nat → Nat → Option Addr → Nat → Nat → Option Addr → Nat → Nat → World → Prop} (hk : ∀ w', Mod (· = n5) w w' → K x0 x1 p2 n2 c2 p3 n3 c3 p4 n4 c4 w') :
    ∃ a0 : Option Addr, ∃ a1 : Int, ∃ a2 : Option Addr, ∃ a3 : Nat, ∃ a4 : Nat, ∃ a5 : Option Addr, ∃ a6 : Nat, ∃ a7 : Nat, ∃ a8 : Option Addr, ∃ a9 : Nat, ∃ a10 : Nat, CellsAt w (Addr.mk n1 0 none) 0 [.pointer a0, .int .i64 a1, .slice a2 a3 a4, .slice a5 a6 a7, .slice a8 a9 a10] ∧
      ∃ w2 : World, StoreAt (Addr.mk n5 0 none) 0 [.pointer a0, .int .i64 a1, .slice a2 a3 a4, .slice a5 a6 a7, .slice a8 a9 a10] w w2 ∧
      ∃ a0 : Option Addr, ∃ a1 : Int, ∃ a2 : Option Addr, ∃ a3 : Nat, ∃ a4 : Nat, ∃ a5 : Option Addr, ∃ a6 : Nat, ∃ a7 : Nat, ∃ a8 : Option Addr, ∃ a9 : Nat, ∃ a10 : Nat, CellsAt w2 (Addr.mk n5 0 none) 0 [.pointer a0, .int .i64 a1, .slice a2 a3 a4, .slice a5 a6 a7, .slice a8 a9 a10] ∧ K a0 a1 a2 a3 a4 a5 a6 a7 a8 a9 a10 w2 := by
  subst hz
  refine ⟨_, _, _, _, _, _, _, _, _, _, _, ⟨cell_add h1 rfl, cell_add h1 rfl, cell_add h1 rfl, cell_add h1 rfl, cell_add h1 rfl, trivial⟩, ?_⟩
  refine store_i h5 rfl rfl fun w3 h3 m3 => ?_
  exact ⟨_, _, _, _, _, _, _, _, _, _, _, ⟨cell_add h3 rfl, cell_add h3 rfl, cell_add h3 rfl, cell_add h3 rfl, cell_add h3 rfl, trivial⟩, hk w3 m3⟩

/-- One more element behind a copy, in each order. -/
theorem snoc3 {α : Type} {f : α → Value} {T t bytes : Nat} (hs : slOk Try.prog t T bytes = true) (hbytes : bytes ≤ 1000) {W : World} {x : α} {v : Value} (hv : v = f x) (one : ∀ x, (f x).oneCell' = true) {q : Option Addr} {l : List α} {m c : Nat} (h : Vw f W q l) (hm : m = l.length) (hl : l.length ≤ 100000)
    {K : Option Addr → Nat → Nat → World → Prop} (hK : ∀ u p c, Ow f T u p c (l ++ [x]) → Grow W u → (∀ k, blk p = some k → W.heap.size ≤ k) → K p (l.length + 1) c u) :
    (∀ (n34 : Nat) (w35 : World), New (.cells #[] T) W n34 w35 →
        Grow W w35 ∧ (∃ w36 : World, ∃ r37_p : Option Addr, ∃ r37_n : Nat, ∃ r37_c : Nat, (Builtin.append_ #[t, t] t #[.slice (some (Addr.mk n34 0 none)) 0 0, .slice q m c]).run Try.prog w35 = .ok (.slice r37_p r37_n r37_c) w36 ∧
        Grow W w36 ∧ ∀ (n38 : Nat) (w39 : World), New (.cells #[v] T) w36 n38 w39 →
        Grow W w39 ∧ ∃ w40 : World, ∃ r41_p : Option Addr, ∃ r41_n : Nat, ∃ r41_c : Nat, (Builtin.append_ #[t, t] t #[.slice r37_p r37_n r37_c, .slice (some (Addr.mk n38 0 none)) 1 1]).run Try.prog w39 = .ok (.slice r41_p r41_n r41_c) w40 ∧ K r41_p r41_n r41_c w40) ∧
      (∀ (n54 : Nat) (w55 : World), New (.cells #[v] T) w35 n54 w55 →
        Grow W w55 ∧ ∃ w56 : World, ∃ r57_p : Option Addr, ∃ r57_n : Nat, ∃ r57_c : Nat, (Builtin.append_ #[t, t] t #[.slice (some (Addr.mk n34 0 none)) 0 0, .slice q m c]).run Try.prog w55 = .ok (.slice r57_p r57_n r57_c) w56 ∧
        Grow W w56 ∧ ∃ w58 : World, ∃ r59_p : Option Addr, ∃ r59_n : Nat, ∃ r59_c : Nat, (Builtin.append_ #[t, t] t #[.slice r57_p r57_n r57_c, .slice (some (Addr.mk n54 0 none)) 1 1]).run Try.prog w56 = .ok (.slice r59_p r59_n r59_c) w58 ∧ K r59_p r59_n r59_c w58)) ∧
      (∀ (n72 : Nat) (w73 : World), New (.cells #[v] T) W n72 w73 →
        Grow W w73 ∧ ∀ (n74 : Nat) (w75 : World), New (.cells #[] T) w73 n74 w75 →
        Grow W w75 ∧ ∃ w76 : World, ∃ r77_p : Option Addr, ∃ r77_n : Nat, ∃ r77_c : Nat, (Builtin.append_ #[t, t] t #[.slice (some (Addr.mk n74 0 none)) 0 0, .slice q m c]).run Try.prog w75 = .ok (.slice r77_p r77_n r77_c) w76 ∧
        Grow W w76 ∧ ∃ w78 : World, ∃ r79_p : Option Addr, ∃ r79_n : Nat, ∃ r79_c : Nat, (Builtin.append_ #[t, t] t #[.slice r77_p r77_n r77_c, .slice (some (Addr.mk n72 0 none)) 1 1]).run Try.prog w76 = .ok (.slice r79_p r79_n r79_c) w78 ∧ K r79_p r79_n r79_c w78) := by
  subst hm
  have B1 : (l.length + 1) * (bytes + 1) ≤ 140737488355328 := by
    have : (l.length + 1) * (bytes + 1) ≤ 100001 * 1001 := Nat.mul_le_mul (by omega) (by omega)
    omega
  have B0 : (([] : List α).length + l.length) * (bytes + 1) ≤ 140737488355328 := by
    have : (([] : List α).length + l.length) * (bytes + 1) ≤ 100000 * 1001 := Nat.mul_le_mul (by simp; omega) (by omega)
    omega
  have first : ∀ {u : World} {n : Nat}, Grow W u → Ow f T u (some ⟨n, 0, none⟩) 0 [] → W.heap.size ≤ n → {L : World → Option Addr → Nat → Nat → Prop} →
      (∀ u' p c, Ow f T u' p c l → Grow W u' → Mod (fun k => k = n) u u' → (∀ k, blk p = some k → W.heap.size ≤ k) → L u' p l.length c) →
      ∃ w', ∃ p' n' c', (Builtin.append_ #[t, t] t #[.slice (some ⟨n, 0, none⟩) 0 0, .slice q l.length c]).run Try.prog u = .ok (.slice p' n' c') w' ∧ L w' p' n' c' := by
    intro u n gu o hn L hL
    refine o.appV hs (h.grow gu) rfl rfl one B0 fun u' p' c' o' m' hp' hs' => ?_
    rw [List.nil_append] at o' ⊢
    refine hL u' p' c' o' (gu.then m' fun k hk e => ?_) (m'.mono fun k _ e => blk_some e) fun k hk => ?_
    · have := blk_some e; omega
    · rcases hp' with rfl | rfl
      · have := blk_some hk; omega
      · have := blk_some hk; have := gu.size; omega
  have last : ∀ {u : World} {p : Option Addr} {c n : Nat}, Grow W u → Ow f T u p c l → (∀ k, blk p = some k → W.heap.size ≤ k) → Has u n #[v] →
      ∃ w', ∃ p' n' c', (Builtin.append_ #[t, t] t #[.slice p l.length c, .slice (some ⟨n, 0, none⟩) 1 1]).run Try.prog u = .ok (.slice p' n' c') w' ∧ K p' n' c' w' := by
    intro u p c n gu o fp hb
    refine o.app1 hs x hb hv rfl one B1 fun u' p' c' o' m' hp' hs' => hK u' p' c' o' (gu.then m' fun k hk e => ?_) fun k hk => ?_
    · have := fp k e; omega
    · rcases hp' with rfl | rfl
      · exact fp k hk
      · have := blk_some hk; have := gu.size; omega
  constructor
  · intro n1 w1 h1
    have e1 := h1.num
    refine ⟨h1.mod, first h1.mod (New.empty h1) (by omega) fun u p c o g m fp => ⟨g, fun n2 w2 h2 => ?_⟩, fun n2 w2 h2 => ?_⟩
    · exact ⟨g.trans h2.mod, last (g.trans h2.mod) (o.grow h2.mod) fp h2.has⟩
    · have e2 := h2.num
      have s1 := h1.size
      refine ⟨h1.mod.trans h2.mod, first (h1.mod.trans h2.mod) ((New.empty h1).grow h2.mod) (by omega) fun u p c o g m fp => ⟨g, ?_⟩⟩
      exact last g o fp (h2.has.keep m (by omega))
  · intro n1 w1 h1
    refine ⟨h1.mod, fun n2 w2 h2 => ⟨h1.mod.trans h2.mod, ?_⟩⟩
    have e1 := h1.num
    have e2 := h2.num
    have s1 := h1.size
    refine first (h1.mod.trans h2.mod) (New.empty h2) (by omega) fun u p c o g m fp => ⟨g, ?_⟩
    exact last g o fp ((h1.has.grow h2.mod).keep m (by omega))

/-- Where what the document has stands. -/
def Ft (cp : Option Addr) (hs : List Sl) (gp : Option Addr) (gl : List Bool) (dp : Option Addr) (dl : List Int) (k : Nat) : Prop := footN cp hs k ∨ (gl ≠ [] ∧ blk gp = some k) ∨ (dl ≠ [] ∧ blk dp = some k)
/-- What an act leaves. -/
def AP (w w' : World) (b : Nat) (H : Pt → Sl) (v : Int) (e : Ending) (Fo : Nat → Prop) (Q : PSt → List (List Int) → List Bool → List Int → Prop) : Prop :=
  ∃ (cp' gp' dp' : Option Addr) (cc' gc' dc' : Nat) (hs' : List Sl) (cs' : List (List Int)) (gl' : List Bool) (dl' : List Int) (H' : Pt → Sl) (s' : PSt),
    e = .returned (.tuple #[.agg #[ptrV b, .int .i64 v, .slice cp' cs'.length cc', .slice gp' gl'.length gc', .slice dp' dl'.length dc'], .bool true]) ∧
    WD w' b H' s' cp' hs' cs' gp' gl' dp' dl' ∧ dl'.length ≤ dc' ∧ Pw w w' b H H' s' ∧ (∀ k, Ft cp' hs' gp' gl' dp' dl' k → Fo k ∨ w.heap.size ≤ k) ∧ Q s' cs' gl' dl'

/-- Only the decisions, and what is true, were turned. -/
theorem WD.of (h : WD w b H s cp hs cs gp gl dp dl) (P : Pw w w' b H H' s') (g : Good s') (hv : s'.vars = s.vars) (hn : s'.nc = s.nc) (hg : s'.gone = s.gone) (ha : ∀ i, s'.R (.a i) = s.R (.a i)) {dp' : Option Addr} {dl' : List Int}
    (dv : Vw (Value.int .i64) w' dp' dl') (hd : dl' = s'.dec) (f3 : ∀ k, dl' ≠ [] → blk dp' = some k → ∀ x, own b H' x ≠ some k) : WD w' b H' s' cp hs cs gp gl dp' dl' := by
  obtain ⟨a1, a2, a3, a4, a5, a6⟩ := h.apart P
  refine ⟨P.pm, g, a1, a2, dv, by rw [hn]; exact h.cn, by rw [hn]; exact h.gn, fun i hi => by rw [hg]; exact h.gg i (by rw [← hn]; exact hi), fun i hi => ?_, hd, a4, a5, f3, by rw [hn]; exact h.cb, by rw [hv]; exact h.vb⟩
  unfold PSt.There at hi
  rw [hn, hg] at hi
  rw [ha]
  exact h.ca i hi

/-- What came between is none of a propagator's. -/
theorem Pw.old {w1 : World} (P : Pw w1 w' b H H' s') (h : PM w b H s) {k : Nat} (h1 : w.heap.size ≤ k) (h2 : k < w1.heap.size) : ∀ x, own b H' x ≠ some k := fun x e => by
  rcases P.ft x k e with ⟨y, e2⟩ | e2
  · have := h.lt y k e2; omega
  · omega

theorem dec_decide (g : Good s) (l : Int) : (s.decide l).dec = s.dec ++ [l] := by
  have e1 : (s.decide l).R .be = s.R .be ++ [((s.R .tr).length : Int)] := by
    unfold PSt.decide; rw [put_R (by simp) (by simp) (by simp) (by simp)]; unfold PSt.begin; rw [set_ne (by simp), set_eq]
  have e2 : (s.decide l).R .tr = s.R .tr ++ [l] := by
    unfold PSt.decide; rw [put_tr]; unfold PSt.begin; rw [set_ne (by simp), set_ne (by simp)]
  unfold PSt.dec
  rw [e1, e2, List.map_append, List.map_singleton, Int.toNat_natCast, getD_append_eq]
  congr 1
  refine List.map_congr_left fun q hq => ?_
  obtain ⟨j, hj, e3⟩ := List.mem_iff_getElem.1 hq
  have := g.bl j hj
  simp only [List.getD, List.getElem?_eq_getElem hj, Option.getD_some, e3] at this
  exact getD_append_lt (by omega)

theorem decide_same (l : Int) : (s.decide l).vars = s.vars ∧ (s.decide l).nc = s.nc ∧ (s.decide l).gone = s.gone ∧ ∀ i, (s.decide l).R (.a i) = s.R (.a i) := by
  refine ⟨by simp only [PSt.decide, PSt.put, PSt.begin, PSt.set], by simp only [PSt.decide, PSt.put, PSt.begin, PSt.set], by simp only [PSt.decide, PSt.put, PSt.begin, PSt.set], fun i => ?_⟩
  unfold PSt.decide
  rw [put_R (by simp) (by simp) (by simp) (by simp)]
  unfold PSt.begin
  rw [set_ne (by simp), set_ne (by simp)]

theorem act0_ok (h : WD w b H s cp hs cs gp gl dp dl) (hv : v = s.vars) (hcn : cn = cs.length) (hgn : gn = gl.length) (hdn : dn = dl.length) (hdc : dl.length ≤ dc) (l : Int) {ap : Option Addr} {an ac : Nat} :
    Calls Try.prog fathomlaw06_act.id #[.agg #[ptrV b, .int .i64 v, .slice cp cn cc, .slice gp gn gc, .slice dp dn dc], .agg #[.int .i64 0, .int .i64 l, .slice ap an ac]] w fun e w' =>
      AP w w' b H v e (fun k => Ft cp hs gp gl dp dl k ∨ (0 < an ∧ blk ap = some k)) fun s' cs' gl' dl' => cs' = cs ∧ gl' = gl ∧ ((InV s.vars l ∧ s.val l = 0 ∧ s' = s.decide l ∧ dl' = dl ++ [l]) ∨ (¬ (InV s.vars l ∧ s.val l = 0) ∧ s' = s ∧ dl' = dl)) := by
  subst hcn hgn hdn
  have g := h.g
  have d60 := h.dl60
  refine fathomlaw06_act.calls ?_
  intro n1 w2 h2 n3 w4 h4 n5 w6 h6
  have e1 := h2.num; have e3 := h4.num; have e5 := h6.num
  have z1 := h2.size; have z3 := h4.size; have z5 := h6.size
  have G := (h2.mod.trans h4.mod).trans h6.mod
  have B1 := (h2.has.grow h4.mod).grow h6.mod
  have B3 := h4.has.grow h6.mod
  have B5 := h6.has
  refine ⟨_, cell_add B3 rfl, cnd_t rfl ⟨_, _, _, _, _, _, _, _, _, _, _, ⟨cell_add B1 rfl, cell_add B1 rfl, cell_add B1 rfl, cell_add B1 rfl, cell_add B1 rfl, trivial⟩, _, cell_add B3 rfl, ?_⟩⟩
  refine (open6_ok (h.grow G) hv l).mono ?_
  rintro e w14 ⟨r, rfl, hr, g14⟩
  have G14 := G.trans g14
  have h14 := h.grow G14
  refine ⟨_, rfl, _, cell_add (B1.grow g14) rfl, _, cell_add (B3.grow g14) rfl, (decide_ok h14.pm g l).mono ?_⟩
  rintro e w18 ⟨d, rfl, H', hd⟩
  refine ⟨_, rfl, ?_⟩
  have no : ∀ {k : Nat}, w.heap.size ≤ k → ¬ ∃ x, own b H x = some k := fun hk ⟨x, e⟩ => by have := h.pm.lt x _ e; omega
  rcases hd with ⟨rfl, d1, d2, P⟩ | ⟨rfl, d1, P⟩
  · have hrt : r = true := hr.2 ⟨d1, d2⟩
    subst hrt
    have C1 := (B1.grow g14).keep P.mod (no (by omega))
    have C5 := (B5.grow g14).keep P.mod (no (by omega))
    refine cnd_f rfl (cnd_t rfl ?_)
    have P' := P.pre G14
    obtain ⟨s1, s2, s3, s4⟩ := decide_same (s := s) l
    obtain ⟨_, _, a3, _, _, _⟩ := h.apart P'
    have C3 := (B3.grow g14).keep P.mod (no (by omega))
    have z18 := P'.mod.size
    have z14 := P.mod.size
    have z14' := g14.size
    refine ⟨Grow w18.drew, Mod.refl _, _, _, _, fun u hu => cell_add (C1.drew.grow hu) rfl, _, fun u hu => cell_add (C3.drew.grow hu) rfl, ?_⟩
    refine snoc3 (f := Value.int .i64) (T := ty_int) (x := l) sl_int (by omega) rfl oneInt a3.drew rfl (by omega) (K := fun p n c u => _) fun u p c o gu fp => ?_
    have gu' : Grow w18 u := (Mod.refl w18).drew.trans gu
    refine store_f (C1.grow gu') rfl rfl fun w42 C1' m42 => ?_
    have C5' := (C5.grow gu').keep m42 (by omega)
    refine ret5 C1' C5' rfl fun w48 m48 => ?_
    have Pf : Pw w w48 b H H' (s.decide l) := ((P'.grow gu').side m42 fun k hk => ⟨by omega, P.old h.pm (by omega) (by omega)⟩).side m48 fun k hk => ⟨by omega, P.old h.pm (by omega) (by omega)⟩
    have o48 : OwI ty_int w48 p c (dl ++ [l]) := (o.keep m42 fun k hk e => by have := fp k hk; have : w18.drew.heap.size = w18.heap.size := rfl; omega).keep m48 fun k hk e => by have := fp k hk; have : w18.drew.heap.size = w18.heap.size := rfl; omega
    have hcap : (dl ++ [l]).length ≤ c := by
      rcases o48.un with ⟨_, _, e⟩ | ⟨_, _, _, _, hc, _⟩
      · simp at e
      · exact hc
    refine ⟨cp, gp, p, cc, gc, c, hs, cs, gl, dl ++ [l], H', s.decide l, by simp, ?_, hcap, Pf, fun k hk => hk.elim (fun e => .inl (.inl (.inl e))) (fun e => e.elim (fun e => .inl (.inl (.inr (.inl e)))) fun e => .inr (by have := fp k e.2; have : w18.drew.heap.size = w18.heap.size := rfl; omega)), rfl, rfl, .inl ⟨d1, d2, rfl, rfl⟩⟩
    refine h.of Pf (decide_good g d1 d2) s1 s2 s3 s4 o48.vw (by rw [dec_decide g, h.dd]) fun k _ hk x e => ?_
    have := fp k hk
    have : w18.drew.heap.size = w18.heap.size := rfl
    have := P.pm.lt x k e
    omega
  · have hrf : r = false := by rw [← Bool.not_eq_true, hr]; exact d1
    subst hrf
    have C1 := (B1.grow g14).keep P.mod (no (by omega))
    have C5 := (B5.grow g14).keep P.mod (no (by omega))
    refine cnd_f rfl (cnd_f rfl (ret5 C1 C5 rfl fun w48 m48 => ?_))
    have P' := P.pre G14
    have z14' := g14.size
    have Pf : Pw w w48 b H H' s := P'.side m48 fun k hk => ⟨by omega, P.old h.pm (by omega) (by omega)⟩
    exact ⟨cp, gp, dp, cc, gc, dc, hs, cs, gl, dl, H', s, rfl, h.ext Pf g (.refl s), hdc, Pf, fun k hk => .inl (.inl hk), rfl, rfl, .inr ⟨d1, rfl, rfl⟩⟩

end Go.Proofs.Ytdaiolinnpligaa.W
/- Layer 6: the law's own functions: a run, and levels that are taken back. -/
namespace Go.Proofs.Ytdaiolinnpligaa.W
open Go Go.Fw Go.RowKit Go.SoP Go.LiP
variable {w w' w0 w2 w3 : World} {b : Nat} {H H' H2 : Pt → Sl} {s t u s' T : PSt} {cp gp dp ap : Option Addr} {hs : List Sl} {cs : List (List Int)} {gl : List Bool} {dl : List Int} {cn cc gn gc dn dc an ac : Nat} {v : Int}

theorem dec_ext (g : Good s) (x : Ext s s') : s'.dec = s.dec := by
  unfold PSt.dec
  rw [x.be]
  obtain ⟨e, he⟩ := x.tr
  rw [he]
  refine List.map_congr_left fun q hq => ?_
  obtain ⟨j, hj, e2⟩ := List.mem_iff_getElem.1 hq
  have := g.bl j hj
  simp only [List.getD, List.getElem?_eq_getElem hj, Option.getD_some, e2] at this
  rw [getD_append_lt (by omega)]

theorem act1_ok (h : WD w b H s cp hs cs gp gl dp dl) (hcn : cn = cs.length) (hgn : gn = gl.length) (hdn : dn = dl.length) (hdc : dl.length ≤ dc) (l : Int) :
    Calls Try.prog fathomlaw06_act.id #[.agg #[ptrV b, .int .i64 v, .slice cp cn cc, .slice gp gn gc, .slice dp dn dc], .agg #[.int .i64 1, .int .i64 l, .slice ap an ac]] w fun e w' =>
      AP w w' b H v e (fun k => Ft cp hs gp gl dp dl k ∨ (0 < an ∧ blk ap = some k)) fun s' cs' gl' dl' => cs' = cs ∧ gl' = gl ∧ dl' = dl ∧ Ext s s' := by
  subst hcn hgn hdn
  have g := h.g
  refine fathomlaw06_act.calls ?_
  intro n1 w2 h2 n3 w4 h4 n5 w6 h6
  have e1 := h2.num; have e3 := h4.num; have e5 := h6.num
  have z1 := h2.size; have z3 := h4.size; have z5 := h6.size
  have G := (h2.mod.trans h4.mod).trans h6.mod
  have B1 := (h2.has.grow h4.mod).grow h6.mod
  have B3 := h4.has.grow h6.mod
  have B5 := h6.has
  have no : ∀ {k : Nat}, w.heap.size ≤ k → ¬ ∃ x, own b H x = some k := fun hk ⟨x, e⟩ => by have := h.pm.lt x _ e; omega
  refine ⟨_, cell_add B3 rfl, cnd_f rfl (cnd_t rfl ?_)⟩
  have rd : ∀ u, Has u n1 #[ptrV b, .int .i64 v, .slice cp cs.length cc, .slice gp gl.length gc, .slice dp dl.length dc] → CellsAt u ⟨n1, 0, none⟩ 0 [ptrV b, .int .i64 v, .slice cp cs.length cc, .slice gp gl.length gc, .slice dp dl.length dc] :=
    fun u hu => ⟨cell_add hu rfl, cell_add hu rfl, cell_add hu rfl, cell_add hu rfl, cell_add hu rfl, trivial⟩
  refine ⟨fun u => Has u n1 #[ptrV b, .int .i64 v, .slice cp cs.length cc, .slice gp gl.length gc, .slice dp dl.length dc], B1.drew, _, _, _, _, _, _, _, _, _, _, _, rd, _, _, _, _, _, _, _, _, _, _, _, rd, _, fun u hu => cell_add hu rfl, ?_⟩
  refine (run_ok (h.pm.grow (G.trans (Mod.refl w6).drew)) g).mono ?_
  rintro e w115 ⟨r, rfl, s', H', P, g', x, ht⟩
  have C1 := B1.drew.keep P.mod (no (by omega))
  have C5 := B5.drew.keep P.mod (no (by omega))
  have P' := P.pre (G.trans (Mod.refl w6).drew)
  have h' := h.ext P' g' x
  refine ⟨_, rfl, C1, (ran_ok h' rfl rfl rfl ht).mono ?_⟩
  rintro e w117 ⟨rfl, g117⟩
  have D1 := C1.grow g117
  have D5 := C5.grow g117
  refine ⟨_, rfl, D1, ?_⟩
  refine store_i D5 rfl rfl fun w119 D5' m119 => ?_
  have zz : w6.drew.heap.size = w6.heap.size := rfl
  have Pf : Pw w w119 b H H' s' := (P'.grow g117).side m119 fun k hk => ⟨by omega, P.old h.pm (by omega) (by omega)⟩
  exact ⟨_, _, _, _, _, _, _, _, _, _, _, ⟨cell_add D5' rfl, cell_add D5' rfl, cell_add D5' rfl, cell_add D5' rfl, cell_add D5' rfl, trivial⟩,
    cp, gp, dp, cc, gc, dc, hs, cs, gl, dl, H', s', rfl, h.ext Pf g' x, hdc, Pf, fun k hk => .inl (.inl hk), rfl, rfl, rfl, x⟩

theorem back_same (L : Nat) : (s.back L).vars = s.vars ∧ (s.back L).nc = s.nc ∧ (s.back L).gone = s.gone ∧ (∀ i, (s.back L).R (.a i) = s.R (.a i)) ∧ (s.back L).R .be = (s.R .be).take L ∧ (s.back L).R .tr = (s.R .tr).take ((s.R .be).getD L 0).toNat := by
  have key : ∀ y, (s.back L).R y = ((((s.set .va (clr (s.R .va) ((s.R .tr).drop ((s.R .be).getD L 0).toNat))).set .tr ((s.R .tr).take ((s.R .be).getD L 0).toNat)).set .be ((s.R .be).take L)).set .ds ((s.R .ds).take L)).R y := fun y => rfl
  refine ⟨rfl, rfl, rfl, fun i => ?_, ?_, ?_⟩
  · rw [key, set_ne (by simp), set_ne (by simp), set_ne (by simp), set_ne (by simp)]
  · rw [key, set_ne (by simp), set_eq]
  · rw [key, set_ne (by simp), set_ne (by simp), set_eq]
theorem dec_back (g : Good s) {L : Nat} (hL : L < (s.R .be).length) : (s.back L).dec = s.dec.take L := by
  obtain ⟨_, _, _, _, e1, e2⟩ := back_same (s := s) L
  unfold PSt.dec
  rw [e1, e2, ← List.map_take]
  refine List.map_congr_left fun q hq => ?_
  obtain ⟨j, hj, e3⟩ := List.mem_iff_getElem.1 hq
  rw [List.length_take] at hj
  rw [List.getElem_take] at e3
  have b1 := g.bl j (by omega)
  have b2 := g.bs j L (by omega) hL
  have ej : (s.R .be).getD j 0 = q := by simp [List.getD, show j < (s.R .be).length by omega, e3]
  rw [ej] at b1 b2
  exact take_getD (by omega)

theorem act2_ok (h : WD w b H s cp hs cs gp gl dp dl) (hcn : cn = cs.length) (hgn : gn = gl.length) (hdn : dn = dl.length) (hdc : dl.length ≤ dc) (l : Int) :
    Calls Try.prog fathomlaw06_act.id #[.agg #[ptrV b, .int .i64 v, .slice cp cn cc, .slice gp gn gc, .slice dp dn dc], .agg #[.int .i64 2, .int .i64 l, .slice ap an ac]] w fun e w' =>
      AP w w' b H v e (fun k => Ft cp hs gp gl dp dl k ∨ (0 < an ∧ blk ap = some k)) fun s' cs' gl' dl' => cs' = cs ∧ gl' = gl ∧ s'.vars = s.vars := by
  subst hcn hgn hdn
  have g := h.g
  have hdl := h.dec_len
  refine fathomlaw06_act.calls ?_
  intro n1 w2 h2 n3 w4 h4 n5 w6 h6
  have e1 := h2.num; have e3 := h4.num; have e5 := h6.num
  have z1 := h2.size; have z3 := h4.size; have z5 := h6.size
  have G := (h2.mod.trans h4.mod).trans h6.mod
  have B1 := (h2.has.grow h4.mod).grow h6.mod
  have B3 := h4.has.grow h6.mod
  have B5 := h6.has
  have no : ∀ {k : Nat}, w.heap.size ≤ k → ¬ ∃ x, own b H x = some k := fun hk ⟨x, e⟩ => by have := h.pm.lt x _ e; omega
  refine ⟨_, cell_add B3 rfl, cnd_f rfl (cnd_f rfl (cnd_t rfl ⟨_, cell_add B1 rfl, _, cell_add B3 rfl, ?_⟩))⟩
  refine (back_ok (h.pm.grow G) g l).mono ?_
  rintro e w127 ⟨rfl, H', P⟩
  obtain ⟨L, hL⟩ : ∃ L : Nat, L = (max 0 l).toNat := ⟨_, rfl⟩
  rw [← hL] at P
  have C1 := B1.keep P.mod (no (by omega))
  have C3 := B3.keep P.mod (no (by omega))
  have C5 := B5.keep P.mod (no (by omega))
  have P' := P.pre G
  obtain ⟨_, _, a3, _, _, a6⟩ := h.apart P'
  have Q : ∀ {k : Nat}, w.heap.size ≤ k → k < w6.heap.size → ∀ x, own b H' x ≠ some k := fun h1 h2 => P.old h.pm h1 h2
  have key : ∀ {n : Nat} {u : World}, Mod (fun k => w.heap.size ≤ k ∧ k < w6.heap.size) w127 u → Has u n1 #[ptrV b, .int .i64 v, .slice cp cs.length cc, .slice gp gl.length gc, .slice dp dl.length dc] → Has u n5 #[.pointer none, .int .i64 0, .slice none 0 0, .slice none 0 0, .slice none 0 0] → Has u n3 #[.int .i64 2, .int .i64 (L : Int), .slice ap an ac] →
      cnd (decide ((L : Int) < (dl.length : Int)))
        (∃ x132_p : Option Addr, ∃ x132_n : Nat, ∃ x132_c : Nat, u.cell? ((Addr.mk n1 0 none).add 4) = some (.slice x132_p x132_n x132_c) ∧
            ∃ x133 : Int, u.cell? ((Addr.mk n3 0 none).add 1) = some (.int .i64 x133) ∧
            slK x132_p x132_n x132_c 1 none (some x133) none fun s134_p s134_n s134_c =>
            ∃ w135 : World, StoreAt ((Addr.mk n1 0 none).add 4) 0 [.slice s134_p s134_n s134_c] u w135 ∧
            ∃ x136 : Option Addr, ∃ x137 : Int, ∃ x138_p : Option Addr, ∃ x138_n : Nat, ∃ x138_c : Nat, ∃ x139_p : Option Addr, ∃ x139_n : Nat, ∃ x139_c : Nat, ∃ x140_p : Option Addr, ∃ x140_n : Nat, ∃ x140_c : Nat, CellsAt w135 (Addr.mk n1 0 none) 0 [.pointer x136, .int .i64 x137, .slice x138_p x138_n x138_c, .slice x139_p x139_n x139_c, .slice x140_p x140_n x140_c] ∧
            ∃ w141 : World, StoreAt (Addr.mk n5 0 none) 0 [.pointer x136, .int .i64 x137, .slice x138_p x138_n x138_c, .slice x139_p x139_n x139_c, .slice x140_p x140_n x140_c] w135 w141 ∧
            ∃ x142 : Option Addr, ∃ x143 : Int, ∃ x144_p : Option Addr, ∃ x144_n : Nat, ∃ x144_c : Nat, ∃ x145_p : Option Addr, ∃ x145_n : Nat, ∃ x145_c : Nat, ∃ x146_p : Option Addr, ∃ x146_n : Nat, ∃ x146_c : Nat, CellsAt w141 (Addr.mk n5 0 none) 0 [.pointer x142, .int .i64 x143, .slice x144_p x144_n x144_c, .slice x145_p x145_n x145_c, .slice x146_p x146_n x146_c] ∧
            AP w w141 b H v (.returned (.tuple #[.agg #[.pointer x142, .int .i64 x143, .slice x144_p x144_n x144_c, .slice x145_p x145_n x145_c, .slice x146_p x146_n x146_c], .bool true])) (fun k => Ft cp hs gp gl dp dl k ∨ (0 < an ∧ blk ap = some k)) fun s' cs' gl' dl' => cs' = cs ∧ gl' = gl ∧ s'.vars = s.vars)
        (∃ x136 : Option Addr, ∃ x137 : Int, ∃ x138_p : Option Addr, ∃ x138_n : Nat, ∃ x138_c : Nat, ∃ x139_p : Option Addr, ∃ x139_n : Nat, ∃ x139_c : Nat, ∃ x140_p : Option Addr, ∃ x140_n : Nat, ∃ x140_c : Nat, CellsAt u (Addr.mk n1 0 none) 0 [.pointer x136, .int .i64 x137, .slice x138_p x138_n x138_c, .slice x139_p x139_n x139_c, .slice x140_p x140_n x140_c] ∧
            ∃ w141 : World, StoreAt (Addr.mk n5 0 none) 0 [.pointer x136, .int .i64 x137, .slice x138_p x138_n x138_c, .slice x139_p x139_n x139_c, .slice x140_p x140_n x140_c] u w141 ∧
            ∃ x142 : Option Addr, ∃ x143 : Int, ∃ x144_p : Option Addr, ∃ x144_n : Nat, ∃ x144_c : Nat, ∃ x145_p : Option Addr, ∃ x145_n : Nat, ∃ x145_c : Nat, ∃ x146_p : Option Addr, ∃ x146_n : Nat, ∃ x146_c : Nat, CellsAt w141 (Addr.mk n5 0 none) 0 [.pointer x142, .int .i64 x143, .slice x144_p x144_n x144_c, .slice x145_p x145_n x145_c, .slice x146_p x146_n x146_c] ∧
            AP w w141 b H v (.returned (.tuple #[.agg #[.pointer x142, .int .i64 x143, .slice x144_p x144_n x144_c, .slice x145_p x145_n x145_c, .slice x146_p x146_n x146_c], .bool true])) (fun k => Ft cp hs gp gl dp dl k ∨ (0 < an ∧ blk ap = some k)) fun s' cs' gl' dl' => cs' = cs ∧ gl' = gl ∧ s'.vars = s.vars) := by
    intro _ u mu D1 D5 D3
    have Pu := P'.side mu fun k hk => ⟨hk.1, Q hk.1 hk.2⟩
    refine cnd_i (fun r => ?_) (fun r => ?_)
    · have r : L < (s.R .be).length := by simp at r; omega
      rw [if_pos r] at Pu
      refine ⟨_, _, _, cell_add D1 rfl, _, cell_add D3 rfl, slK_i 0 L dc rfl rfl rfl (Nat.le_refl _) (by omega) (Nat.zero_le _) ?_⟩
      rw [ep0, Nat.sub_zero, Nat.sub_zero]
      have hpp : (if dc = 0 then dp else dp) = dp := by split <;> rfl
      rw [hpp]
      refine store_f D1 rfl rfl fun w135 D1' m135 => ?_
      have D5' := D5.keep m135 (by omega)
      refine ret5 D1' D5' rfl fun w141 m141 => ?_
      have Pf := (Pu.side m135 fun k hk => ⟨by omega, Q (by omega) (by omega)⟩).side m141 fun k hk => ⟨by omega, Q (by omega) (by omega)⟩
      obtain ⟨s1, s2, s3, s4, _, _⟩ := back_same (s := s) L
      obtain ⟨_, _, a3', _, _, a6'⟩ := h.apart Pf
      refine ⟨cp, gp, dp, cc, gc, dc, hs, cs, gl, dl.take L, H', s.back L, ?_, ?_, by simp; omega, Pf, fun k hk => .inl (.inl (hk.imp id fun e => e.imp id fun e => ⟨fun e0 => e.1 (by rw [e0]; simp), e.2⟩)), rfl, rfl, s1⟩
      · rw [List.length_take, Nat.min_eq_left (by omega)]
      · refine h.of Pf (back_good g r) s1 s2 s3 s4 (Vw.takeV a3' (by omega)) (by rw [dec_back g r, h.dd]) fun k hne hk => a6' k (fun e => hne (by rw [e]; simp)) hk
    · have r : ¬ L < (s.R .be).length := by simp at r; omega
      rw [if_neg r] at Pu
      refine ret5 D1 D5 rfl fun w141 m141 => ?_
      have Pf := Pu.side m141 fun k hk => ⟨by omega, Q (by omega) (by omega)⟩
      exact ⟨cp, gp, dp, cc, gc, dc, hs, cs, gl, dl, H', s, rfl, h.ext Pf g (.refl s), hdc, Pf, fun k hk => .inl (.inl hk), rfl, rfl, rfl⟩
  refine ⟨rfl, _, cell_add C3 rfl, cnd_i (fun r => ?_) (fun r => ?_)⟩
  · have r : l < 0 := by simpa using r
    refine store_f C3 rfl rfl fun w129 C3' m129 => ?_
    have hz : (0 : Int) = (L : Int) := by omega
    rw [hz] at C3'
    have C1' := C1.keep m129 (by omega)
    have C5' := C5.keep m129 (by omega)
    exact ⟨_, cell_add C3' rfl, _, _, _, cell_add C1' rfl, key (n := 0) (m129.mono fun k _ hk => by omega) C1' C5' C3'⟩
  · have r : ¬ l < 0 := by simpa using r
    have hz : l = (L : Int) := by omega
    rw [hz] at C3
    exact ⟨_, cell_add C3 rfl, _, _, _, cell_add C1 rfl, key (n := 0) (Mod.refl _) C1 C5 C3⟩

end Go.Proofs.Ytdaiolinnpligaa.W
/- Layer 6: the law's own functions: a clause is added. -/
namespace Go.Proofs.Ytdaiolinnpligaa.W
open Go Go.Fw Go.RowKit Go.SoP Go.LiP
variable {w w' w0 w2 w3 : World} {b : Nat} {H H' H2 : Pt → Sl} {s t u s' T : PSt} {cp gp dp ap : Option Addr} {hs : List Sl} {cs : List (List Int)} {gl : List Bool} {dl c : List Int} {cn cc gn gc dn dc an ac : Nat} {v : Int}

theorem cnf_one (hn : s.vars ≤ 1048576) (c : List Int) : cnfB (s.vars : Int) [c] = okC s.vars c := by
  unfold cnfB okC
  have h1 : decide ((0 : Int) ≤ (s.vars : Int) ∧ (s.vars : Int) ≤ 1048576 ∧ [c].length ≤ 262144) = true := by simp; omega
  rw [h1, Bool.true_and, List.all_cons, List.all_nil, Bool.and_true]
  cases hc : clB c with
  | false => rfl
  | true =>
    simp only [Bool.true_and]
    rw [Bool.eq_iff_iff, List.all_eq_true, List.all_eq_true]
    unfold clB at hc
    simp only [Bool.and_eq_true, List.all_eq_true] at hc
    refine forall_congr' fun x => forall_congr' fun hx => ?_
    unfold isB
    rw [hc.1 x hx, Bool.true_and]

theorem WD.add (h : WD w b H s cp hs cs gp gl dp dl) (P : Pw w w' b H H' s') (g : Good s') (A : Added s c s') (hb : s.nc < 1000) {cp' gp' : Option Addr} {hs' : List Sl} (v2 : V2 (Value.int .i64) w' cp' hs' (cs ++ [c])) (gv : Vw Value.bool w' gp' (gl ++ [false]))
    (f1 : ∀ k, footN cp' hs' k → ∀ x, own b H' x ≠ some k) (f2 : ∀ k, blk gp' = some k → ∀ x, own b H' x ≠ some k) : WD w' b H' s' cp' hs' (cs ++ [c]) gp' (gl ++ [false]) dp dl := by
  obtain ⟨_, _, a3, _, _, a6⟩ := h.apart P
  have hcn := h.cn
  have hgn := h.gn
  refine ⟨P.pm, g, v2, gv, a3, by rw [A.n]; simp [hcn], by rw [A.n]; simp [hgn], fun i hi => ?_, fun i hi => ?_, ?_, f1, fun k _ => f2 k, a6, by rw [A.n]; omega, by rw [A.v]; exact h.vb⟩
  · rw [A.g]
    rw [A.n] at hi
    by_cases e : i = s.nc
    · rw [if_pos e, e, ← hgn]; simp [List.getD]
    · rw [if_neg e]
      have := h.gg i (by omega)
      rw [← this]
      simp [List.getD, show i < gl.length by omega, List.getElem?_append_left (show i < gl.length by omega)]
  · rw [A.a]
    have hi1 := hi.1
    rw [A.n] at hi1
    by_cases e : i = s.nc
    · rw [if_pos e, e, ← hcn]; simp [List.getD]
    · rw [if_neg e]
      have h2 := hi.2
      rw [A.g, if_neg e] at h2
      have := h.ca i ⟨by omega, h2⟩
      rw [← this]
      simp [List.getD, show i < cs.length by omega, List.getElem?_append_left (show i < cs.length by omega)]
  · rw [h.dd]; unfold PSt.dec; rw [A.be, A.tr]

theorem act3_ok (h : WD w b H s cp hs cs gp gl dp dl) (hv : v = s.vars) (hcn : cn = cs.length) (hgn : gn = gl.length) (hdn : dn = dl.length) (hdc : dl.length ≤ dc) (hnc : s.nc < 1000) (l : Int)
    (hC : Vw (Value.int .i64) w ap c) (han : an = c.length) (ham : an ≤ maxLen) (hF : 0 < an → ∀ k, blk ap = some k → ∀ x, own b H x ≠ some k) :
    Calls Try.prog fathomlaw06_act.id #[.agg #[ptrV b, .int .i64 v, .slice cp cn cc, .slice gp gn gc, .slice dp dn dc], .agg #[.int .i64 3, .int .i64 l, .slice ap an ac]] w fun e w' =>
      AP w w' b H v e (fun k => Ft cp hs gp gl dp dl k ∨ (0 < an ∧ blk ap = some k)) fun s' cs' gl' dl' => s'.nc ≤ s.nc + 1 ∧ s'.vars = s.vars := by
  subst hcn hgn hdn hv
  have g := h.g
  have hcl := h.cn
  have hgl := h.gn
  refine fathomlaw06_act.calls ?_
  intro n1 w2 h2 n3 w4 h4 n5 w6 h6
  have e1 := h2.num; have e3 := h4.num; have e5 := h6.num
  have z1 := h2.size; have z3 := h4.size; have z5 := h6.size
  have G := (h2.mod.trans h4.mod).trans h6.mod
  have B1 := (h2.has.grow h4.mod).grow h6.mod
  have B3 := h4.has.grow h6.mod
  have B5 := h6.has
  have no : ∀ {k : Nat}, w.heap.size ≤ k → ¬ ∃ x, own b H x = some k := fun hk ⟨x, e⟩ => by have := h.pm.lt x _ e; omega
  refine ⟨_, cell_add B3 rfl, cnd_f rfl (cnd_f rfl (cnd_f rfl (cnd_t rfl ⟨_, cell_add B1 rfl, _, _, _, cell_add B3 rfl, ?_⟩)))⟩
  intro n188 w189 h189
  have G189 := G.trans h189.mod
  have hv2 : V2 (Value.int .i64) w189 (some ⟨n188, 0, none⟩) [⟨ap, an, ac⟩] [c] := (VR.one (hC.grow G189) han ham).v2 (by
    intro j hj
    have hj : j = 0 := by simpa using hj
    subst hj
    exact ⟨_, rfl, cell_add h189.has rfl⟩)
  refine (refCnf_ok hv2 rfl).mono ?_
  rintro e w190 ⟨rfl, g190⟩
  rw [cnf_one g.vmax]
  have G190 := G189.trans g190
  have k190 := h189.mod.trans g190
  refine ⟨_, rfl, _, cell_add (B1.grow k190) rfl, _, _, _, cell_add (B3.grow k190) rfl, (add_ok (h.pm.grow G190) g (hC.grow G190) han ham).mono ?_⟩
  rintro e w194 ⟨r1, r2, rfl, s', H', P, g', hr⟩
  have C1 := (B1.grow k190).keep P.mod (no (by omega))
  have C3 := (B3.grow k190).keep P.mod (no (by omega))
  have C5 := (B5.grow k190).keep P.mod (no (by omega))
  have P' := P.pre G190
  have zk := k190.size
  have z194 := P.mod.size
  have Q : ∀ {k : Nat}, w.heap.size ≤ k → k < w6.heap.size → ∀ x, own b H' x ≠ some k := fun h1 h2 => P.old h.pm h1 (by omega)
  refine ⟨_, _, rfl, ?_⟩
  rcases hr with ⟨rfl, rfl, ho, rfl⟩ | ⟨rfl, rfl, ho, hn, rfl⟩ | ⟨rfl, rfl, ho, hn, A⟩
  · rw [ho]
    refine cnd_f rfl (cnd_f rfl (cnd_f rfl (ret5 C1 C5 rfl fun w317 m317 => ?_)))
    have Pf := P'.side m317 fun k hk => ⟨by omega, Q (by omega) (by omega)⟩
    exact ⟨cp, gp, dp, cc, gc, dc, hs, cs, gl, dl, H', s', rfl, h.ext Pf g' (.refl s'), hdc, Pf, fun k hk => .inl (.inl hk), by omega, rfl⟩
  · omega
  · rw [ho]
    refine cnd_f rfl (cnd_t rfl ⟨_, _, _, cell_add C1 rfl, cnd_f (by rw [hcl]; simp) (cnd_t rfl ?_)⟩)
    obtain ⟨a1, a2, a3, a4, a5, a6⟩ := h.apart P'
    have zz : w194.drew.heap.size = w194.heap.size := rfl
    have hcb := h.cb
    refine ⟨Grow w194.drew, Mod.refl _, _, _, _, fun u hu => cell_add (C1.drew.grow hu) rfl, _, _, _, fun u hu => cell_add (C3.drew.grow hu) rfl, ?_⟩
    refine snoc3 (f := Sl.v) (T := ty_sl_int) (x := ⟨ap, an, ac⟩) sl_sl (by omega) rfl (fun _ => rfl) a1.h.drew a1.n.symm (by rw [a1.n]; omega) (K := fun p n c u => _) fun u p c' o gu fp => ?_
    have gu' : Grow w194 u := (Mod.refl w194).drew.trans gu
    refine store_f (C1.grow gu') rfl rfl fun w231 C1' m231 => ?_
    intro n232 w233 h233
    have mu233 : Mod (fun k => k = n1) u w233 := m231.trans (h233.mod.mono fun _ _ e => e.elim)
    have gu1 : Mod (fun k => k = n1) w194 u := gu'.mono fun _ _ e => e.elim
    have m233 := gu1.trans mu233
    have n1lt : n1 < w.heap.size + 1 := by omega
    have C1b := C1'.grow h233.mod
    have a2' : Vw Value.bool w233 gp gl := a2.keepN m233 fun hne k hk e => by have := h.gv.lt hne k hk; omega
    refine ⟨_, _, _, cell_add C1b rfl, ?_⟩
    have zn := h233.num
    have z231 := m231.size
    have zu := gu'.size
    refine (New.empty (f := Value.bool) h233).appV sl_bool6 a2' rfl rfl oneBool (by simp; omega) fun w235 p235 c235 o235 m235 hp235 hs235 => ?_
    rw [List.nil_append] at o235 ⊢
    have f235 : ∀ k, blk p235 = some k → u.heap.size ≤ k := fun k hk => by
      rcases hp235 with rfl | rfl
      · have := blk_some hk; omega
      · have := blk_some hk; have := h233.size; omega
    have D1 := C1b.keep m235 fun e => by have := blk_some e; omega
    intro n237 w238 h238
    refine (o235.grow h238.mod).app1 sl_bool6 false h238.has rfl rfl oneBool (by omega) fun w239 p239 c239 o239 m239 hp239 hs239 => ?_
    have f239 : ∀ k, blk p239 = some k → u.heap.size ≤ k := fun k hk => by
      rcases hp239 with rfl | rfl
      · exact f235 k hk
      · have := blk_some hk; have := h238.size; have := h233.size; omega
    have D1' := (D1.grow h238.mod).keep m239 fun e => by have := f235 n1 e; omega
    refine store_f D1' rfl rfl fun w241 D1'' m241 => ?_
    have u235 := mu233.then m235 (fun k hk e => by have := blk_some e; omega)
    have u238 := u235.trans (h238.mod.mono fun _ _ e => e.elim)
    have u241 := (u238.then m239 (fun k hk e => by have := f235 k e; omega)).trans m241
    have all := gu1.trans u241
    have C5' := C5.keep all (by omega)
    refine ret5 D1'' C5' rfl fun w247 m247 => ?_
    have Pf := (P'.side all fun k hk => ⟨by omega, Q (by omega) (by omega)⟩).side m247 fun k hk => ⟨by omega, Q (by omega) (by omega)⟩
    have o247 := (o.keep u241 fun k hk e => by have := fp k hk; omega).keep m247 fun k hk e => by have := fp k hk; omega
    have g247 := (o239.keep m241 fun k hk e => by have := f239 k hk; omega).keep m247 fun k hk e => by have := f239 k hk; omega
    have argN : 0 < an → ∀ k, blk ap = some k → k < w.heap.size := fun h0 k hk => hC.lt (fun e => by rw [e] at han; simp at han; omega) k hk
    have hr247 : VR (Value.int .i64) w247 (hs ++ [⟨ap, an, ac⟩]) (cs ++ [c]) := by
      have m1 : Mod (fun k => (∃ x, own b H x = some k) ∨ w.heap.size ≤ k) w w247 := Pf.mod.mono fun k _ e => .inl e
      refine ((h.v2.keepN Pf.mod fun k hk ⟨x, e⟩ => h.f1 k hk x e).vr).app (VR.one (hC.keepN Pf.mod fun hne k hk ⟨x, e⟩ => ?_) han ham)
      exact hF (by rw [han]; exact List.length_pos_iff.2 hne) k hk x e
    refine ⟨p, p239, dp, c', c239, dc, hs ++ [⟨ap, an, ac⟩], cs ++ [c], gl ++ [false], dl, H', s', ?_, ?_, hdc, Pf, fun k hk => ?_, by have := A.n; show s'.nc ≤ _; omega, A.v⟩
    · simp [a1.n]
    · refine h.add Pf g' A hnc (hr247.v2 o247.vw) g247.vw (fun k hk x e => ?_) fun k hk x e => ?_
      · have hx := P.pm.lt x k e
        rcases hk with ⟨_, hk⟩ | hk
        · have := fp k hk; omega
        · rcases rfoot_app.1 hk with hk | ⟨sl, hsl, h0, hk⟩
          · exact a4 k (.inr hk) x e
          · rw [List.mem_singleton] at hsl
            subst hsl
            have := argN h0 k hk
            rcases P'.ft x k e with ⟨y, e2⟩ | e2
            · exact hF h0 k hk y e2
            · omega
      · have hx := P.pm.lt x k e
        have := f239 k hk
        omega
    · rcases hk with (⟨_, hk⟩ | hk) | ⟨_, hk⟩ | hk
      · have := fp k hk; exact .inr (by omega)
      · rcases rfoot_app.1 hk with hk | ⟨sl, hsl, h0, hk⟩
        · exact .inl (.inl (.inl (.inr hk)))
        · rw [List.mem_singleton] at hsl
          subst hsl
          exact .inl (.inr ⟨h0, hk⟩)
      · have := f239 k hk; exact .inr (by omega)
      · exact .inl (.inl (.inr (.inr hk)))

end Go.Proofs.Ytdaiolinnpligaa.W
/- Layer 6: the law's own functions: a clause is dropped; any act. -/
namespace Go.Proofs.Ytdaiolinnpligaa.W
open Go Go.Fw Go.RowKit Go.SoP Go.LiP
variable {w w' w0 w2 w3 : World} {b : Nat} {H H' H2 : Pt → Sl} {s t u s' T : PSt} {cp gp dp ap : Option Addr} {hs : List Sl} {cs : List (List Int)} {gl : List Bool} {dl c : List Int} {cn cc gn gc dn dc an ac : Nat} {v : Int}

theorem WD.drop (h : WD w b H s cp hs cs gp gl dp dl) {i : Nat} (P : Pw w w' b H H' (s.drop i)) (g : Good (s.drop i)) (hi : s.There i) {gp' : Option Addr} (gv : Vw Value.bool w' gp' (gl.set i true))
    (f2 : ∀ k, blk gp' = some k → ∀ x, own b H' x ≠ some k) : WD w' b H' (s.drop i) cp hs cs gp' (gl.set i true) dp dl := by
  obtain ⟨a1, _, a3, a4, _, a6⟩ := h.apart P
  obtain ⟨u1, u2, u3, u4⟩ := unF_vars i ((s.R (.l i)).take 2) s
  have evr : (s.drop i).vars = s.vars := u1
  have enc : (s.drop i).nc = s.nc := u2
  have hcn := h.cn
  have hgn := h.gn
  refine ⟨P.pm, g, a1, gv, a3, by rw [enc]; exact hcn, by rw [enc]; simpa using hgn, fun k hk => ?_, fun k hk => ?_, ?_, a4, fun k _ => f2 k, a6, by rw [enc]; exact h.cb, by rw [evr]; exact h.vb⟩
  · rw [enc] at hk
    have hsg : (s.drop i).gone k = if k = i then true else s.gone k := by
      show (if k = i then true else (unF i s _).gone k) = _
      rw [u3]
    rw [hsg, getD_set (by have := hi.1; omega)]
    split
    · rfl
    · exact h.gg k hk
  · obtain ⟨k1, k2⟩ := drop_there.1 hk
    rw [drop_R i _ (by simp) (by simp) (by simpa using k2) (by simp)]
    exact h.ca k k1
  · rw [h.dd]; unfold PSt.dec
    rw [drop_R i _ (by simp) (by simp) (by simp) (by simp), drop_R i _ (by simp) (by simp) (by simp) (by simp)]

theorem act4_ok (h : WD w b H s cp hs cs gp gl dp dl) (hcn : cn = cs.length) (hgn : gn = gl.length) (hdn : dn = dl.length) (hdc : dl.length ≤ dc) (l : Int) :
    Calls Try.prog fathomlaw06_act.id #[.agg #[ptrV b, .int .i64 v, .slice cp cn cc, .slice gp gn gc, .slice dp dn dc], .agg #[.int .i64 4, .int .i64 l, .slice ap an ac]] w fun e w' =>
      AP w w' b H v e (fun k => Ft cp hs gp gl dp dl k ∨ (0 < an ∧ blk ap = some k)) fun s' cs' gl' dl' => s'.nc ≤ s.nc + 1 ∧ s'.vars = s.vars := by
  subst hcn hgn hdn
  have g := h.g
  have hcl := h.cn
  have hgl := h.gn
  refine fathomlaw06_act.calls ?_
  intro n1 w2 h2 n3 w4 h4 n5 w6 h6
  have e1 := h2.num; have e3 := h4.num; have e5 := h6.num
  have z1 := h2.size; have z3 := h4.size; have z5 := h6.size
  have G := (h2.mod.trans h4.mod).trans h6.mod
  have B1 := (h2.has.grow h4.mod).grow h6.mod
  have B3 := h4.has.grow h6.mod
  have B5 := h6.has
  have no : ∀ {k : Nat}, w.heap.size ≤ k → ¬ ∃ x, own b H x = some k := fun hk ⟨x, e⟩ => by have := h.pm.lt x _ e; omega
  refine ⟨_, cell_add B3 rfl, cnd_f rfl (cnd_f rfl (cnd_f rfl (cnd_f rfl (cnd_t rfl ?_))))⟩
  refine ⟨fun bb u => bb = s.is l ∧ u = w6, ⟨_, cell_add B3 rfl, cnd_i (fun r => ?_) (fun r => ⟨?_, rfl⟩)⟩, ?_⟩
  · have r : l ≥ 0 := by simpa using r
    refine ⟨_, cell_add B3 rfl, _, _, _, cell_add B1 rfl, cnd_i (fun r2 => ?_) (fun r2 => ⟨?_, rfl⟩)⟩
    · have r2 : l < cs.length := by simpa using r2
      refine ⟨_, _, _, cell_add B1 rfl, _, cell_add B3 rfl, (h.gv.grow G).ix false r rfl (by omega) fun a ea => ⟨_, ea, ?_, rfl⟩⟩
      unfold PSt.is
      rw [← h.gg l.toNat (by omega), decide_eq_true (show 0 ≤ l ∧ l < (s.nc : Int) by omega), Bool.true_and]
    · have r2 : ¬ l < cs.length := by simpa using r2
      unfold PSt.is
      rw [decide_eq_false (show ¬ (0 ≤ l ∧ l < (s.nc : Int)) by omega), Bool.false_and]
  · have r : ¬ l ≥ 0 := by simpa using r
    unfold PSt.is
    rw [decide_eq_false (show ¬ (0 ≤ l ∧ l < (s.nc : Int)) by omega), Bool.false_and]
  rintro bb u433 _ ⟨rfl, rfl⟩
  refine ⟨_, cell_add B1 rfl, _, cell_add B3 rfl, (drop_ok (h.pm.grow G) g l).mono ?_⟩
  rintro e w436 ⟨r, rfl, H', hd⟩
  refine ⟨_, rfl, ?_⟩
  rcases hd with ⟨rfl, hs, P⟩ | ⟨rfl, hs, hR, P⟩ | ⟨rfl, hs, hR, P⟩
  · have C1 := B1.keep P.mod (no (by omega))
    have C5 := B5.keep P.mod (no (by omega))
    rw [hs]
    refine cnd_t rfl (ret5 C1 C5 rfl fun w443 m443 => ?_)
    have Pf := (P.pre G).side m443 fun k hk => ⟨by omega, P.old h.pm (by omega) (by omega)⟩
    exact ⟨cp, gp, dp, cc, gc, dc, _, cs, gl, dl, H', s, rfl, h.ext Pf g (.refl s), hdc, Pf, fun k hk => .inl (.inl hk), by show s.nc ≤ _; omega, rfl⟩
  · have C1 := B1.keep P.mod (no (by omega))
    have C3 := B3.keep P.mod (no (by omega))
    have C5 := B5.keep P.mod (no (by omega))
    rw [hs]
    obtain ⟨i0, hi⟩ := PSt.is_iff.1 hs
    have hl : l = (l.toNat : Int) := by omega
    have rd : ∀ u, Grow w436 u → CellsAt u ⟨n1, 0, none⟩ 0 [ptrV b, .int .i64 v, .slice cp cs.length cc, .slice gp gl.length gc, .slice dp dl.length dc] := fun u gu =>
      ⟨cell_add (C1.grow gu) rfl, cell_add (C1.grow gu) rfl, cell_add (C1.grow gu) rfl, cell_add (C1.grow gu) rfl, cell_add (C1.grow gu) rfl, trivial⟩
    refine cnd_f rfl (cnd_t rfl ⟨Grow w436, (Mod.refl w436).drew, _, _, _, _, _, _, _, _, _, _, _, rd, _, _, _, _, _, _, _, _, _, _, _, rd, _, fun u hu => cell_add (C3.grow hu) rfl, ?_⟩)
    rw [hl]
    have h' := h.ext (P.pre G) g (.refl s)
    refine (reason6_ok h'.drew hR hi).mono ?_
    rintro e w461 ⟨rfl, g461⟩
    have g461 := ((Mod.refl w436).drew : Grow w436 w436.drew).trans g461
    refine ⟨_, rfl, g461, ?_⟩
    refine store_i (C5.grow g461) rfl rfl fun w463 D5 m463 => ?_
    have Pf := ((P.pre G).grow g461).side m463 fun k hk => ⟨by omega, P.old h.pm (by omega) (by omega)⟩
    exact ⟨_, _, _, _, _, _, _, _, _, _, _, ⟨cell_add D5 rfl, cell_add D5 rfl, cell_add D5 rfl, cell_add D5 rfl, cell_add D5 rfl, trivial⟩,
      cp, gp, dp, cc, gc, dc, _, cs, gl, dl, H', s, rfl, h.ext Pf g (.refl s), hdc, Pf, fun k hk => .inl (.inl hk), by show s.nc ≤ _; omega, rfl⟩
  · have C1 := B1.keep P.mod (no (by omega))
    have C3 := B3.keep P.mod (no (by omega))
    have C5 := B5.keep P.mod (no (by omega))
    rw [hs]
    obtain ⟨i0, hi⟩ := PSt.is_iff.1 hs
    have hl : l = (l.toNat : Int) := by omega
    refine cnd_f rfl (cnd_f rfl (cnd_f rfl ?_))
    intro n480 w481 h481
    have P' := P.pre G
    obtain ⟨a1, a2, a3, a4, a5, a6⟩ := h.apart P'
    have z436 := P.mod.size
    have zn := h481.num
    have hcb := h.cb
    refine ⟨_, _, _, cell_add (C1.grow h481.mod) rfl, ?_⟩
    refine (New.empty (f := Value.bool) h481).appV sl_bool6 (a2.grow h481.mod) rfl rfl oneBool (by simp; omega) fun w483 p483 c483 o483 m483 hp483 hs483 => ?_
    rw [List.nil_append] at o483 ⊢
    have f483 : ∀ k, blk p483 = some k → w436.heap.size ≤ k := fun k hk => by
      rcases hp483 with rfl | rfl
      · have := blk_some hk; omega
      · have := blk_some hk; have := h481.size; omega
    have all483 : Mod (fun _ => False) w436 w483 := h481.mod.then m483 fun k hk e => by have := blk_some e; omega
    refine store_f (C1.grow all483) rfl rfl fun w485 D1 m485 => ?_
    have D3 := (C3.grow all483).keep m485 (by omega)
    have D5 := (C5.grow all483).keep m485 (by omega)
    have o485 := o483.keep m485 fun k hk e => by have := f483 k hk; omega
    have hi1 := hi.1
    refine ⟨_, _, _, cell_add D1 rfl, _, cell_add D3 rfl, o485.st true rfl rfl i0 rfl (by omega) fun w489 o489 m489 => ?_⟩
    have E1 := D1.keep m489 fun e => by have := f483 _ e; omega
    have E5 := D5.keep m489 fun e => by have := f483 _ e; omega
    refine ret5 E1 E5 rfl fun w495 m495 => ?_
    have all : Mod (fun k => k = n1) w436 w489 := ((all483.mono fun _ _ e => e.elim : Mod (fun k => k = n1) _ _).trans m485).then m489 fun k hk e => by have := f483 _ e; omega
    have Pf := (P'.side all fun k hk => ⟨by omega, P.old h.pm (by omega) (by omega)⟩).side m495 fun k hk => ⟨by omega, P.old h.pm (by omega) (by omega)⟩
    have o495 := o489.keep m495 fun k hk e => by have := f483 k hk; omega
    have hg' := drop_good g hi fun x hx e => hR ⟨x, hx, e⟩
    obtain ⟨u1, u2, u3, u4⟩ := unF_vars l.toNat ((s.R (.l l.toNat)).take 2) s
    have enc : (s.drop l.toNat).nc = s.nc := u2
    refine ⟨cp, p483, dp, cc, c483, dc, _, cs, gl.set l.toNat true, dl, H', s.drop l.toNat, ?_, h.drop Pf hg' hi o495.vw fun k hk x e => ?_, hdc, Pf, fun k hk => ?_, by show (s.drop l.toNat).nc ≤ _; omega, u1⟩
    · simp
    · have := f483 k hk
      have := P.pm.lt x k e
      omega
    · rcases hk with hk | ⟨_, hk⟩ | hk
      · exact .inl (.inl (.inl hk))
      · have := f483 k hk; exact .inr (by omega)
      · exact .inl (.inl (.inr (.inr hk)))

theorem actX_ok (h : WD w b H s cp hs cs gp gl dp dl) (hcn : cn = cs.length) (hgn : gn = gl.length) (hdn : dn = dl.length) (hdc : dl.length ≤ dc) {d : Int} (l : Int) (h0 : d ≠ 0) (h1 : d ≠ 1) (h2 : d ≠ 2) (h3 : d ≠ 3) (h4 : d ≠ 4) :
    Calls Try.prog fathomlaw06_act.id #[.agg #[ptrV b, .int .i64 v, .slice cp cn cc, .slice gp gn gc, .slice dp dn dc], .agg #[.int .i64 d, .int .i64 l, .slice ap an ac]] w fun e w' =>
      AP w w' b H v e (fun k => Ft cp hs gp gl dp dl k ∨ (0 < an ∧ blk ap = some k)) fun s' cs' gl' dl' => s'.nc ≤ s.nc + 1 ∧ s'.vars = s.vars := by
  subst hcn hgn hdn
  have g := h.g
  refine fathomlaw06_act.calls ?_
  intro n1 w2 k2 n3 w4 k4 n5 w6 k6
  have e1 := k2.num; have e3 := k4.num; have e5 := k6.num
  have z1 := k2.size; have z3 := k4.size; have z5 := k6.size
  have G := (k2.mod.trans k4.mod).trans k6.mod
  have B1 := (k2.has.grow k4.mod).grow k6.mod
  have B3 := k4.has.grow k6.mod
  have B5 := k6.has
  refine ⟨_, cell_add B3 rfl, cnd_f (by simpa using h0) (cnd_f (by simpa using h1) (cnd_f (by simpa using h2) (cnd_f (by simpa using h3) (cnd_f (by simpa using h4) ?_))))⟩
  refine ret5 B1 B5 rfl fun w495 m495 => ?_
  have P : Pw w w6 b H H s := Pw.refl (h.pm.grow G) G
  have Pf := P.side m495 fun k hk => ⟨by omega, fun x e => by have := h.pm.lt x k e; omega⟩
  exact ⟨cp, gp, dp, cc, gc, dc, _, cs, gl, dl, H, s, rfl, h.ext Pf g (.refl s), hdc, Pf, fun k hk => .inl (.inl hk), by show s.nc ≤ _; omega, rfl⟩

theorem AP.mono {e : Ending} {Fo : Nat → Prop} {Q Q' : PSt → List (List Int) → List Bool → List Int → Prop} (h : AP w w' b H v e Fo Q) (hq : ∀ s' cs' gl' dl', s'.nc = cs'.length → Q s' cs' gl' dl' → Q' s' cs' gl' dl') : AP w w' b H v e Fo Q' := by
  obtain ⟨cp', gp', dp', cc', gc', dc', hs', cs', gl', dl', H', s', h1, h2, h3, h4, h6, h5⟩ := h
  exact ⟨cp', gp', dp', cc', gc', dc', hs', cs', gl', dl', H', s', h1, h2, h3, h4, h6, hq _ _ _ _ h2.cn.symm h5⟩

/-- Any act leaves a propagator and what the document has of it, and tells that all is as it must be. -/
theorem act_ok (h : WD w b H s cp hs cs gp gl dp dl) (hv : v = s.vars) (hcn : cn = cs.length) (hgn : gn = gl.length) (hdn : dn = dl.length) (hdc : dl.length ≤ dc) (hnc : s.nc < 1000) (d l : Int)
    (hC : Vw (Value.int .i64) w ap c) (han : an = c.length) (ham : an ≤ maxLen) (hF : 0 < an → ∀ k, blk ap = some k → ∀ x, own b H x ≠ some k) :
    Calls Try.prog fathomlaw06_act.id #[.agg #[ptrV b, .int .i64 v, .slice cp cn cc, .slice gp gn gc, .slice dp dn dc], .agg #[.int .i64 d, .int .i64 l, .slice ap an ac]] w fun e w' =>
      AP w w' b H v e (fun k => Ft cp hs gp gl dp dl k ∨ (0 < an ∧ blk ap = some k)) fun s' _ _ _ => s'.nc ≤ s.nc + 1 ∧ s'.vars = s.vars := by
  have hcl := h.cn
  by_cases h0 : d = 0
  · subst h0
    refine (act0_ok h hv hcn hgn hdn hdc l).mono fun e w' hA => hA.mono fun s' cs' _ _ hn hq => ⟨by rw [hq.1] at hn; omega, ?_⟩
    rcases hq.2.2 with ⟨_, _, e, _⟩ | ⟨_, e, _⟩
    · rw [e]; exact (decide_same l).1
    · rw [e]
  by_cases h1 : d = 1
  · subst h1
    exact (act1_ok h hcn hgn hdn hdc l).mono fun e w' hA => hA.mono fun s' cs' _ _ hn hq => ⟨by rw [hq.1] at hn; omega, hq.2.2.2.v⟩
  by_cases h2 : d = 2
  · subst h2
    exact (act2_ok h hcn hgn hdn hdc l).mono fun e w' hA => hA.mono fun s' cs' _ _ hn hq => ⟨by rw [hq.1] at hn; omega, hq.2.2⟩
  by_cases h3 : d = 3
  · subst h3
    exact act3_ok h hv hcn hgn hdn hdc hnc l hC han ham hF
  by_cases h4 : d = 4
  · subst h4
    exact act4_ok h hcn hgn hdn hdc l
  exact actX_ok h hcn hgn hdn hdc l h0 h1 h2 h3 h4

end Go.Proofs.Ytdaiolinnpligaa.W
