/- Layer 6: the law's own functions: a propagator to begin with; the small example. -/
import Derived.Test.YtdaiolinnpligaaPropF
import Derived.Test.YtdaiolinnpligaaFwRead
import Derived.Test.YtdaiolinnpligaaLitB
namespace Go.Proofs.Ytdaiolinnpligaa.W
open Go Go.Fw Go.RowKit Go.SoP Go.LiP
variable {w w' w0 w2 w3 : World} {b : Nat} {H H' H2 : Pt → Sl} {s t u s' T : PSt} {cp gp dp ap : Option Addr} {hs : List Sl} {cs : List (List Int)} {gl : List Bool} {dl c : List Int} {cn cc gn gc dn dc an ac : Nat} {v : Int}

theorem new_val {k : Nat} (g : Good s) (d : Newd k cs s) {l : Int} (h : InV s.vars l) : s.val l = 0 := by
  rw [g.v0 h, d.tr]; simp
theorem new_cls {k : Nat} (d : Newd k cs s) {c : List Int} : s.cls c ↔ c ∈ cs := by
  unfold PSt.cls
  constructor
  · rintro ⟨i, hi, rfl⟩
    have h1 := hi.1
    rw [d.n] at h1
    rw [d.a i h1]
    simp [List.getD, h1]
  · intro h
    obtain ⟨i, hi, e⟩ := List.mem_iff_getElem.1 h
    exact ⟨i, ⟨by rw [d.n]; exact hi, d.g i hi⟩, by rw [d.a i hi]; simp [List.getD, hi, e]⟩

theorem cls_decide {l : Int} {c : List Int} : (s.decide l).cls c ↔ s.cls c := by
  obtain ⟨s1, s2, s3, s4⟩ := decide_same (s := s) l
  unfold PSt.cls PSt.There
  rw [s2, s3]
  refine exists_congr fun i => and_congr Iff.rfl ?_
  rw [s4]
theorem Ext.cls (x : Ext s s') {c : List Int} : s'.cls c ↔ s.cls c := by
  unfold PSt.cls
  refine exists_congr fun i => and_congr x.there ?_
  rw [x.a]

/-- Of the small example: what a run leaves. -/
theorem awake_told (g : Good s) {r : Int} (ht : Told s r) (hv : s.vars = 3) (hc : ∀ c, s.cls c ↔ c ∈ ([[-1, 2], [-2, 3]] : List (List Int))) (hd : s.dec = [1]) (ha : s.R (.a 0) = [-1, 2] ∧ s.R (.a 1) = [-2, 3] ∧ s.nc = 2) :
    r = -1 ∧ (s.R .tr).length = 3 ∧ s.value 3 = 1 ∧ s.reason 2 = 0 := by
  have pos : ∀ x ∈ s.R .tr, 0 < x := g.trail_all (fun x hx => by rw [hd] at hx; simp at hx; omega) fun c hcc l hl hy _ => by
    rw [hc] at hcc
    simp only [List.mem_cons, List.not_mem_nil, or_false] at hcc
    rcases hcc with rfl | rfl
    · simp only [List.mem_cons, List.not_mem_nil, or_false] at hl
      rcases hl with rfl | rfl
      · have := hy 2 (by simp) (by omega); omega
      · omega
    · simp only [List.mem_cons, List.not_mem_nil, or_false] at hl
      rcases hl with rfl | rfl
      · have := hy 3 (by simp) (by omega); omega
      · omega
  have c1 : s.cls [-1, 2] := (hc _).2 (by simp)
  have c2 : s.cls [-2, 3] := (hc _).2 (by simp)
  rcases ht with ⟨e, hC⟩ | ⟨i, e, hB⟩
  · have t1 : (1 : Int) ∈ s.R .tr := g.dec_mem 1 (by rw [hd]; simp)
    have n1 : (-1 : Int) ∉ s.R .tr := fun e => by have := pos _ e; omega
    have n2 : (-2 : Int) ∉ s.R .tr := fun e => by have := pos _ e; omega
    have t2 : (2 : Int) ∈ s.R .tr := by
      rcases hC.cl g c1 with ⟨x, hx, hxt⟩ | ⟨x, hx, y, hy, hne, x1, x2, y1, y2⟩
      · simp only [List.mem_cons, List.not_mem_nil, or_false] at hx
        rcases hx with rfl | rfl
        · exact absurd hxt n1
        · exact hxt
      · simp only [List.mem_cons, List.not_mem_nil, or_false] at hx hy
        rcases hx with rfl | rfl
        · exact absurd t1 x2
        · rcases hy with rfl | rfl
          · exact absurd t1 y2
          · exact absurd rfl hne
    have t3 : (3 : Int) ∈ s.R .tr := by
      rcases hC.cl g c2 with ⟨x, hx, hxt⟩ | ⟨x, hx, y, hy, hne, x1, x2, y1, y2⟩
      · simp only [List.mem_cons, List.not_mem_nil, or_false] at hx
        rcases hx with rfl | rfl
        · exact absurd hxt n2
        · exact hxt
      · simp only [List.mem_cons, List.not_mem_nil, or_false] at hx hy
        rcases hx with rfl | rfl
        · exact absurd t2 x2
        · rcases hy with rfl | rfl
          · exact absurd t2 y2
          · exact absurd rfl hne
    have hls : Ls 3 [1, 2, 3] := ⟨fun x hx => by simp at hx; unfold InV; omega, by decide⟩
    have hlen := ls_len g.ls hls (fun x hx => by
      have h1 := pos x hx
      have h2 := (g.tv x hx).2.2
      rw [hv] at h2
      simp only [List.mem_cons, List.not_mem_nil, or_false]
      omega) (fun x hx => by
      simp only [List.mem_cons, List.not_mem_nil, or_false] at hx
      rcases hx with rfl | rfl | rfl
      · exact t1
      · exact t2
      · exact t3)
    refine ⟨e, by simpa using hlen, ?_, ?_⟩
    · obtain ⟨p, hp, ep⟩ := List.mem_iff_getElem.1 t3
      have ep : (s.R .tr).getD p 0 = 3 := by simp [List.getD, hp, ep]
      have := (g.tr_val hp).1
      rwa [ep] at this
    · obtain ⟨p, hp, ep⟩ := List.mem_iff_getElem.1 t2
      have ep : (s.R .tr).getD p 0 = 2 := by simp [List.getD, hp, ep]
      have h5 := (g.tr_val hp).2.2.2.2
      rw [ep] at h5
      have hnb : (p : Int) ∉ s.R .be := fun e => by
        have := dec_at e
        rw [hd, ep] at this
        simp at this
      obtain ⟨i, r1, r2, r3, r4⟩ := g.re2 p hp hnb
      rw [ep] at r1 r3 r4
      rw [h5, r1]
      have hi := r2.1
      rw [ha.2.2] at hi
      have : i ≠ 1 := fun e => by
        subst e
        have := (g.ca 1 r2 2).1 r3
        rw [ha.2.1] at this
        simp at this
      omega
  · exfalso
    have := (hc (s.R (.a i))).1 ⟨i, hB.1, rfl⟩
    simp only [List.mem_cons, List.not_mem_nil, or_false] at this
    rcases this with e2 | e2
    · have := pos _ (hB.2 2 (by rw [e2]; simp)); omega
    · have := pos _ (hB.2 3 (by rw [e2]; simp)); omega

theorem dec_nil {k : Nat} (d : Newd k cs s) : s.dec = [] := by unfold PSt.dec; rw [d.be]; rfl

theorem V2.two {w : World} {n1 n3 n5 : Nat} {x1 x2 y1 y2 : Int} (h1 : Has w n1 #[.int .i64 x1, .int .i64 x2]) (h3 : Has w n3 #[.int .i64 y1, .int .i64 y2]) (h5 : Has w n5 #[.slice (some ⟨n1, 0, none⟩) 2 2, .slice (some ⟨n3, 0, none⟩) 2 2]) :
    V2 (Value.int .i64) w (some ⟨n5, 0, none⟩) [⟨some ⟨n1, 0, none⟩, 2, 2⟩, ⟨some ⟨n3, 0, none⟩, 2, 2⟩] [[x1, x2], [y1, y2]] := by
  refine ⟨fun j hj => ?_, rfl, fun j hj => ?_⟩
  · have hj : j = 0 ∨ j = 1 := by simp at hj; omega
    rcases hj with rfl | rfl
    · exact ⟨_, rfl, cell_add h5 rfl⟩
    · exact ⟨_, rfl, cell_add h5 rfl⟩
  · have hj : j = 0 ∨ j = 1 := by simp at hj; omega
    rcases hj with rfl | rfl
    · refine ⟨rfl, by show 2 ≤ maxLen; unfold maxLen; omega, fun i hi => ?_⟩
      have hi : i = 0 ∨ i = 1 := by simp at hi; omega
      rcases hi with rfl | rfl
      · exact ⟨_, rfl, cell_add h1 rfl⟩
      · exact ⟨_, rfl, cell_add h1 rfl⟩
    · refine ⟨rfl, by show 2 ≤ maxLen; unfold maxLen; omega, fun i hi => ?_⟩
      have hi : i = 0 ∨ i = 1 := by simp at hi; omega
      rcases hi with rfl | rfl
      · exact ⟨_, rfl, cell_add h3 rfl⟩
      · exact ⟨_, rfl, cell_add h3 rfl⟩

theorem awake6 (w : World) : Calls Try.prog fathomlaw06_awake.id #[] w fun e w' => e = .returned (.bool true) ∧ Grow w w' := by
  refine fathomlaw06_awake.calls ?_
  intro n1 w2 h2 n3 w4 h4 n5 w6 h6
  have G := (h2.mod.trans h4.mod).trans h6.mod
  have hc := V2.two ((h2.has.grow h4.mod).grow h6.mod) (h4.has.grow h6.mod) h6.has
  refine (new_ok (k := 3) hc rfl).mono ?_
  rintro e w7 (⟨hf, _⟩ | ⟨_, b, s, H, rfl, pm, g, d, g7, fr⟩)
  · exact absurd hf (by decide)
  have hv : s.vars = 3 := d.v
  have hi1 : InV s.vars 1 := by rw [hv]; unfold InV; omega
  refine ⟨_, _, rfl, cnd_f rfl (cnd_f rfl ((decide_ok pm g 1).mono ?_))⟩
  have G7 := G.trans g7
  have young : ∀ {H' : Pt → Sl} {s' : PSt} {u : World}, Pw w7 u b H H' s' → Grow w u := fun P => G7.then P.mod fun k hk ⟨x, e⟩ => by have := fr x k e; have := G.size; omega
  rintro e w10 ⟨r, rfl, H', hd⟩
  obtain ⟨rfl, P⟩ : r = 0 ∧ Pw w7 w10 b H H' (s.decide 1) := hd.elim (fun h => ⟨h.1, h.2.2.2⟩) fun h => absurd ⟨hi1, new_val g d hi1⟩ h.2.1
  have g2 := decide_good g hi1 (new_val g d hi1)
  refine ⟨_, rfl, cnd_f rfl ((run_ok P.pm g2).mono ?_)⟩
  rintro e w12 ⟨r, rfl, s2, H2, P2, g3, x, ht⟩
  have hdec : s2.dec = [1] := by rw [dec_ext g2 x, dec_decide g, dec_nil d]; rfl
  obtain ⟨q1, q2, q3, q4⟩ := decide_same (s := s) 1
  obtain ⟨rfl, a2, a3, a4⟩ := awake_told g3 ht (by rw [x.v, q1]; exact hv) (fun c => by rw [x.cls, cls_decide, new_cls d]) hdec
    ⟨by rw [x.a, q4, d.a 0 (by decide)]; rfl, by rw [x.a, q4, d.a 1 (by decide)]; rfl, by rw [x.n, q2, d.n]; rfl⟩
  have PP := P.trans P2
  have k3 := g3.wf
  refine ⟨_, rfl, cnd_t rfl ((trail_ok P2.pm (by rw [a2]; omega)).mono ?_)⟩
  rintro e w14 ⟨q, dd, rfl, o14, g14, f14⟩
  refine ⟨_, _, _, rfl, cnd_t (by rw [a2]; rfl) ((value_ok (P2.pm.grow g14) k3 3).mono ?_)⟩
  rintro e w16 ⟨rfl, g16⟩
  refine ⟨_, rfl, cnd_t (by rw [a3]; rfl) ((reason_ok (P2.pm.grow (g14.trans g16)) k3 2).mono ?_)⟩
  rintro e w18 ⟨rfl, g18⟩
  exact ⟨_, rfl, by rw [a4]; rfl, (young PP).trans (g14.trans (g16.trans g18))⟩

theorem awk6 {w0 : World} (g : Grow w0 w) : Calls Try.prog fathomlaw06_awake.id #[] w fun e w' => ∃ r : Bool, e = .returned (.bool r) ∧ Ending.returned (.bool r) = .returned (.bool true) ∧ Grow w0 w' :=
  (awake6 w).mono fun e w' ⟨he, hg⟩ => ⟨true, he, rfl, g.trans hg⟩

theorem bool_zero6 : (Try.prog.info? ty_bool).bind (·.zero) = some (.bool false) := by kernel_rfl

theorem begin6_ok {k : Int} {q : Option Addr} {m d : Nat} (hc : V2 (Value.int .i64) w q hs cs) (hm : m = cs.length) (hcn : cnfB k cs = true) (hk : k ≤ 60) (hl : cs.length ≤ 1000) :
    Calls Try.prog fathomlaw06_Begin.id #[.agg #[.int .i64 k, .slice q m d]] w fun e w' => ∃ (b : Nat) (s : PSt) (H : Pt → Sl) (gp : Option Addr) (gc : Nat),
      e = .returned (.tuple #[.agg #[ptrV b, .int .i64 k, .slice q cs.length d, .slice gp cs.length gc, .slice none 0 0], .bool true]) ∧ k = s.vars ∧
      WD w' b H s q hs cs gp (List.replicate cs.length false) none [] ∧ Newd k.toNat cs s ∧ Grow w w' ∧ (∀ x j, own b H x = some j → w.heap.size ≤ j) ∧ ∀ j, blk gp = some j → w.heap.size ≤ j := by
  refine fathomlaw06_Begin.calls ?_
  intro n1 w2 h2 n3 w4 h4
  have e1 := h2.num; have e3 := h4.num
  have z1 := h2.size; have z3 := h4.size
  have G := h2.mod.trans h4.mod
  have B1 := h2.has.grow h4.mod
  have B3 := h4.has
  refine ⟨_, _, _, _, ⟨cell_add B1 rfl, cell_add B1 rfl, trivial⟩, (new_ok (hc.grow G) hm).mono ?_⟩
  rintro e w7 (⟨hf, _⟩ | ⟨_, b, s, H, rfl, pm, g, nd, g7, fr⟩)
  · rw [hf] at hcn; cases hcn
  have hk0 : 0 ≤ k := by
    unfold cnfB at hcn
    simp only [Bool.and_eq_true, decide_eq_true_eq] at hcn
    exact hcn.1.1
  have G7 := G.trans g7
  refine ⟨_, _, rfl, Grow w7, (Mod.refl w7).drew, _, fun u hu => cell_add ((B1.grow g7).grow hu) rfl, _, _, _, fun u hu => cell_add ((B1.grow g7).grow hu) rfl, _, _, _, fun u hu => cell_add ((B1.grow g7).grow hu) rfl, ?_⟩
  subst hm
  have mk : ∀ {K : World → Option Addr → Nat → Nat → Prop}, (∀ u gp gc, Vw Value.bool u gp (List.replicate cs.length false) → Grow w7 u → (∀ j, blk gp = some j → w7.heap.size ≤ j) → K u gp cs.length gc) →
      ∃ w14 : World, ∃ r15_p : Option Addr, ∃ r15_n : Nat, ∃ r15_c : Nat, (Instr.makeSlice 30 (.int .i64 (cs.length : Int)) (.int .i64 (cs.length : Int))).run Try.prog w7.drew = .ok (.slice r15_p r15_n r15_c) w14 ∧ K w14 r15_p r15_n r15_c := by
    intro K hK
    refine make_i (f := Value.bool) (x := false) sl_bool6 bool_zero6 rfl cs.length rfl (by omega) fun u o m hs => hK u _ _ o.vw ((Mod.refl w7).drew.trans m) fun j hj => ?_
    have := blk_some hj
    have : w7.drew.heap.size = w7.heap.size := rfl
    omega
  refine mk fun u gp gc gv gu gf => ⟨gu, cnd_t rfl ?_⟩
  refine store_i ((B3.grow g7).grow gu) rfl rfl fun w16 D3 m16 => ?_
  refine ⟨_, _, _, _, _, _, _, _, _, _, _, ⟨cell_add D3 rfl, cell_add D3 rfl, cell_add D3 rfl, cell_add D3 rfl, cell_add D3 rfl, trivial⟩, ?_⟩
  have Gf : Grow w w16 := (G7.trans gu).then m16 fun x hx e => by omega
  have pf : PM w16 b H s := (pm.grow gu).keep m16 fun x j hj e => by have := fr x j hj; omega
  have z7 := g7.size
  have hv : s.vars = k.toNat := nd.v
  refine ⟨b, s, H, gp, gc, rfl, by rw [hv]; omega, ⟨pf, g, hc.grow Gf, gv.keep m16 fun j hj e => by have := gf j hj; omega, Vw.nil, nd.n.symm, by rw [nd.n]; simp, fun i hi => ?_, fun i hi => ?_, (dec_nil nd).symm, fun j hj x e => ?_, fun j _ hj x e => ?_, fun j h0 => absurd rfl h0, by rw [nd.n]; exact hl, by omega⟩, nd, Gf, fun x j hj => by have := fr x j hj; omega, fun j hj => by have := gf j hj; omega⟩
  · rw [nd.n] at hi
    rw [nd.g i hi]; simp [List.getD, hi]
  · have := hi.1
    rw [nd.n] at this
    exact (nd.a i this).symm
  · have := hc.ltN j hj; have := fr x j e; omega
  · have := gf j hj; have := pm.lt x j e; omega

end Go.Proofs.Ytdaiolinnpligaa.W
/- Layer 6: the statement PropRuns. -/
namespace Go.Proofs.Ytdaiolinnpligaa.W
open Go Go.Fw Go.RowKit Go.SoP Go.LiP
variable {w w' w0 w2 w3 : World} {b : Nat} {H H' H2 : Pt → Sl} {s t u s' T : PSt} {p cp gp dp ap : Option Addr} {hs : List Sl} {cs : List (List Int)} {gl : List Bool} {dl c : List Int} {cn cc gn gc dn dc an ac : Nat} {v : Int}

/-- An act. -/
structure Ak where
  d : Int
  l : Int
  c : List Int
def ak0 : Ak := ⟨0, 0, []⟩
/-- Acts that stand from an address on. -/
def AV (w : World) (p : Option Addr) (al : List Ak) : Prop := ∀ i, i < al.length → ∃ (a : Addr) (s : Sl), p = some a ∧ CellsAt w (a.add (i * 3)) 0 [.int .i64 (al.getD i ak0).d, .int .i64 (al.getD i ak0).l, .slice s.p s.n s.c] ∧
  s.n = (al.getD i ak0).c.length ∧ s.n ≤ maxLen ∧ Vw (Value.int .i64) w s.p (al.getD i ak0).c
theorem AV.grow {al : List Ak} (h : AV w p al) (g : Grow w w') : AV w' p al := by
  intro i hi
  obtain ⟨a, s, rfl, hc, h1, h2, h3⟩ := h i hi
  exact ⟨a, s, rfl, CellsAt.keep g id hc, h1, h2, h3.grow g⟩
theorem AV.ix {al : List Ak} (h : AV w p al) {i n : Nat} (hn : n = al.length) (hi : i < al.length) {K : Addr → Prop}
    (hk : ∀ a (s : Sl), CellsAt w a 0 [.int .i64 (al.getD i ak0).d, .int .i64 (al.getD i ak0).l, .slice s.p s.n s.c] → s.n = (al.getD i ak0).c.length → s.n ≤ maxLen → Vw (Value.int .i64) w s.p (al.getD i ak0).c → K a) : ixK p n (i : Int) 3 K := by
  subst hn
  obtain ⟨a, s, rfl, hc, h1, h2, h3⟩ := h i hi
  refine ⟨a, rfl, by omega, by omega, hk _ s ?_ h1 h2 h3⟩
  rw [Int.toNat_natCast]; exact hc

theorem AV.ixG {al : List Ak} (h : AV w p al) (g : Grow w w') {i n : Nat} (hn : n = al.length) (hi : i < al.length) {K : Addr → Prop}
    (hk : ∀ a (s : Sl), CellsAt w' a 0 [.int .i64 (al.getD i ak0).d, .int .i64 (al.getD i ak0).l, .slice s.p s.n s.c] → s.n = (al.getD i ak0).c.length → s.n ≤ maxLen → Vw (Value.int .i64) w' s.p (al.getD i ak0).c → (0 < s.n → ∀ k, blk s.p = some k → k < w.heap.size) → K a) : ixK p n (i : Int) 3 K := by
  subst hn
  obtain ⟨a, s, rfl, hc, h1, h2, h3⟩ := h i hi
  refine ⟨a, rfl, by omega, by omega, hk _ s ?_ h1 h2 (h3.grow g) fun h0 k hk => h3.lt (fun e => by rw [e] at h1; simp at h1; omega) k hk⟩
  rw [Int.toNat_natCast]; exact CellsAt.keep g id hc

theorem ak_of_rd {cs : List Value} (h : Rd w (.cons (.int .i64) (.cons (.int .i64) (.cons (.sl (.int .i64)) .nil))) cs) : ∃ (x : Ak) (s : Sl), cs = [.int .i64 x.d, .int .i64 x.l, .slice s.p s.n s.c] ∧ s.n = x.c.length ∧ s.n ≤ maxLen ∧ Vw (Value.int .i64) w s.p x.c := by
  obtain ⟨_, _, rfl, ⟨a, rfl, _⟩, _, _, rfl, ⟨b, rfl, hb⟩, ws, _, rfl, hc, rfl⟩ := h
  have hc' : ∃ u, ws = [u] ∧ RdV w (.sl (.int .i64)) u := by
    rcases hc with rfl | ⟨a', len', cap', rfl, g⟩
    · exact ⟨_, rfl, .inl rfl⟩
    · exact ⟨_, rfl, .inr ⟨a', len', cap', rfl, g⟩⟩
  obtain ⟨u, rfl, hu⟩ := hc'
  obtain ⟨p, n, c, l, rfl, h1, h2, h3, h4⟩ := ints_of_rd' hu
  exact ⟨⟨a, b, l⟩, ⟨p, n, c⟩, rfl, h1, Nat.le_trans h2 h3, h4⟩
theorem acts_of_rd {v : Value} (h : RdV w (.sl (.cons (.int .i64) (.cons (.int .i64) (.cons (.sl (.int .i64)) .nil)))) v) : ∃ p n c al, v = .slice p n c ∧ n = al.length ∧ n ≤ maxLen ∧ AV w p al := by
  rcases h with rfl | ⟨a, len, cap, rfl, h1, h2, h3⟩
  · exact ⟨none, 0, 0, [], rfl, rfl, Nat.zero_le _, fun i hi => by simp at hi⟩
  · have : ∀ i, ∃ x : Ak, i < len → ∃ s : Sl, CellsAt w (a.add (i * 3)) 0 [.int .i64 x.d, .int .i64 x.l, .slice s.p s.n s.c] ∧ s.n = x.c.length ∧ s.n ≤ maxLen ∧ Vw (Value.int .i64) w s.p x.c := by
      intro i
      by_cases hi : i < len
      · obtain ⟨es, _, hc, hr⟩ := h3 i hi
        obtain ⟨x, s, rfl, hx⟩ := ak_of_rd hr
        exact ⟨x, fun _ => ⟨s, hc, hx⟩⟩
      · exact ⟨ak0, fun h => absurd h hi⟩
    have en : ∀ i, i < len → ((List.range len).map fun i => Classical.choose (this i)).getD i ak0 = Classical.choose (this i) := fun i hi => by simp [List.getD, hi]
    refine ⟨some a, len, cap, (List.range len).map fun i => Classical.choose (this i), rfl, by simp, Nat.le_trans h1 h2, fun i hi => ?_⟩
    have hi' : i < len := by simpa using hi
    rw [en i hi']
    obtain ⟨s, h1, h2, h3, h4⟩ := Classical.choose_spec (this i) hi'
    exact ⟨a, s, rfl, h1, h2, h3, h4⟩

theorem light6_ok {al : List Ak} (h : AV w p al) {n c : Nat} (hn : n = al.length) : Calls Try.prog fathomlaw06_light.id #[.slice p n c] w fun e w' => ∃ r : Bool, e = .returned (.bool r) ∧ Grow w w' := by
  subst hn
  refine fathomlaw06_light.calls ⟨fun I u z => ∃ i : Nat, I = i ∧ z = 41 - i ∧ i ≤ 40 ∧ Grow w u, ⟨_, 0, rfl, rfl, by omega, Mod.refl w⟩, ?_⟩
  rintro I u z _ ⟨i, rfl, rfl, hi, g⟩
  refine cnd_i (fun r => cnd_i (fun r2 => ?_) (fun _ => ⟨true, rfl, g⟩)) (fun _ => ⟨true, rfl, g⟩)
  have r : i < al.length := by simpa using r
  have r2 : i < 40 := by simp at r2; omega
  refine (h.grow g).ix rfl r fun a s hc h1 h2 h3 => ⟨_, _, _, CellsAt.get hc 2 _ rfl, cnd_i (fun _ => ⟨false, rfl, g⟩) (fun _ => ⟨_, ?_, i + 1, wN (by omega) (by omega), rfl, by omega, g⟩)⟩
  omega

/-- A box with a propagator, and what the document has of it, that are younger than a world. -/
structure Bx (W u : World) (n b : Nat) (v : Int) (H : Pt → Sl) (s : PSt) (cp : Option Addr) (cc : Nat) (hs : List Sl) (cs : List (List Int)) (gp : Option Addr) (gc : Nat) (gl : List Bool) (dp : Option Addr) (dc : Nat) (dl : List Int) : Prop where
  wd : WD u b H s cp hs cs gp gl dp dl
  cap : dl.length ≤ dc
  ve : v = s.vars
  bx : Has u n #[ptrV b, .int .i64 v, .slice cp cs.length cc, .slice gp gl.length gc, .slice dp dl.length dc]
  nw : ∀ x, own b H x ≠ some n
  nf : ¬ Ft cp hs gp gl dp dl n
  ow : ∀ x k, own b H x = some k → W.heap.size ≤ k
  wn : W.heap.size ≤ n
  g : Grow W u

/-- What is put into the box. -/
theorem Bx.put {W : World} {n : Nat} {cs5 : Array Value} (hb : Has w n cs5) (hz : cs5.size = 5) (h : WD w b H s cp hs cs gp gl dp dl) (hdc : dl.length ≤ dc) (hv : v = s.vars) (nw : ∀ x, own b H x ≠ some n) (nf : ¬ Ft cp hs gp gl dp dl n) (ow : ∀ x k, own b H x = some k → W.heap.size ≤ k) (wn : W.heap.size ≤ n) (g : Grow W w)
    {K : World → Prop} (hk : ∀ w', Bx W w' n b v H s cp cc hs cs gp gc gl dp dc dl → Mod (· = n) w w' → K w') :
    ∃ w', StoreAt (Addr.mk n 0 none) 0 [ptrV b, .int .i64 v, .slice cp cs.length cc, .slice gp gl.length gc, .slice dp dl.length dc] w w' ∧ K w' := by
  obtain ⟨x0, x1, x2, x3, x4, rfl⟩ : ∃ x0 x1 x2 x3 x4, cs5 = #[x0, x1, x2, x3, x4] := by
    obtain ⟨l⟩ := cs5
    match l, hz with
    | [x0, x1, x2, x3, x4], _ => exact ⟨x0, x1, x2, x3, x4, rfl⟩
  refine store_i hb rfl rfl fun w' hb' m => hk w' ⟨?_, hdc, hv, hb', nw, nf, ow, wn, g.then m fun k hk e => by omega⟩ m
  exact ⟨h.pm.keep m fun x k hk e => nw x (e ▸ hk), h.g, h.v2.keepN m fun k hk e => nf (e ▸ .inl hk), h.gv.keepN m fun hne k hk e => nf (e ▸ .inr (.inl ⟨hne, hk⟩)), h.dv.keepN m fun hne k hk e => nf (e ▸ .inr (.inr ⟨hne, hk⟩)), h.cn, h.gn, h.gg, h.ca, h.dd, h.f1, h.f2, h.f3, h.cb, h.vb⟩
theorem Bx.grow {W u : World} {n : Nat} (h : Bx W u n b v H s cp cc hs cs gp gc gl dp dc dl) (m : Grow u w') : Bx W w' n b v H s cp cc hs cs gp gc gl dp dc dl :=
  ⟨h.wd.grow m, h.cap, h.ve, h.bx.grow m, h.nw, h.nf, h.ow, h.wn, h.g.trans m⟩

/-- What an act leaves is put into the box. -/
theorem Bx.actP {W u : World} {n : Nat} (h : Bx W u n b v H s cp cc hs cs gp gc gl dp dc dl) (ha : 0 < an → ∀ k, blk ap = some k → k < W.heap.size) {e : Ending} {Q : PSt → List (List Int) → List Bool → List Int → Prop}
    (hA : AP u w' b H v e (fun k => Ft cp hs gp gl dp dl k ∨ (0 < an ∧ blk ap = some k)) Q) {R : Prop}
    (hR : ∀ (cp' gp' dp' : Option Addr) (cc' gc' dc' : Nat) (hs' : List Sl) (cs' : List (List Int)) (gl' : List Bool) (dl' : List Int) (H' : Pt → Sl) (s' : PSt), e = .returned (.tuple #[.agg #[ptrV b, .int .i64 v, .slice cp' cs'.length cc', .slice gp' gl'.length gc', .slice dp' dl'.length dc'], .bool true]) → Q s' cs' gl' dl' → Pw u w' b H H' s' →
      (∀ {K : World → Prop}, (∀ w2, Bx W w2 n b v H' s' cp' cc' hs' cs' gp' gc' gl' dp' dc' dl' → Mod (· = n) w' w2 → K w2) → ∃ w2, StoreAt (Addr.mk n 0 none) 0 [ptrV b, .int .i64 v, .slice cp' cs'.length cc', .slice gp' gl'.length gc', .slice dp' dl'.length dc'] w' w2 ∧ K w2) → R)
    (hQ : ∀ s' cs' gl' dl', Q s' cs' gl' dl' → s'.vars = s.vars) : R := by
  obtain ⟨cp', gp', dp', cc', gc', dc', hs', cs', gl', dl', H', s', h1, h2, h3, P, h5, h6⟩ := hA
  have nlt := h.bx.lt
  have bx' := h.bx.keep P.mod fun ⟨x, e⟩ => h.nw x e
  refine hR cp' gp' dp' cc' gc' dc' hs' cs' gl' dl' H' s' h1 h6 P fun {K} hk => ?_
  refine Bx.put (W := W) (n := n) bx' rfl h2 h3 (h.ve.trans (by rw [hQ _ _ _ _ h6])) (fun x e => ?_) (fun e => ?_) (fun x k hk => ?_) h.wn (h.g.then P.mod fun k hk ⟨x, e⟩ => by have := h.ow x k e; omega) fun w2 B m => hk w2 B m
  · rcases P.ft x n e with ⟨y, e2⟩ | e2
    · exact h.nw y e2
    · omega
  · rcases h5 n e with (e2 | ⟨e2, e3⟩) | e2
    · exact h.nf e2
    · have := ha e2 n e3; have := h.wn; omega
    · omega
  · rcases P.ft x k hk with ⟨y, e2⟩ | e2
    · exact h.ow y k e2
    · have := h.g.size; omega
theorem Bx.act {W u : World} {n : Nat} (h : Bx W u n b v H s cp cc hs cs gp gc gl dp dc dl) (ha : 0 < an → ∀ k, blk ap = some k → k < W.heap.size) {e : Ending} {Q : PSt → List (List Int) → List Bool → List Int → Prop}
    (hA : AP u w' b H v e (fun k => Ft cp hs gp gl dp dl k ∨ (0 < an ∧ blk ap = some k)) Q) {R : Prop}
    (hR : ∀ (cp' gp' dp' : Option Addr) (cc' gc' dc' : Nat) (hs' : List Sl) (cs' : List (List Int)) (gl' : List Bool) (dl' : List Int) (H' : Pt → Sl) (s' : PSt), e = .returned (.tuple #[.agg #[ptrV b, .int .i64 v, .slice cp' cs'.length cc', .slice gp' gl'.length gc', .slice dp' dl'.length dc'], .bool true]) → Q s' cs' gl' dl' →
      (∀ {K : World → Prop}, (∀ w2, Bx W w2 n b v H' s' cp' cc' hs' cs' gp' gc' gl' dp' dc' dl' → K w2) → ∃ w2, StoreAt (Addr.mk n 0 none) 0 [ptrV b, .int .i64 v, .slice cp' cs'.length cc', .slice gp' gl'.length gc', .slice dp' dl'.length dc'] w' w2 ∧ K w2) → R)
    (hQ : ∀ s' cs' gl' dl', Q s' cs' gl' dl' → s'.vars = s.vars) : R :=
  h.actP ha hA (fun a1 a2 a3 a4 a5 a6 a7 a8 a9 a10 a11 a12 he hq _ put => hR a1 a2 a3 a4 a5 a6 a7 a8 a9 a10 a11 a12 he hq fun hk => put fun w2 B _ => hk w2 B) hQ

end Go.Proofs.Ytdaiolinnpligaa.W
/- Layer 6: the statements PropRuns and PropSound. -/
namespace Go.Proofs.Ytdaiolinnpligaa.W
open Go Go.Fw Go.RowKit Go.SoP Go.LiP
variable {w w' w0 w2 w3 : World} {b : Nat} {H H' H2 : Pt → Sl} {s t u s' T : PSt} {p cp gp dp ap : Option Addr} {hs : List Sl} {cs : List (List Int)} {gl : List Bool} {dl c : List Int} {cn cc gn gc dn dc an ac : Nat} {v : Int}

/-- A first box. -/
theorem Bx.first {W w : World} {gc n : Nat} {cc : Nat} (h : WD w b H s cp hs cs gp gl dp dl) (hdc : dl.length ≤ dc) (hv : v = s.vars) (ow : ∀ x k, own b H x = some k → W.heap.size ≤ k) (g : Grow W w) {w1 : World} (hn : New (.cells #[.pointer none, .int .i64 0, .slice none 0 0, .slice none 0 0, .slice none 0 0] 33) w n w1)
    {K : World → Prop} (hk : ∀ w', Bx W w' n b v H s cp cc hs cs gp gc gl dp dc dl → Mod (· = n) w1 w' → K w') :
    ∃ w', StoreAt (Addr.mk n 0 none) 0 [ptrV b, .int .i64 v, .slice cp cs.length cc, .slice gp gl.length gc, .slice dp dl.length dc] w1 w' ∧ K w' := by
  have e := hn.num
  have z := g.size
  refine Bx.put hn.has rfl (h.grow hn.mod) hdc hv (fun x e => by have := h.pm.lt x _ e; omega) (fun hf => ?_) ow (by omega) (g.trans hn.mod) hk
  rcases hf with hf | ⟨hne, hf⟩ | ⟨hne, hf⟩
  · have := h.v2.ltN n hf; omega
  · have := h.gv.lt hne n hf; omega
  · have := h.dv.lt hne n hf; omega

/-- A box is read. -/
theorem Bx.read {W u : World} {n : Nat} (h : Bx W u n b v H s cp cc hs cs gp gc gl dp dc dl) : CellsAt u (Addr.mk n 0 none) 0 [ptrV b, .int .i64 v, .slice cp cs.length cc, .slice gp gl.length gc, .slice dp dl.length dc] :=
  ⟨cell_add h.bx rfl, cell_add h.bx rfl, cell_add h.bx rfl, cell_add h.bx rfl, cell_add h.bx rfl, trivial⟩

/-- A run from a box. -/
theorem Bx.runP {W u : World} {n : Nat} (h : Bx W u n b v H s cp cc hs cs gp gc gl dp dc dl) : Calls Try.prog prop_Prop_Run.id #[ptrV b] u fun e w' => ∃ r : Int, e = .returned (.int .i64 r) ∧ ∃ s' H', Bx W w' n b v H' s' cp cc hs cs gp gc gl dp dc dl ∧ Ext s s' ∧ Told s' r ∧ Pw u w' b H H' s' := by
  refine (run_ok h.wd.pm h.wd.g).mono ?_
  rintro e w' ⟨r, rfl, s', H', P, g', x, ht⟩
  have nlt := h.bx.lt
  refine ⟨r, rfl, s', H', ⟨h.wd.ext P g' x, h.cap, by rw [x.v]; exact h.ve, h.bx.keep P.mod fun ⟨x, e⟩ => h.nw x e, fun x e => ?_, h.nf, fun x k hk => ?_, h.wn, h.g.then P.mod fun k hk ⟨x, e⟩ => by have := h.ow x k e; omega⟩, x, ht, P⟩
  · rcases P.ft x n e with ⟨y, e2⟩ | e2
    · exact h.nw y e2
    · omega
  · rcases P.ft x k hk with ⟨y, e2⟩ | e2
    · exact h.ow y k e2
    · have := h.g.size; omega

theorem Bx.run {W u : World} {n : Nat} (h : Bx W u n b v H s cp cc hs cs gp gc gl dp dc dl) : Calls Try.prog prop_Prop_Run.id #[ptrV b] u fun e w' => ∃ r : Int, e = .returned (.int .i64 r) ∧ ∃ s' H', Bx W w' n b v H' s' cp cc hs cs gp gc gl dp dc dl ∧ Ext s s' ∧ Told s' r :=
  h.runP.mono fun e w' ⟨r, h1, s', H', h2, h3, h4, _⟩ => ⟨r, h1, s', H', h2, h3, h4⟩

theorem PropRuns_calls {W : World} {k : Int} {q : Option Addr} {j d : Nat} {al : List Ak} {n c : Nat} (hc : V2 (Value.int .i64) W q hs cs) (hj : j = cs.length) (ha : AV W p al) (hn : n = al.length) :
    Calls Try.prog fathomlaw06_PropRuns.id #[.agg #[.int .i64 k, .slice q j d], .slice p n c] W fun e W' => e = .returned (.bool true) ∧ Grow W W' := by
  subst hn hj
  refine fathomlaw06_PropRuns.calls ?_
  intro n1 w2 h2
  refine ⟨_, _, _, _, ⟨cell_add h2.has rfl, cell_add h2.has rfl, trivial⟩, (light_ok (hc.grow h2.mod) rfl).mono ?_⟩
  rintro e w5 ⟨r, rfl, g5⟩
  have G5 := h2.mod.trans g5
  have B5 := h2.has.grow g5
  refine ⟨_, rfl, cnd_i (fun _ => awk6 G5) (fun _ => ⟨_, _, _, cell_add B5 rfl, cnd_i (fun _ => awk6 G5) (fun r60 => ⟨_, cell_add B5 rfl, cnd_i (fun _ => awk6 G5) (fun k60 => ?_)⟩)⟩)⟩
  have r60 : cs.length ≤ 60 := by simp at r60; omega
  have k60 : k ≤ 60 := by simpa using k60
  refine (light6_ok (ha.grow G5) rfl).mono ?_
  rintro e w15 ⟨r, rfl, g15⟩
  have G15 := G5.trans g15
  have B15 := B5.grow g15
  refine ⟨_, rfl, cnd_i (fun _ => awk6 G15) (fun _ => ⟨_, _, _, _, ⟨cell_add B15 rfl, cell_add B15 rfl, trivial⟩, (refCnf_ok (hc.grow G15) rfl).mono ?_⟩)⟩
  rintro e w21 ⟨rfl, g21⟩
  have G21 := G15.trans g21
  have B21 := B15.grow g21
  refine ⟨_, rfl, ?_⟩
  cases hcn : cnfB k cs with
  | false =>
    refine cnd_t rfl ⟨_, _, _, _, ⟨cell_add B21 rfl, cell_add B21 rfl, trivial⟩, (new_ok (hc.grow G21) rfl).mono ?_⟩
    rintro e w25 (⟨_, rfl, g25⟩ | ⟨h, _⟩)
    · exact ⟨_, _, rfl, cnd_t rfl (cnd_t rfl (awk6 (G21.trans g25)))⟩
    · rw [hcn] at h; cases h
  | true =>
    refine cnd_f rfl ⟨_, _, _, _, ⟨cell_add B21 rfl, cell_add B21 rfl, trivial⟩, (begin6_ok (hc.grow G21) rfl hcn k60 (by omega)).mono ?_⟩
    rintro e w32 ⟨b, s, H, gp, gc, rfl, hv, wd, nd, g32, ow, gpf⟩
    refine ⟨_, _, _, _, _, _, _, _, _, _, _, _, rfl, ?_⟩
    intro n39 w40 h40
    have hlen : (List.replicate cs.length false).length = cs.length := by simp
    have key := fun K => Bx.first (W := W) (gc := gc) (cc := d) (dc := 0) (v := k) wd (Nat.zero_le _) hv (fun x k hk => by have := ow x k hk; have := G21.size; omega) (G21.trans g32) h40 (K := K)
    rw [hlen] at key
    refine key _ fun w41 B41 m41 => ?_
    refine ⟨fun ok I u z => ∃ i : Nat, I = i ∧ ok = true ∧ i ≤ 40 ∧ z = 41 - i ∧ ∃ (cp gp dp : Option Addr) (cc gc dc : Nat) (hs : List Sl) (cs : List (List Int)) (gl : List Bool) (dl : List Int) (H : Pt → Sl) (s : PSt), Bx W u n39 b k H s cp cc hs cs gp gc gl dp dc dl ∧ s.nc ≤ 60 + i,
      ⟨_, 0, rfl, rfl, by omega, rfl, _, _, _, _, _, _, _, _, _, _, _, _, B41, by rw [nd.n]; omega⟩, ?_⟩
    rintro ok I u z _ ⟨i, rfl, rfl, hi, rfl, cp, gp, dp, cc, gc, dc, hs, cs, gl, dl, H, s, B, hnc⟩
    refine cnd_i (fun r => cnd_i (fun r2 => cnd_t rfl ?_) (fun _ => cnd_t rfl (awk6 B.g))) (fun _ => cnd_t rfl (awk6 B.g))
    have r : i < al.length := by simpa using r
    have r2 : i < 40 := by simp at r2; omega
    have Bd := B.grow (Mod.refl u).drew
    refine ⟨_, _, _, _, _, _, _, _, _, _, _, Bd.read, ha.ixG Bd.g rfl r fun a sl hcell s1 s2 s3 hlt => ⟨_, _, _, _, _, hcell, ?_⟩⟩
    refine (act_ok Bd.wd Bd.ve rfl rfl rfl Bd.cap (by omega) _ _ s3 s1 s2 fun h0 k hk x e => ?_).mono fun e w57 hA => ?_
    · have := hlt h0 k hk
      have := Bd.ow x k e
      omega
    refine Bd.act hlt hA (fun cp' gp' dp' cc' gc' dc' hs' cs' gl' dl' H' s' he hq put => ?_) fun _ _ _ _ hq => hq.2
    refine ⟨_, _, _, _, _, _, _, _, _, _, _, _, he, put fun w64 B64 => cnd_t rfl ⟨_, _, _, _, _, _, _, _, _, _, _, B64.read, (sound_ok B64.wd rfl).mono ?_⟩⟩
    rintro e w70 ⟨rfl, g70⟩
    exact ⟨_, rfl, _, by omega, i + 1, wN (by omega) (by omega), rfl, by omega, rfl, _, _, _, _, _, _, _, _, _, _, _, _, B64.grow g70, by have := hq.1; omega⟩

end Go.Proofs.Ytdaiolinnpligaa.W
/- Layer 6: the statements PropSound and PropNobody. -/
namespace Go.Proofs.Ytdaiolinnpligaa.W
open Go Go.Fw Go.RowKit Go.SoP Go.LiP
variable {w w' w0 w2 w3 : World} {b : Nat} {H H' H2 : Pt → Sl} {s t u s' T : PSt} {p cp gp dp ap : Option Addr} {hs : List Sl} {cs : List (List Int)} {gl : List Bool} {dl c m : List Int} {cn cc gn gc dn dc an ac : Nat} {v : Int}

theorem litB_of {n : Nat} {l : Int} (hn : n ≤ 1048576) (h : InV n l) : litB l = true := by
  have := (isB_iff hn).2 h
  unfold isB at this
  simp only [Bool.and_eq_true] at this
  exact this.1

/-- A model of the clauses and decisions makes the trail true, and no clause is broken. -/
theorem model_trail (g : Good s) (hd : ∀ x ∈ s.dec, valP m x = 1) (hc : ∀ c, s.cls c → ∃ l ∈ c, valP m l = 1) : (∀ x ∈ s.R .tr, valP m x = 1) ∧ ∀ i, ¬ Brk s i := by
  have key : ∀ x ∈ s.R .tr, valP m x = 1 := g.trail_all hd fun c hcc l hl hy _ => by
    obtain ⟨y, hyc, hv⟩ := hc c hcc
    by_cases e : y = l
    · rw [← e]; exact hv
    · have := hy y hyc e
      rw [valP_neg (litB_of g.vmax (g.clv hcc y hyc)), hv] at this
      omega
  refine ⟨key, fun i hB => ?_⟩
  obtain ⟨y, hyc, hv⟩ := hc _ ⟨i, hB.1, rfl⟩
  have := key _ (hB.2 y hyc)
  rw [valP_neg (litB_of g.vmax (g.clv ⟨i, hB.1, rfl⟩ y hyc)), hv] at this
  omega

theorem PropSound_calls {W : World} {k : Int} {q r : Option Addr} {j d n' c' : Nat} {ld : List Int} {n c : Nat} (hc : V2 (Value.int .i64) W q hs cs) (hj : j = cs.length) (ha : Vw (Value.int .i64) W p ld) (hn : n = ld.length) (hm : Vw (Value.int .i64) W r m) (hn' : n' = m.length) (hx' : n' ≤ maxLen) :
    Calls Try.prog fathomlaw06_PropSound.id #[.agg #[.int .i64 k, .slice q j d], .slice p n c, .slice r n' c'] W fun e W' => e = .returned (.bool true) ∧ Grow W W' := by
  subst hn hj
  refine fathomlaw06_PropSound.calls ?_
  intro n1 w2 h2
  refine ⟨_, _, _, _, ⟨cell_add h2.has rfl, cell_add h2.has rfl, trivial⟩, (light_ok (hc.grow h2.mod) rfl).mono ?_⟩
  rintro e w5 ⟨r, rfl, g5⟩
  have G5 := h2.mod.trans g5
  have B5 := h2.has.grow g5
  refine ⟨_, rfl, cnd_i (fun _ => awk6 G5) (fun _ => ⟨_, _, _, cell_add B5 rfl, cnd_i (fun _ => awk6 G5) (fun r60 => ⟨_, cell_add B5 rfl, cnd_i (fun _ => awk6 G5) (fun k60 => ?_)⟩)⟩)⟩
  have r60 : cs.length ≤ 60 := by simp at r60; omega
  have k60 : k ≤ 60 := by simpa using k60
  refine ⟨_, _, _, _, ⟨cell_add B5 rfl, cell_add B5 rfl, trivial⟩, (refCnf_ok (hc.grow G5) rfl).mono ?_⟩
  rintro e w17 ⟨rfl, g17⟩
  have G17 := G5.trans g17
  have B17 := B5.grow g17
  refine ⟨_, rfl, ?_⟩
  cases hcn : cnfB k cs with
  | false => exact cnd_t rfl (awk6 G17)
  | true =>
    refine cnd_f rfl ⟨_, _, _, _, ⟨cell_add B17 rfl, cell_add B17 rfl, trivial⟩, (begin6_ok (hc.grow G17) rfl hcn k60 (by omega)).mono ?_⟩
    rintro e w23 ⟨b, s, H, gp, gc, rfl, hv, wd, nd, g23, ow, gpf⟩
    refine ⟨_, _, _, _, _, _, _, _, _, _, _, _, rfl, ?_⟩
    intro n30 w31 h31
    have hlen : (List.replicate cs.length false).length = cs.length := by simp
    have key := fun K => Bx.first (W := W) (gc := gc) (cc := d) (dc := 0) (v := k) wd (Nat.zero_le _) hv (fun x k hk => by have := ow x k hk; have := G17.size; omega) (G17.trans g23) h31 (K := K)
    rw [hlen] at key
    have cl0 : ∀ c, s.cls c ↔ c ∈ cs := fun c => new_cls nd
    refine key _ fun w32 B32 m32 => ?_
    have B1 : Has w32 n1 #[.int .i64 k, .slice q cs.length d] := ((B17.grow g23).grow h31.mod).keep m32 (by have := h31.num; have := (B17.grow g23).lt; omega)
    refine ⟨_, _, _, _, ⟨cell_add B1 rfl, cell_add B1 rfl, trivial⟩, (refHolds_ok (hc.grow B32.g) rfl (by unfold maxLen; omega) (hm.grow B32.g) hn' hx').mono ?_⟩
    rintro e w35 ⟨rfl, g35⟩
    have S0 : holdsP m cs = true → ∀ c, s.cls c → ∃ l ∈ c, valP m l = 1 := fun hh c hcc => by
      unfold holdsP at hh
      rw [List.all_eq_true] at hh
      have := hh c ((cl0 c).1 hcc)
      rw [List.any_eq_true] at this
      obtain ⟨l, hl, e⟩ := this
      exact ⟨l, hl, by simpa using e⟩
    refine ⟨_, rfl, fun ok hd u => ok = true ∧ ∃ (cp gp dp : Option Addr) (cc gc dc : Nat) (hs : List Sl) (cs : List (List Int)) (gl : List Bool) (dl : List Int) (H : Pt → Sl) (s : PSt), Bx W u n30 b k H s cp cc hs cs gp gc gl dp dc dl ∧ (hd = true → (∀ c, s.cls c → ∃ l ∈ c, valP m l = 1) ∧ ∀ x ∈ dl, valP m x = 1), ?_, ?_⟩
    · refine ⟨fun ok hd I u z => ∃ i : Nat, I = i ∧ ok = true ∧ i ≤ 20 ∧ z = 21 - i ∧ ∃ (cp gp dp : Option Addr) (cc gc dc : Nat) (hs : List Sl) (cs : List (List Int)) (gl : List Bool) (dl : List Int) (H : Pt → Sl) (s : PSt), Bx W u n30 b k H s cp cc hs cs gp gc gl dp dc dl ∧ (hd = true → (∀ c, s.cls c → ∃ l ∈ c, valP m l = 1) ∧ ∀ x ∈ dl, valP m x = 1),
        ⟨_, 0, rfl, rfl, by omega, rfl, _, _, _, _, _, _, _, _, _, _, _, _, B32.grow g35, fun hh => ⟨S0 hh, fun x hx => by simp at hx⟩⟩, ?_⟩
      rintro ok hd I u z _ ⟨i, rfl, rfl, hi, rfl, cp, gp, dp, cc, gc, dc, hs, cs, gl, dl, H, s, B, hh⟩
      refine cnd_i (fun r => cnd_i (fun r2 => cnd_t rfl ?_) (fun _ => ⟨rfl, _, _, _, _, _, _, _, _, _, _, _, _, B, hh⟩)) (fun _ => ⟨rfl, _, _, _, _, _, _, _, _, _, _, _, _, B, hh⟩)
      have r : i < ld.length := by simpa using r
      have r2 : i < 20 := by simp at r2; omega
      have Bd := B.grow (Mod.refl u).drew
      refine ⟨_, _, _, _, _, _, _, _, _, _, _, Bd.read, (ha.grow Bd.g).ix 0 (by omega) rfl (by omega) fun a e => ⟨_, e, ?_⟩⟩
      rw [Int.toNat_natCast]
      generalize hX : ld.getD i 0 = X
      refine (open6_ok Bd.wd Bd.ve X).mono ?_
      rintro e w52 ⟨r53, rfl, hr53, g52⟩
      refine ⟨_, rfl, cnd_i (fun r3 => ?_) (fun r3 => ⟨_, by omega, i + 1, wN (by omega) (by omega), rfl, by omega, rfl, _, _, _, _, _, _, _, _, _, _, _, _, Bd.grow g52, hh⟩)⟩
      obtain ⟨o1, o2⟩ := hr53.1 r3
      have Be := (Bd.grow g52).grow (Mod.refl w52).drew
      refine ⟨_, _, _, _, _, _, _, _, _, _, _, Be.read, (ha.grow Be.g).ix 0 (by omega) rfl (by omega) fun a e => ⟨_, e, ?_⟩⟩
      rw [Int.toNat_natCast, hX]
      refine (act0_ok Be.wd Be.ve rfl rfl rfl Be.cap X).mono fun e w61 hA => ?_
      refine Be.act (fun h0 => by omega) hA (fun cp' gp' dp' cc' gc' dc' hs' cs' gl' dl' H' s' he hq put => ?_) fun s' _ _ _ hq => ?_
      · obtain ⟨rfl, rfl, hq⟩ := hq
        obtain ⟨rfl, rfl⟩ : s' = s.decide X ∧ dl' = dl ++ [X] := by
          rcases hq with ⟨_, _, e1, e2⟩ | ⟨hno, _⟩
          · exact ⟨e1, e2⟩
          · exact absurd ⟨o1, o2⟩ hno
        refine ⟨_, _, _, _, _, _, _, _, _, _, _, _, he, put fun w68 B68 => cnd_i (fun hh2 => ?_) (fun hh2 => ⟨_, by omega, i + 1, wN (by omega) (by omega), rfl, by omega, rfl, _, _, _, _, _, _, _, _, _, _, _, _, B68, fun e => by cases e⟩)⟩
        refine (ha.grow B68.g).ix 0 (by omega) rfl (by omega) fun a e => ⟨_, e, ?_⟩
        rw [Int.toNat_natCast, hX]
        refine (refValue_ok (hm.grow B68.g) hn' hx' X).mono ?_
        rintro e w71 ⟨rfl, g71⟩
        refine ⟨_, rfl, _, by omega, i + 1, wN (by omega) (by omega), rfl, by omega, rfl, _, _, _, _, _, _, _, _, _, _, _, _, B68.grow g71, fun e => ?_⟩
        have e : valP m X = 1 := by simpa using e
        obtain ⟨z1, z2⟩ := hh hh2
        refine ⟨fun c hcc => z1 c (cls_decide.1 hcc), fun x hx => ?_⟩
        rcases List.mem_append.1 hx with hx | hx
        · exact z2 x hx
        · rw [List.mem_singleton] at hx; rw [hx]; exact e
      · rcases hq.2.2 with ⟨_, _, e, _⟩ | ⟨_, e, _⟩
        · rw [e]; exact (decide_same X).1
        · rw [e]
    · rintro ok hd w75 _ ⟨rfl, cp, gp, dp, cc, gc, dc, hs, cs, gl, dl, H, s, B, hh⟩
      refine cnd_f rfl ⟨_, cell_add B.bx rfl, B.run.mono ?_⟩
      rintro e w77 ⟨r, rfl, s', H', B', x, ht⟩
      refine ⟨_, rfl, cnd_i (fun _ => awk6 B'.g) (fun r2 => ?_)⟩
      have r2 : hd = true := by simpa using r2
      obtain ⟨z1, z2⟩ := hh r2
      have g' := B'.wd.g
      obtain ⟨k1, k2⟩ := model_trail (m := m) g' (fun y hy => z2 y (by rw [B'.wd.dd]; exact hy)) fun c hcc => z1 c (x.cls.1 hcc)
      have er : r = -1 := by
        rcases ht with ⟨e, _⟩ | ⟨i, _, hB⟩
        · exact e
        · exact absurd hB (k2 i)
      subst er
      have t60 := B'.wd.tr60
      refine ⟨_, cell_add B'.bx rfl, (trail_ok B'.wd.pm (by omega)).mono ?_⟩
      rintro e w82 ⟨qt, dt, rfl, oT, g82, f82⟩
      refine ⟨_, _, _, rfl, fun I u z => ∃ i : Nat, I = i ∧ i ≤ (s'.R .tr).length ∧ z = (s'.R .tr).length - i ∧ Grow w82 u, ⟨_, 0, rfl, by omega, rfl, Mod.refl _⟩, ?_⟩
      rintro I u z _ ⟨i, rfl, hi, rfl, gu⟩
      have Gu := B'.g.trans (g82.trans gu)
      refine cnd_i (fun r => ?_) (fun r => cnd_t rfl (awk6 Gu))
      have r : i < (s'.R .tr).length := by simpa using r
      refine (oT.vw.grow gu).ix 0 (by omega) rfl (by omega) fun a e => ⟨_, e, (refValue_ok (hm.grow Gu) hn' hx' _).mono ?_⟩
      rintro e w91 ⟨rfl, g91⟩
      rw [Int.toNat_natCast, k1 _ (getD_mem' r)]
      exact ⟨_, rfl, cnd_f rfl ⟨_, by omega, i + 1, wN (by omega) (by omega), r, rfl, gu.trans g91⟩⟩

end Go.Proofs.Ytdaiolinnpligaa.W
/- Layer 6: the statement PropNobody. -/
namespace Go.Proofs.Ytdaiolinnpligaa.W
open Go Go.Fw Go.RowKit Go.SoP Go.LiP
variable {w w' w0 w2 w3 : World} {z p cp : Option Addr} {n m cc an ac : Nat} {ap : Option Addr}

/-- Nobody's propagator, or an empty one. -/
def Nb (z : Option Addr) (w : World) : Prop := z = none ∨ ∃ n, z = some ⟨n, 0, none⟩ ∧ Has w n #[.int .i64 0, .slice none 0 0, .slice none 0 0, .slice none 0 0, .slice none 0 0, .slice none 0 0, .slice none 0 0, .slice none 0 0, .slice none 0 0, .int .i64 0, .slice none 0 0]
theorem Nb.grow (h : Nb z w) (g : Grow w w') : Nb z w' := h.imp id fun ⟨n, e, h⟩ => ⟨n, e, h.grow g⟩

theorem nb_back (h : Nb z w) (l : Int) : Calls Try.prog prop_Prop_Back.id #[.pointer z, .int .i64 l] w fun e w' => e = .returned (.tuple #[]) ∧ Grow w w' := by
  refine prop_Prop_Back.calls ?_
  rcases h with rfl | ⟨n, rfl, h⟩
  · exact cnd_t rfl ⟨rfl, Mod.refl w⟩
  · refine cnd_f rfl ⟨_, rfl, _, _, _, cell_add h rfl, cnd_t ?_ ⟨rfl, Mod.refl w⟩⟩
    rw [decide_eq_true_eq]
    unfold imax
    split <;> omega
theorem nb_add (h : Nb z w) : Calls Try.prog prop_Prop_Add.id #[.pointer z, .slice ap an ac] w fun e w' => e = .returned (.tuple #[.int .i64 0, .int .i64 1]) ∧ Grow w w' := by
  refine prop_Prop_Add.calls ?_
  intro n1 w2 h2
  rcases h with rfl | ⟨n, rfl, h⟩
  · exact ⟨_, cell_of h2.has rfl, cnd_t rfl ⟨rfl, h2.mod⟩⟩
  · exact ⟨_, cell_of h2.has rfl, cnd_f rfl ⟨_, cell_of h2.has rfl, _, rfl, _, _, _, cell_add (h.grow h2.mod) rfl, cnd_t rfl ⟨rfl, h2.mod⟩⟩⟩
theorem nb_there (h : Nb z w) (i : Int) : Calls Try.prog prop_Prop_there.id #[.pointer z, .int .i64 i] w fun e w' => e = .returned (.bool false) ∧ Grow w w' := by
  refine prop_Prop_there.calls ?_
  rcases h with rfl | ⟨n, rfl, h⟩
  · exact cnd_f rfl ⟨rfl, Mod.refl w⟩
  · refine cnd_t rfl (cnd_i (fun r => ⟨_, rfl, _, _, _, cell_add h rfl, cnd_f ?_ ⟨rfl, Mod.refl w⟩⟩) fun _ => ⟨rfl, Mod.refl w⟩)
    have : i ≥ 0 := by simpa using r
    rw [decide_eq_false_iff_not]; omega
theorem nb_is (h : Nb z w) (l : Int) : Calls Try.prog prop_Prop_is.id #[.pointer z, .int .i64 l] w fun e w' => e = .returned (.bool false) ∧ Grow w w' := by
  refine prop_Prop_is.calls ⟨(· = w.drew), rfl, ?_⟩
  rcases h with rfl | ⟨n, rfl, h⟩
  · exact cnd_f rfl ⟨rfl, (Mod.refl w).drew⟩
  · exact cnd_t rfl ⟨_, rfl, _, _, _, atW_eq (cell_add h.drew rfl), cnd_f rfl ⟨rfl, (Mod.refl w).drew⟩⟩
theorem nb_clause (h : Nb z w) (i : Int) : Calls Try.prog prop_Prop_Clause.id #[.pointer z, .int .i64 i] w fun e w' => e = .returned (.tuple #[.slice none 0 0, .bool false]) ∧ Grow w w' := by
  refine prop_Prop_Clause.calls ((nb_there h i).mono ?_)
  rintro e w1 ⟨rfl, g⟩
  exact ⟨_, rfl, cnd_t rfl ⟨rfl, g⟩⟩
theorem nb_drop (h : Nb z w) (i : Int) : Calls Try.prog prop_Prop_Drop.id #[.pointer z, .int .i64 i] w fun e w' => e = .returned (.int .i64 4) ∧ Grow w w' := by
  refine prop_Prop_Drop.calls ?_
  intro n1 w2 h2
  refine ⟨_, cell_of h2.has rfl, (nb_there (h.grow h2.mod) i).mono ?_⟩
  rintro e w4 ⟨rfl, g⟩
  exact ⟨_, rfl, cnd_t rfl ⟨rfl, h2.mod.trans g⟩⟩
theorem nb_decide (h : Nb z w) (l : Int) : Calls Try.prog prop_Prop_Decide.id #[.pointer z, .int .i64 l] w fun e w' => e = .returned (.int .i64 1) ∧ Grow w w' := by
  refine prop_Prop_Decide.calls ((nb_is h l).mono ?_)
  rintro e w1 ⟨rfl, g⟩
  exact ⟨_, rfl, cnd_t rfl ⟨rfl, g⟩⟩
theorem nb_run (h : Nb z w) : Calls Try.prog prop_Prop_Run.id #[.pointer z] w fun e w' => e = .returned (.int .i64 (-1)) ∧ Grow w w' := by
  refine prop_Prop_Run.calls ?_
  rcases h with rfl | ⟨n, rfl, h⟩
  · exact cnd_t rfl ⟨rfl, Mod.refl w⟩
  · exact cnd_f rfl ⟨_, rfl, _, _, _, cell_add h rfl, cnd_t rfl ⟨rfl, Mod.refl w⟩⟩
theorem nb_value (h : Nb z w) (l : Int) : Calls Try.prog prop_Prop_Value.id #[.pointer z, .int .i64 l] w fun e w' => e = .returned (.int .i64 0) ∧ Grow w w' := by
  refine prop_Prop_Value.calls ((nb_is h l).mono ?_)
  rintro e w1 ⟨rfl, g⟩
  exact ⟨_, rfl, cnd_t rfl ⟨rfl, g⟩⟩
theorem nb_level (h : Nb z w) (l : Int) : Calls Try.prog prop_Prop_Level.id #[.pointer z, .int .i64 l] w fun e w' => e = .returned (.int .i64 (-1)) ∧ Grow w w' := by
  refine prop_Prop_Level.calls ((nb_is h l).mono ?_)
  rintro e w1 ⟨rfl, g⟩
  exact ⟨_, rfl, cnd_t rfl ⟨rfl, g⟩⟩
theorem nb_reason (h : Nb z w) (l : Int) : Calls Try.prog prop_Prop_Reason.id #[.pointer z, .int .i64 l] w fun e w' => e = .returned (.int .i64 (-1)) ∧ Grow w w' := by
  refine prop_Prop_Reason.calls ((nb_is h l).mono ?_)
  rintro e w1 ⟨rfl, g⟩
  exact ⟨_, rfl, cnd_t rfl ⟨rfl, g⟩⟩
theorem nb_levels (h : Nb z w) : Calls Try.prog prop_Prop_Levels.id #[.pointer z] w fun e w' => e = .returned (.int .i64 0) ∧ Grow w w' := by
  refine prop_Prop_Levels.calls ?_
  rcases h with rfl | ⟨n, rfl, h⟩
  · exact cnd_t rfl ⟨rfl, Mod.refl w⟩
  · exact cnd_f rfl ⟨_, rfl, _, _, _, cell_add h rfl, rfl, Mod.refl w⟩
theorem nb_trail (h : Nb z w) : Calls Try.prog prop_Prop_Trail.id #[.pointer z] w fun e w' => ∃ (q : Option Addr) (d : Nat), e = .returned (.slice q 0 d) ∧ Grow w w' := by
  refine prop_Prop_Trail.calls ?_
  rcases h with rfl | ⟨n, rfl, h⟩
  · exact cnd_t rfl ⟨_, _, rfl, Mod.refl w⟩
  · refine cnd_f rfl ⟨_, rfl, _, _, _, cell_add h rfl, (clone_ok (l := []) Vw.nil rfl (by simp)).mono ?_⟩
    rintro e w1 ⟨q, d, rfl, _, g, _⟩
    exact ⟨_, _, _, rfl, _, _, rfl, g⟩

theorem PropNobody_calls {W : World} {a0 a1 : Int} : Calls Try.prog fathomlaw06_PropNobody.id #[.agg #[.int .i64 a0, .int .i64 a1, .slice ap an ac]] W fun e W' => e = .returned (.bool true) ∧ Grow W W' := by
  refine fathomlaw06_PropNobody.calls ?_
  intro n1 w2 h2
  refine ⟨fun I u k => ∃ i : Nat, I = i ∧ i ≤ 2 ∧ k = 2 - i ∧ Grow w2 u, ⟨_, 0, rfl, by omega, rfl, Mod.refl _⟩, ?_⟩
  rintro I u k _ ⟨i, rfl, hi, rfl, g⟩
  refine cnd_i (fun r => ?_) (fun _ => awk6 (h2.mod.trans g))
  have r : i < 2 := by simp at r; omega
  refine ⟨fun z u2 => Nb z u2 ∧ Grow w2 u2, cnd_i (fun _ => ?_) (fun _ => ⟨.inl rfl, g⟩), ?_⟩
  · intro n9 w10 h10
    exact ⟨.inr ⟨n9, rfl, h10.has⟩, g.trans h10.mod⟩
  rintro z w12 _ ⟨nb, g12⟩
  have B : ∀ {u : World}, Grow w2 u → Has u n1 #[.int .i64 a0, .int .i64 a1, .slice ap an ac] := fun g => h2.has.grow g
  refine ⟨_, cell_add (B g12) rfl, (nb_back nb a1).mono ?_⟩
  rintro e w14 ⟨rfl, k14⟩
  have g14 := g12.trans k14
  refine ⟨rfl, _, _, _, cell_add (B g14) rfl, (nb_add (nb.grow k14)).mono ?_⟩
  rintro e w16 ⟨rfl, g⟩
  have k16 := k14.trans g
  refine ⟨_, _, rfl, _, cell_add (B (g12.trans k16)) rfl, (nb_clause (nb.grow k16) a1).mono ?_⟩
  rintro e w20 ⟨rfl, g⟩
  have k20 := k16.trans g
  refine ⟨_, _, _, _, rfl, cnd_f rfl (cnd_f rfl (cnd_f rfl (cnd_f rfl ⟨_, cell_add (B (g12.trans k20)) rfl, (nb_drop (nb.grow k20) a1).mono ?_⟩)))⟩
  rintro e w24 ⟨rfl, g⟩
  have k24 := k20.trans g
  refine ⟨_, rfl, cnd_f rfl ⟨_, cell_add (B (g12.trans k24)) rfl, (nb_decide (nb.grow k24) a1).mono ?_⟩⟩
  rintro e w27 ⟨rfl, g⟩
  have k27 := k24.trans g
  refine ⟨_, rfl, cnd_f rfl ((nb_run (nb.grow k27)).mono ?_)⟩
  rintro e w29 ⟨rfl, g⟩
  have k29 := k27.trans g
  refine ⟨_, rfl, cnd_f rfl ⟨_, cell_add (B (g12.trans k29)) rfl, (nb_value (nb.grow k29) a1).mono ?_⟩⟩
  rintro e w32 ⟨rfl, g⟩
  have k32 := k29.trans g
  refine ⟨_, rfl, cnd_f rfl ⟨_, cell_add (B (g12.trans k32)) rfl, (nb_level (nb.grow k32) a1).mono ?_⟩⟩
  rintro e w35 ⟨rfl, g⟩
  have k35 := k32.trans g
  refine ⟨_, rfl, cnd_f rfl ⟨_, cell_add (B (g12.trans k35)) rfl, (nb_reason (nb.grow k35) a1).mono ?_⟩⟩
  rintro e w38 ⟨rfl, g⟩
  have k38 := k35.trans g
  refine ⟨_, rfl, cnd_f rfl ((nb_levels (nb.grow k38)).mono ?_)⟩
  rintro e w40 ⟨rfl, g⟩
  have k40 := k38.trans g
  refine ⟨_, rfl, cnd_f rfl ((nb_trail (nb.grow k40)).mono ?_)⟩
  rintro e w42 ⟨q, d, rfl, g⟩
  exact ⟨_, _, _, rfl, cnd_f rfl ⟨_, by omega, i + 1, wN (by omega) (by omega), r, rfl, g12.trans (k40.trans g)⟩⟩

end Go.Proofs.Ytdaiolinnpligaa.W
/- Layer 6: the statement PropOnce. -/
namespace Go.Proofs.Ytdaiolinnpligaa.W
open Go Go.Fw Go.RowKit Go.SoP Go.LiP
variable {w w' w0 w2 w3 : World} {b : Nat} {H H' H2 : Pt → Sl} {s t u s' T : PSt} {p cp gp dp ap : Option Addr} {hs : List Sl} {cs : List (List Int)} {gl : List Bool} {dl c m : List Int} {cn cc gn gc dn dc an ac : Nat} {v : Int}

theorem told_sub (g1 : Good s) (g2 : Good t) (hc : ∀ c, s.cls c ↔ t.cls c) (hd : s.dec = t.dec) (hC : Closed s) : (∀ x ∈ t.R .tr, x ∈ s.R .tr) ∧ ∀ i, ¬ Brk t i := by
  have h1 := g2.trail_sub (T := s.R .tr) (fun x hx => g1.dec_mem x (by rw [hd]; exact hx)) (fun x hx => g1.cons hx) fun c hcc => hC.self g1 ((hc c).2 hcc)
  refine ⟨h1, fun i hB => ?_⟩
  have := hC.notBroken g1 h1 ((hc _).2 ⟨i, hB.1, rfl⟩)
  rw [← Bool.not_eq_true, brokenP_iff] at this
  exact this hB.2

/-- Two propagators of the same clauses and decisions tell the same. -/
theorem told_agree (g1 : Good s) (g2 : Good t) (hc : ∀ c, s.cls c ↔ t.cls c) (hd : s.dec = t.dec) {a r : Int} (h1 : Told s a) (h2 : Told t r) :
    (a ≥ 0 ↔ r ≥ 0) ∧ (a < 0 → (∀ x ∈ s.R .tr, x ∈ t.R .tr) ∧ (∀ x ∈ t.R .tr, x ∈ s.R .tr) ∧ (s.R .tr).length = (t.R .tr).length) := by
  have sym := fun c => (hc c).symm
  rcases h1 with ⟨rfl, hC⟩ | ⟨i, rfl, hB⟩
  · obtain ⟨k1, k2⟩ := told_sub g1 g2 hc hd hC
    rcases h2 with ⟨rfl, hC2⟩ | ⟨i, rfl, hB⟩
    · obtain ⟨k3, _⟩ := told_sub g2 g1 sym hd.symm hC2
      exact ⟨Iff.rfl, fun _ => ⟨k3, k1, ls_len g1.ls g2.ls k3 k1⟩⟩
    · exact absurd hB (k2 i)
  · rcases h2 with ⟨rfl, hC2⟩ | ⟨j, rfl, _⟩
    · exact absurd hB ((told_sub g2 g1 sym hd.symm hC2).2 i)
    · exact ⟨⟨fun _ => by omega, fun _ => by omega⟩, fun e => by omega⟩

theorem neg_told {a : Int} (h : Told s a) : a < 0 ↔ a = -1 := by
  rcases h with ⟨rfl, _⟩ | ⟨i, rfl, _⟩
  · simp
  · omega

/-- The clauses that are there may be a formula. -/
theorem WD.cnf (h : WD w b H s cp hs cs gp gl dp dl) : cnfB (s.vars : Int) (thereL cs gl cs.length) = true := by
  have h1 := h.cn
  have h2 := h.cb
  have h3 := h.g.vmax
  have tl := thereL_len cs gl cs.length
  unfold cnfB
  rw [Bool.and_eq_true, decide_eq_true_eq, List.all_eq_true]
  refine ⟨by omega, fun c hc => ?_⟩
  have hcl := h.mem.1 hc
  have hv := h.g.clv hcl
  obtain ⟨i, hi, rfl⟩ := hcl
  unfold clB
  rw [Bool.and_eq_true, Bool.and_eq_true, decide_eq_true_eq, List.all_eq_true, List.all_eq_true]
  exact ⟨⟨fun x hx => litB_of h3 (hv x hx), h.g.al i⟩, fun x hx => by rw [decide_eq_true_eq]; exact (hv x hx).amt.2⟩

theorem tr_decide (l : Int) : (s.decide l).R .tr = s.R .tr ++ [l] := by
  unfold PSt.decide; rw [put_tr]; unfold PSt.begin; rw [set_ne (by simp), set_ne (by simp)]

theorem PropOnce_calls {W : World} {k : Int} {q : Option Addr} {j d : Nat} {al : List Ak} {n c : Nat} (hc : V2 (Value.int .i64) W q hs cs) (hj : j = cs.length) (ha : AV W p al) (hn : n = al.length) :
    Calls Try.prog fathomlaw06_PropOnce.id #[.agg #[.int .i64 k, .slice q j d], .slice p n c] W fun e W' => e = .returned (.bool true) ∧ Grow W W' := by
  subst hn hj
  refine fathomlaw06_PropOnce.calls ?_
  intro n1 w2 h2
  refine ⟨_, _, _, _, ⟨cell_add h2.has rfl, cell_add h2.has rfl, trivial⟩, (light_ok (hc.grow h2.mod) rfl).mono ?_⟩
  rintro e w5 ⟨r, rfl, g5⟩
  have G5 := h2.mod.trans g5
  have B5 := h2.has.grow g5
  refine ⟨_, rfl, cnd_i (fun _ => awk6 G5) (fun _ => ⟨_, _, _, cell_add B5 rfl, cnd_i (fun _ => awk6 G5) (fun r60 => ⟨_, cell_add B5 rfl, cnd_i (fun _ => awk6 G5) (fun k60 => ?_)⟩)⟩)⟩
  have r60 : cs.length ≤ 60 := by simp at r60; omega
  have k60 : k ≤ 60 := by simpa using k60
  refine (light6_ok (ha.grow G5) rfl).mono ?_
  rintro e w15 ⟨r, rfl, g15⟩
  have G15 := G5.trans g15
  have B15 := B5.grow g15
  refine ⟨_, rfl, cnd_i (fun _ => awk6 G15) (fun _ => ⟨_, _, _, _, ⟨cell_add B15 rfl, cell_add B15 rfl, trivial⟩, (refCnf_ok (hc.grow G15) rfl).mono ?_⟩)⟩
  rintro e w21 ⟨rfl, g21⟩
  have G21 := G15.trans g21
  have B21 := B15.grow g21
  refine ⟨_, rfl, ?_⟩
  cases hcn : cnfB k cs with
  | false => exact cnd_t rfl (awk6 G21)
  | true =>
  refine cnd_f rfl ⟨_, _, _, _, ⟨cell_add B21 rfl, cell_add B21 rfl, trivial⟩, (begin6_ok (hc.grow G21) rfl hcn k60 (by omega)).mono ?_⟩
  rintro e w27 ⟨b, s, H, gp, gc, rfl, hv, wd, nd, g27, ow, gpf⟩
  refine ⟨_, _, _, _, _, _, _, _, _, _, _, _, rfl, ?_⟩
  intro n34 w35 h35
  have hlen : (List.replicate cs.length false).length = cs.length := by simp
  have key := fun K => Bx.first (W := W) (gc := gc) (cc := d) (dc := 0) (v := k) wd (Nat.zero_le _) hv (fun x k hk => by have := ow x k hk; have := G21.size; omega) (G21.trans g27) h35 (K := K)
  rw [hlen] at key
  refine key _ fun w36 B36 m36 => ?_
  have n1lt := h2.has.lt
  have e1 := h2.num
  have g5s := (g5.trans (g15.trans (g21.trans g27))).size
  have e34 := h35.num
  refine ⟨fun ok u => ok = true ∧ ∃ (cp gp dp : Option Addr) (cc gc dc : Nat) (hs : List Sl) (cs' : List (List Int)) (gl : List Bool) (dl : List Int) (H : Pt → Sl) (s : PSt), Bx W u n34 b k H s cp cc hs cs' gp gc gl dp dc dl ∧ s.nc ≤ 100 ∧ Has u n1 #[.int .i64 k, .slice q cs.length d] ∧ (∀ x, own b H x ≠ some n1), ?_, ?_⟩
  · refine ⟨fun ok I u z => ∃ i : Nat, I = i ∧ ok = true ∧ i ≤ 30 ∧ z = 31 - i ∧ ∃ (cp gp dp : Option Addr) (cc gc dc : Nat) (hs : List Sl) (cs' : List (List Int)) (gl : List Bool) (dl : List Int) (H : Pt → Sl) (s : PSt), Bx W u n34 b k H s cp cc hs cs' gp gc gl dp dc dl ∧ s.nc ≤ 60 + i ∧ Has u n1 #[.int .i64 k, .slice q cs.length d] ∧ (∀ x, own b H x ≠ some n1),
      ⟨_, 0, rfl, rfl, by omega, rfl, _, _, _, _, _, _, _, _, _, _, _, _, B36, by rw [nd.n]; omega, (((B21.grow g27).grow h35.mod).keep m36 (by omega)), fun x e => by have := ow x _ e; have := (g5.trans (g15.trans g21)).size; omega⟩, ?_⟩
    rintro ok I u z _ ⟨i, rfl, rfl, hi, rfl, cp, gp, dp, cc, gc, dc, hs, cs', gl, dl, H, s, B, hnc, B1, nw1⟩
    refine cnd_i (fun r => cnd_i (fun r2 => cnd_t rfl ?_) (fun _ => ⟨rfl, _, _, _, _, _, _, _, _, _, _, _, _, B, by omega, B1, nw1⟩)) (fun _ => ⟨rfl, _, _, _, _, _, _, _, _, _, _, _, _, B, by omega, B1, nw1⟩)
    have r : i < al.length := by simpa using r
    have r2 : i < 30 := by simp at r2; omega
    have Bd := B.grow (Mod.refl u).drew
    refine ⟨_, _, _, _, _, _, _, _, _, _, _, Bd.read, ha.ixG Bd.g rfl r fun a sl hcell s1 s2 s3 hlt => ⟨_, _, _, _, _, hcell, ?_⟩⟩
    refine (act_ok Bd.wd Bd.ve rfl rfl rfl Bd.cap (by omega) _ _ s3 s1 s2 fun h0 k hk x e => ?_).mono fun e w57 hA => ?_
    · have := hlt h0 k hk
      have := Bd.ow x k e
      omega
    have nP : ∀ {H' : Pt → Sl} {s' : PSt}, Pw u.drew w57 b H H' s' → Has w57 n1 #[.int .i64 k, .slice q cs.length d] ∧ ∀ x, own b H' x ≠ some n1 := fun P => by
      have l1 : n1 < u.drew.heap.size := B1.lt
      refine ⟨B1.drew.keep P.mod fun ⟨x, e⟩ => nw1 x e, fun x e => ?_⟩
      rcases P.ft x n1 e with ⟨y, e2⟩ | e2
      · exact nw1 y e2
      · omega
    refine Bd.actP hlt hA (fun cp' gp' dp' cc' gc' dc' hs' cs' gl' dl' H' s' he hq P put => ?_) fun _ _ _ _ hq => hq.2
    obtain ⟨B1', nw1'⟩ := nP P
    refine ⟨_, _, _, _, _, _, _, _, _, _, _, _, he, put fun w64 B64 m64 => ⟨_, by omega, i + 1, wN (by omega) (by omega), rfl, by omega, rfl, _, _, _, _, _, _, _, _, _, _, _, _, B64, by have := hq.1; omega, B1'.keep m64 (by omega), nw1'⟩⟩
  · rintro ok w62 _ ⟨rfl, cp, gp, dp, cc, gc, dc, hs, cs', gl, dl, H, s, B, hnc, B1, nw1⟩
    refine cnd_f rfl ⟨_, cell_add B.bx rfl, B.runP.mono ?_⟩
    rintro e w64 ⟨a, rfl, s1, H1, B', x1, ht1, P1⟩
    have l1 := B1.lt
    have nP : ∀ {u w2 : World} {H H' : Pt → Sl} {s' : PSt}, Has u n1 #[.int .i64 k, .slice q cs.length d] → (∀ x, own b H x ≠ some n1) → Pw u w2 b H H' s' → Has w2 n1 #[.int .i64 k, .slice q cs.length d] ∧ ∀ x, own b H' x ≠ some n1 := fun B1 nw1 P => by
      have l1 := B1.lt
      refine ⟨B1.keep P.mod fun ⟨x, e⟩ => nw1 x e, fun x e => ?_⟩
      rcases P.ft x n1 e with ⟨y, e2⟩ | e2
      · exact nw1 y e2
      · omega
    obtain ⟨C1, nwC⟩ := nP B1 nw1 P1
    have t60 := B'.wd.tr60
    refine ⟨_, rfl, _, cell_add B'.bx rfl, (trail_ok B'.wd.pm (by omega)).mono ?_⟩
    rintro e w67 ⟨qt, dt, rfl, oT, g67, f67⟩
    have B67 := B'.grow g67
    refine ⟨_, _, _, rfl, _, cell_add B67.bx rfl, B67.runP.mono ?_⟩
    rintro e w70 ⟨a2, rfl, s2, H2, B2, x2, ht2, P2⟩
    obtain ⟨D1, nwD⟩ := nP (C1.grow g67) nwC P2
    have oT2 : OwI ty_int w70 qt dt (s1.R .tr) := oT.keep P2.mod fun k hk ⟨x, e⟩ => by
      have := f67 k hk
      have := B'.wd.pm.lt x k e
      omega
    have cl2 : ∀ c, s1.cls c ↔ s2.cls c := fun c => x2.cls.symm
    have dd2 : s1.dec = s2.dec := (dec_ext B'.wd.g x2).symm
    obtain ⟨ag1, ag2⟩ := told_agree B'.wd.g B2.wd.g cl2 dd2 ht1 ht2
    have same : a < 0 → s2.R .tr = s1.R .tr := fun e => by
      obtain ⟨_, _, hl⟩ := ag2 e
      obtain ⟨ex, hex⟩ := x2.tr
      rw [hex] at hl ⊢
      simp at hl
      rw [hl]; simp
    refine ⟨_, rfl, fun u => Grow w70 u, ?_, ?_⟩
    · have hdec : (decide (a ≥ 0) == decide (a2 ≥ 0)) = true := by
        rw [beq_iff_eq]; exact decide_eq_decide.2 ag1
      rw [hdec]
      refine cnd_f rfl (cnd_i (fun e1 => ?_) (fun _ => Mod.refl _))
      have e1 : a = -1 := by simpa using e1
      have t60' := B2.wd.tr60
      refine ⟨_, cell_add B2.bx rfl, (trail_ok B2.wd.pm (by omega)).mono ?_⟩
      rintro e w74 ⟨qt2, dt2, rfl, oT3, g74, f74⟩
      refine ⟨_, _, _, rfl, (refInts_ok (oT2.vw.grow g74) oT3.vw rfl rfl (by unfold maxLen; omega)).mono ?_⟩
      rintro e w76 ⟨rfl, g76⟩
      rw [same (by omega)]
      exact ⟨_, rfl, cnd_f (by simp) (g74.trans g76)⟩
    rintro w78 _ g78
    have B78 := B2.grow g78
    have D78 := D1.grow g78
    have oT78 := oT2.grow g78
    have gd : Grow w78 w78.drew := (Mod.refl w78).drew
    have hve := B78.ve
    have hb60 := B78.wd.vb
    have hcb := B78.wd.cb
    have hcl := B78.wd.cn
    have hgl := B78.wd.gn
    have hcnf := B78.wd.cnf
    have tl := thereL_len cs' gl cs'.length
    rw [← hve] at hcnf
    have dls := decl_ls B78.wd.g
    rw [← B78.wd.dd] at dls
    have d60 := B78.wd.dl60
    have clT : ∀ c, s2.cls c ↔ c ∈ thereL cs' gl cs'.length := fun c => B78.wd.mem.symm
    have rd : ∀ u, Grow w78 u → CellsAt u ⟨n34, 0, none⟩ 0 [ptrV b, .int .i64 k, .slice cp cs'.length cc, .slice gp gl.length gc, .slice dp dl.length dc] := fun u hu => (B78.grow hu).read
    refine ⟨Grow w78, gd, _, fun u hu => cell_add (D78.grow hu) rfl, _, _, _, _, _, _, _, _, _, _, _, rd, ?_⟩
    have TH : ∀ {u : World}, Grow w78 u → Calls Try.prog fathomlaw06_there.id #[.agg #[.pointer (some ⟨b, 0, none⟩), .int .i64 k, .slice cp cs'.length cc, .slice gp gl.length gc, .slice dp dl.length dc]] u fun e w' => ∃ (q : Option Addr) (d : Nat) (ks : List Sl), e = .returned (.slice q (thereL cs' gl cs'.length).length d) ∧ V2 (Value.int .i64) w' q ks (thereL cs' gl cs'.length) ∧ Grow u w' ∧ ∀ k, footN q ks k → footN cp hs k ∨ u.heap.size ≤ k :=
      fun gu => there6_ok (B78.grow gu).wd.v2 rfl (B78.grow gu).wd.gv rfl (by omega) (by omega)
    refine ⟨(TH gd).mono ?_, ?_⟩
    · rintro e w86 ⟨qv, dv, ksv, rfl, v2v, g86, fv⟩
      have G86 := gd.trans g86
      refine ⟨_, _, _, rfl, G86, ?_, ?_⟩
      · refine (begin6_ok v2v rfl hcnf (by omega) (by omega)).mono ?_
        rintro e w88 ⟨bv, sv0, Hv0, gpv0, gcv0, rfl, hvv0, wdv, ndv, g88, owv, gpfv⟩
        have G88 := G86.trans g88
        refine ⟨_, _, _, _, _, _, _, _, _, _, _, _, rfl, ?_⟩
        intro nB w96 h96
        have hlenv : (List.replicate (thereL cs' gl cs'.length).length false).length = (thereL cs' gl cs'.length).length := by simp
        have keyv := fun K => Bx.first (W := w78) (gc := gcv0) (cc := dv) (dc := 0) (v := k) wdv (Nat.zero_le _) hvv0 (fun x k hk => by have := owv x k hk; have := G86.size; omega) G88 h96 (K := K)
        rw [hlenv] at keyv
        refine ⟨G88.trans h96.mod, keyv _ fun w97 BV m97 => ?_⟩
        refine ⟨fun ok I u z => ∃ i : Nat, I = i ∧ ok = true ∧ i ≤ dl.length ∧ z = dl.length - i ∧ Grow w78 u ∧ ∃ (cp gp dp : Option Addr) (cc gc dc : Nat) (hs : List Sl) (cs : List (List Int)) (glI : List Bool) (vl : List Int) (H : Pt → Sl) (s : PSt), Bx w78 u nB bv k H s cp cc hs cs gp gc glI dp dc vl ∧ s.vars = s2.vars ∧ vl = dl.take i ∧ s.R .tr = dl.take i ∧ ∀ c, s.cls c ↔ c ∈ thereL cs' gl cs'.length,
          ⟨_, 0, rfl, rfl, Nat.zero_le _, rfl, BV.g, _, _, _, _, _, _, _, _, _, _, _, _, BV, by have := BV.ve; omega, by simp, by rw [ndv.tr]; simp, fun c => new_cls ndv⟩, ?_⟩
        rintro ok I u z _ ⟨i, rfl, rfl, hi, rfl, gu, cpv, gpv, dpv, ccv, gcv, dcv, hsv, csv, glv, vl, Hv, sv, BI, hvv, rfl, htr, hcls⟩
        have Bu := B78.grow gu
        refine ⟨_, _, _, cell_add Bu.bx rfl, cnd_i (fun r => cnd_t rfl ?_) (fun r => ?_)⟩
        · have r : i < dl.length := by simpa using r
          have gdu := gu.trans (Mod.refl u).drew
          have BId := BI.grow (Mod.refl u).drew
          refine ⟨_, _, _, _, _, _, _, _, _, _, _, BId.read, _, _, _, cell_add (B78.grow gdu).bx rfl, (B78.grow gdu).wd.dv.ix 0 (by omega) rfl (by omega) fun a e => ⟨_, e, ?_⟩⟩
          rw [Int.toNat_natCast]
          have hXm := getD_mem' r
          have hXt : dl.getD i 0 ∉ dl.take i ∧ -(dl.getD i 0) ∉ dl.take i := by
            refine ⟨fun hx => ?_, fun hx => dls.con _ hXm (List.mem_of_mem_take hx)⟩
            obtain ⟨j, hj, e⟩ := List.mem_iff_getElem.1 hx
            rw [List.length_take] at hj
            rw [List.getElem_take] at e
            have := (List.getElem_inj (h₀ := show j < dl.length by omega) (h₁ := r) (ls_nodup dls)).1 (by rw [e]; simp [List.getD, r])
            omega
          generalize hX : dl.getD i 0 = X at *
          have hin : InV sv.vars X := by rw [hvv]; exact dls.v X hXm
          have hv0 : sv.val X = 0 := (BI.wd.g.v0 hin).2 (by rw [htr]; exact hXt)
          refine (act0_ok BId.wd BId.ve rfl rfl rfl BId.cap X).mono fun e w113 hA => ?_
          refine BId.actP (fun h0 => by omega) hA (fun cp' gp' dp' cc' gc' dc' hs' csx gl' dl' H' s' he hq P put => ?_) fun s' _ _ _ hq => ?_
          · obtain ⟨rfl, rfl, hq⟩ := hq
            obtain ⟨rfl, rfl⟩ : s' = sv.decide X ∧ dl' = dl.take i ++ [X] := by
              rcases hq with ⟨_, _, e1, e2⟩ | ⟨hno, _⟩
              · exact ⟨e1, e2⟩
              · exact absurd ⟨hin, hv0⟩ hno
            have tks : dl.take (i + 1) = dl.take i ++ [X] := by
              rw [List.take_add_one, ← hX]; simp [List.getD, r]
            refine ⟨_, _, _, _, _, _, _, _, _, _, _, _, he, put fun w120 B120 m120 => ⟨_, by omega, i + 1, wN (by omega) (by omega), rfl, r, rfl, B120.g, _, _, _, _, _, _, _, _, _, _, _, _, B120, by rw [(decide_same X).1]; exact hvv, tks.symm, by rw [tr_decide, htr, tks], fun c => by rw [cls_decide]; exact hcls c⟩⟩
          · rcases hq.2.2 with ⟨_, _, e, _⟩ | ⟨_, e, _⟩
            · rw [e]; exact (decide_same X).1
            · rw [e]
        · have r : i = dl.length := by simp at r; omega
          subst r
          refine ⟨_, cell_add BI.bx rfl, BI.runP.mono ?_⟩
          rintro e w122 ⟨r3, rfl, s3, H3, B3, x3, ht3, P3⟩
          have G3 : Grow w78 w122 := B3.g
          have d3 : s1.dec = s3.dec := by
            rw [dd2, ← B78.wd.dd, dec_ext BI.wd.g x3, ← BI.wd.dd, List.take_length]
          have c3 : ∀ c, s1.cls c ↔ s3.cls c := fun c => by rw [cl2, clT, x3.cls, hcls]
          obtain ⟨ag3, ag4⟩ := told_agree B'.wd.g B3.wd.g c3 d3 ht1 ht3
          have hdec : (decide (a ≥ 0) == decide (r3 ≥ 0)) = true := by
            rw [beq_iff_eq]; exact decide_eq_decide.2 ag3
          have GW := B78.g.trans G3
          refine ⟨_, rfl, cnd_t rfl ?_⟩
          rw [hdec]
          refine cnd_t rfl (cnd_i (fun _ => awk6 GW) (fun rn => ?_))
          have rn : a < 0 := by simpa using rn
          obtain ⟨y1, y2, y3⟩ := ag4 rn
          have t60' := B3.wd.tr60
          refine ⟨_, cell_add B3.bx rfl, (trail_ok B3.wd.pm (by omega)).mono ?_⟩
          rintro e w127 ⟨qt3, dt3, rfl, oT4, g127, f127⟩
          refine ⟨_, _, _, rfl, (refAlike_ok (oT78.vw.grow (G3.trans g127)) rfl (by unfold maxLen; omega) oT4.vw rfl (by unfold maxLen; omega) y1 y2 y3).mono ?_⟩
          rintro e w129 ⟨rfl, g129⟩
          exact ⟨_, rfl, cnd_t rfl (awk6 (GW.trans (g127.trans g129)))⟩
      · intro nB w146 h146
        have G146 := G86.trans h146.mod
        have e146 := h146.num
        refine ⟨G146, (begin6_ok (v2v.grow h146.mod) rfl hcnf (by omega) (by omega)).mono ?_⟩
        rintro e w147 ⟨bv, sv0, Hv0, gpv0, gcv0, rfl, hvv0, wdv, ndv, g147, owv, gpfv⟩
        have G147 := G146.trans g147
        refine ⟨_, _, _, _, _, _, _, _, _, _, _, _, rfl, ?_⟩
        have hlenv : (List.replicate (thereL cs' gl cs'.length).length false).length = (thereL cs' gl cs'.length).length := by simp
        have z146 := h146.size
        have keyv := fun K => Bx.put (W := w78) (n := nB) (cc := dv) (gc := gcv0) (dc := 0) (v := k) (h146.has.grow g147) rfl wdv (Nat.zero_le _) hvv0 (fun x e => by have := owv x _ e; omega) (fun hf => by
          rcases hf with hf | ⟨hne, hf⟩ | ⟨hne, hf⟩
          · have := v2v.ltN nB hf; omega
          · have := gpfv nB hf; omega
          · exact absurd rfl hne) (fun x k hk => by have := owv x k hk; have := G146.size; omega) (by have := G86.size; omega) G147 (K := K)
        rw [hlenv] at keyv
        refine keyv _ fun w97 BV m97 => ?_
        refine ⟨fun ok I u z => ∃ i : Nat, I = i ∧ ok = true ∧ i ≤ dl.length ∧ z = dl.length - i ∧ Grow w78 u ∧ ∃ (cp gp dp : Option Addr) (cc gc dc : Nat) (hs : List Sl) (cs : List (List Int)) (glI : List Bool) (vl : List Int) (H : Pt → Sl) (s : PSt), Bx w78 u nB bv k H s cp cc hs cs gp gc glI dp dc vl ∧ s.vars = s2.vars ∧ vl = dl.take i ∧ s.R .tr = dl.take i ∧ ∀ c, s.cls c ↔ c ∈ thereL cs' gl cs'.length,
          ⟨_, 0, rfl, rfl, Nat.zero_le _, rfl, BV.g, _, _, _, _, _, _, _, _, _, _, _, _, BV, by have := BV.ve; omega, by simp, by rw [ndv.tr]; simp, fun c => new_cls ndv⟩, ?_⟩
        rintro ok I u z _ ⟨i, rfl, rfl, hi, rfl, gu, cpv, gpv, dpv, ccv, gcv, dcv, hsv, csv, glv, vl, Hv, sv, BI, hvv, rfl, htr, hcls⟩
        have Bu := B78.grow gu
        refine ⟨_, _, _, cell_add Bu.bx rfl, cnd_i (fun r => cnd_t rfl ?_) (fun r => ?_)⟩
        · have r : i < dl.length := by simpa using r
          have gdu := gu.trans (Mod.refl u).drew
          have BId := BI.grow (Mod.refl u).drew
          refine ⟨_, _, _, _, _, _, _, _, _, _, _, BId.read, _, _, _, cell_add (B78.grow gdu).bx rfl, (B78.grow gdu).wd.dv.ix 0 (by omega) rfl (by omega) fun a e => ⟨_, e, ?_⟩⟩
          rw [Int.toNat_natCast]
          have hXm := getD_mem' r
          have hXt : dl.getD i 0 ∉ dl.take i ∧ -(dl.getD i 0) ∉ dl.take i := by
            refine ⟨fun hx => ?_, fun hx => dls.con _ hXm (List.mem_of_mem_take hx)⟩
            obtain ⟨j, hj, e⟩ := List.mem_iff_getElem.1 hx
            rw [List.length_take] at hj
            rw [List.getElem_take] at e
            have := (List.getElem_inj (h₀ := show j < dl.length by omega) (h₁ := r) (ls_nodup dls)).1 (by rw [e]; simp [List.getD, r])
            omega
          generalize hX : dl.getD i 0 = X at *
          have hin : InV sv.vars X := by rw [hvv]; exact dls.v X hXm
          have hv0 : sv.val X = 0 := (BI.wd.g.v0 hin).2 (by rw [htr]; exact hXt)
          refine (act0_ok BId.wd BId.ve rfl rfl rfl BId.cap X).mono fun e w113 hA => ?_
          refine BId.actP (fun h0 => by omega) hA (fun cp' gp' dp' cc' gc' dc' hs' csx gl' dl' H' s' he hq P put => ?_) fun s' _ _ _ hq => ?_
          · obtain ⟨rfl, rfl, hq⟩ := hq
            obtain ⟨rfl, rfl⟩ : s' = sv.decide X ∧ dl' = dl.take i ++ [X] := by
              rcases hq with ⟨_, _, e1, e2⟩ | ⟨hno, _⟩
              · exact ⟨e1, e2⟩
              · exact absurd ⟨hin, hv0⟩ hno
            have tks : dl.take (i + 1) = dl.take i ++ [X] := by
              rw [List.take_add_one, ← hX]; simp [List.getD, r]
            refine ⟨_, _, _, _, _, _, _, _, _, _, _, _, he, put fun w120 B120 m120 => ⟨_, by omega, i + 1, wN (by omega) (by omega), rfl, r, rfl, B120.g, _, _, _, _, _, _, _, _, _, _, _, _, B120, by rw [(decide_same X).1]; exact hvv, tks.symm, by rw [tr_decide, htr, tks], fun c => by rw [cls_decide]; exact hcls c⟩⟩
          · rcases hq.2.2 with ⟨_, _, e, _⟩ | ⟨_, e, _⟩
            · rw [e]; exact (decide_same X).1
            · rw [e]
        · have r : i = dl.length := by simp at r; omega
          subst r
          refine ⟨_, cell_add BI.bx rfl, BI.runP.mono ?_⟩
          rintro e w122 ⟨r3, rfl, s3, H3, B3, x3, ht3, P3⟩
          have G3 : Grow w78 w122 := B3.g
          have d3 : s1.dec = s3.dec := by
            rw [dd2, ← B78.wd.dd, dec_ext BI.wd.g x3, ← BI.wd.dd, List.take_length]
          have c3 : ∀ c, s1.cls c ↔ s3.cls c := fun c => by rw [cl2, clT, x3.cls, hcls]
          obtain ⟨ag3, ag4⟩ := told_agree B'.wd.g B3.wd.g c3 d3 ht1 ht3
          have hdec : (decide (a ≥ 0) == decide (r3 ≥ 0)) = true := by
            rw [beq_iff_eq]; exact decide_eq_decide.2 ag3
          have GW := B78.g.trans G3
          refine ⟨_, rfl, cnd_t rfl ?_⟩
          rw [hdec]
          refine cnd_t rfl (cnd_i (fun _ => awk6 GW) (fun rn => ?_))
          have rn : a < 0 := by simpa using rn
          obtain ⟨y1, y2, y3⟩ := ag4 rn
          have t60' := B3.wd.tr60
          refine ⟨_, cell_add B3.bx rfl, (trail_ok B3.wd.pm (by omega)).mono ?_⟩
          rintro e w127 ⟨qt3, dt3, rfl, oT4, g127, f127⟩
          refine ⟨_, _, _, rfl, (refAlike_ok (oT78.vw.grow (G3.trans g127)) rfl (by unfold maxLen; omega) oT4.vw rfl (by unfold maxLen; omega) y1 y2 y3).mono ?_⟩
          rintro e w129 ⟨rfl, g129⟩
          exact ⟨_, rfl, cnd_t rfl (awk6 (GW.trans (g127.trans g129)))⟩
    · intro nB w203 h203
      have G203 := gd.trans h203.mod
      have e203 := h203.num
      have z203 := h203.size
      refine ⟨G203, (TH G203).mono ?_⟩
      rintro e w86 ⟨qv, dv, ksv, rfl, v2v, g86, fv⟩
      have G86 := G203.trans g86
      refine ⟨_, _, _, rfl, G86, (begin6_ok v2v rfl hcnf (by omega) (by omega)).mono ?_⟩
      rintro e w147 ⟨bv, sv0, Hv0, gpv0, gcv0, rfl, hvv0, wdv, ndv, g147, owv, gpfv⟩
      have G147 := G86.trans g147
      refine ⟨_, _, _, _, _, _, _, _, _, _, _, _, rfl, ?_⟩
      have hlenv : (List.replicate (thereL cs' gl cs'.length).length false).length = (thereL cs' gl cs'.length).length := by simp
      have zz : w78.drew.heap.size = w78.heap.size := rfl
      have z86 := g86.size
      have keyv := fun K => Bx.put (W := w78) (n := nB) (cc := dv) (gc := gcv0) (dc := 0) (v := k) ((h203.has.grow g86).grow g147) rfl wdv (Nat.zero_le _) hvv0 (fun x e => by have := owv x _ e; omega) (fun hf => by
        rcases hf with hf | ⟨hne, hf⟩ | ⟨hne, hf⟩
        · rcases fv nB hf with e | e
          · have := B78.wd.v2.ltN nB e; omega
          · omega
        · have := gpfv nB hf; omega
        · exact absurd rfl hne) (fun x k hk => by have := owv x k hk; have := G86.size; omega) (by omega) G147 (K := K)
      rw [hlenv] at keyv
      refine keyv _ fun w97 BV m97 => ?_
      refine ⟨fun ok I u z => ∃ i : Nat, I = i ∧ ok = true ∧ i ≤ dl.length ∧ z = dl.length - i ∧ Grow w78 u ∧ ∃ (cp gp dp : Option Addr) (cc gc dc : Nat) (hs : List Sl) (cs : List (List Int)) (glI : List Bool) (vl : List Int) (H : Pt → Sl) (s : PSt), Bx w78 u nB bv k H s cp cc hs cs gp gc glI dp dc vl ∧ s.vars = s2.vars ∧ vl = dl.take i ∧ s.R .tr = dl.take i ∧ ∀ c, s.cls c ↔ c ∈ thereL cs' gl cs'.length,
        ⟨_, 0, rfl, rfl, Nat.zero_le _, rfl, BV.g, _, _, _, _, _, _, _, _, _, _, _, _, BV, by have := BV.ve; omega, by simp, by rw [ndv.tr]; simp, fun c => new_cls ndv⟩, ?_⟩
      rintro ok I u z _ ⟨i, rfl, rfl, hi, rfl, gu, cpv, gpv, dpv, ccv, gcv, dcv, hsv, csv, glv, vl, Hv, sv, BI, hvv, rfl, htr, hcls⟩
      have Bu := B78.grow gu
      refine ⟨_, _, _, cell_add Bu.bx rfl, cnd_i (fun r => cnd_t rfl ?_) (fun r => ?_)⟩
      · have r : i < dl.length := by simpa using r
        have gdu := gu.trans (Mod.refl u).drew
        have BId := BI.grow (Mod.refl u).drew
        refine ⟨_, _, _, _, _, _, _, _, _, _, _, BId.read, _, _, _, cell_add (B78.grow gdu).bx rfl, (B78.grow gdu).wd.dv.ix 0 (by omega) rfl (by omega) fun a e => ⟨_, e, ?_⟩⟩
        rw [Int.toNat_natCast]
        have hXm := getD_mem' r
        have hXt : dl.getD i 0 ∉ dl.take i ∧ -(dl.getD i 0) ∉ dl.take i := by
          refine ⟨fun hx => ?_, fun hx => dls.con _ hXm (List.mem_of_mem_take hx)⟩
          obtain ⟨j, hj, e⟩ := List.mem_iff_getElem.1 hx
          rw [List.length_take] at hj
          rw [List.getElem_take] at e
          have := (List.getElem_inj (h₀ := show j < dl.length by omega) (h₁ := r) (ls_nodup dls)).1 (by rw [e]; simp [List.getD, r])
          omega
        generalize hX : dl.getD i 0 = X at *
        have hin : InV sv.vars X := by rw [hvv]; exact dls.v X hXm
        have hv0 : sv.val X = 0 := (BI.wd.g.v0 hin).2 (by rw [htr]; exact hXt)
        refine (act0_ok BId.wd BId.ve rfl rfl rfl BId.cap X).mono fun e w113 hA => ?_
        refine BId.actP (fun h0 => by omega) hA (fun cp' gp' dp' cc' gc' dc' hs' csx gl' dl' H' s' he hq P put => ?_) fun s' _ _ _ hq => ?_
        · obtain ⟨rfl, rfl, hq⟩ := hq
          obtain ⟨rfl, rfl⟩ : s' = sv.decide X ∧ dl' = dl.take i ++ [X] := by
            rcases hq with ⟨_, _, e1, e2⟩ | ⟨hno, _⟩
            · exact ⟨e1, e2⟩
            · exact absurd ⟨hin, hv0⟩ hno
          have tks : dl.take (i + 1) = dl.take i ++ [X] := by
            rw [List.take_add_one, ← hX]; simp [List.getD, r]
          refine ⟨_, _, _, _, _, _, _, _, _, _, _, _, he, put fun w120 B120 m120 => ⟨_, by omega, i + 1, wN (by omega) (by omega), rfl, r, rfl, B120.g, _, _, _, _, _, _, _, _, _, _, _, _, B120, by rw [(decide_same X).1]; exact hvv, tks.symm, by rw [tr_decide, htr, tks], fun c => by rw [cls_decide]; exact hcls c⟩⟩
        · rcases hq.2.2 with ⟨_, _, e, _⟩ | ⟨_, e, _⟩
          · rw [e]; exact (decide_same X).1
          · rw [e]
      · have r : i = dl.length := by simp at r; omega
        subst r
        refine ⟨_, cell_add BI.bx rfl, BI.runP.mono ?_⟩
        rintro e w122 ⟨r3, rfl, s3, H3, B3, x3, ht3, P3⟩
        have G3 : Grow w78 w122 := B3.g
        have d3 : s1.dec = s3.dec := by
          rw [dd2, ← B78.wd.dd, dec_ext BI.wd.g x3, ← BI.wd.dd, List.take_length]
        have c3 : ∀ c, s1.cls c ↔ s3.cls c := fun c => by rw [cl2, clT, x3.cls, hcls]
        obtain ⟨ag3, ag4⟩ := told_agree B'.wd.g B3.wd.g c3 d3 ht1 ht3
        have hdec : (decide (a ≥ 0) == decide (r3 ≥ 0)) = true := by
          rw [beq_iff_eq]; exact decide_eq_decide.2 ag3
        have GW := B78.g.trans G3
        refine ⟨_, rfl, cnd_t rfl ?_⟩
        rw [hdec]
        refine cnd_t rfl (cnd_i (fun _ => awk6 GW) (fun rn => ?_))
        have rn : a < 0 := by simpa using rn
        obtain ⟨y1, y2, y3⟩ := ag4 rn
        have t60' := B3.wd.tr60
        refine ⟨_, cell_add B3.bx rfl, (trail_ok B3.wd.pm (by omega)).mono ?_⟩
        rintro e w127 ⟨qt3, dt3, rfl, oT4, g127, f127⟩
        refine ⟨_, _, _, rfl, (refAlike_ok (oT78.vw.grow (G3.trans g127)) rfl (by unfold maxLen; omega) oT4.vw rfl (by unfold maxLen; omega) y1 y2 y3).mono ?_⟩
        rintro e w129 ⟨rfl, g129⟩
        exact ⟨_, rfl, cnd_t rfl (awk6 (GW.trans (g127.trans g129)))⟩

end Go.Proofs.Ytdaiolinnpligaa.W
/- Layer 6: the statements, told of what arguments are. -/
namespace Go.Proofs.Ytdaiolinnpligaa.W
open Go Go.Fw Go.RowKit Go.SoP Go.LiP
variable {w : World}

theorem act_of_rd {v : Value} (h : RdV w (.cons (.int .i64) (.cons (.int .i64) (.cons (.sl (.int .i64)) .nil))) v) : ∃ a b p n c, v = .agg #[.int .i64 a, .int .i64 b, .slice p n c] := by
  obtain ⟨cs, rfl, h⟩ := h
  obtain ⟨x, s, rfl, _⟩ := ak_of_rd h
  exact ⟨_, _, _, _, _, rfl⟩

theorem PropRuns_law (v0 v1 : Value) (W : World) (h0 : RdV W (.cons (.int .i64) (.cons (.sl (.sl (.int .i64))) .nil)) v0) (h1 : RdV W (.sl (.cons (.int .i64) (.cons (.int .i64) (.cons (.sl (.int .i64)) .nil)))) v1) : Calls Try.prog fathomlaw06_PropRuns.id #[v0, v1] W fun e W' => e = .returned (.bool true) ∧ Grow W W' := by
  obtain ⟨k, q, j, d, hs, cs, rfl, hj, _, hc, _⟩ := cnf_of_rd h0
  obtain ⟨p, n, c, al, rfl, hn, _, ha⟩ := acts_of_rd h1
  exact PropRuns_calls hc hj ha hn
theorem PropOnce_law (v0 v1 : Value) (W : World) (h0 : RdV W (.cons (.int .i64) (.cons (.sl (.sl (.int .i64))) .nil)) v0) (h1 : RdV W (.sl (.cons (.int .i64) (.cons (.int .i64) (.cons (.sl (.int .i64)) .nil)))) v1) : Calls Try.prog fathomlaw06_PropOnce.id #[v0, v1] W fun e W' => e = .returned (.bool true) ∧ Grow W W' := by
  obtain ⟨k, q, j, d, hs, cs, rfl, hj, _, hc, _⟩ := cnf_of_rd h0
  obtain ⟨p, n, c, al, rfl, hn, _, ha⟩ := acts_of_rd h1
  exact PropOnce_calls hc hj ha hn
theorem PropSound_law (v0 v1 v2 : Value) (W : World) (h0 : RdV W (.cons (.int .i64) (.cons (.sl (.sl (.int .i64))) .nil)) v0) (h1 : RdV W (.sl (.int .i64)) v1) (h2 : RdV W (.sl (.int .i64)) v2) : Calls Try.prog fathomlaw06_PropSound.id #[v0, v1, v2] W fun e W' => e = .returned (.bool true) ∧ Grow W W' := by
  obtain ⟨k, q, j, d, hs, cs, rfl, hj, _, hc, _⟩ := cnf_of_rd h0
  obtain ⟨p, n, c, l, rfl, hn, b1, b2, ha⟩ := ints_of_rd' h1
  obtain ⟨p2, n2, c2, m, rfl, hn2, b3, b4, hm⟩ := ints_of_rd' h2
  exact PropSound_calls hc hj ha hn hm hn2 (Nat.le_trans b3 b4)
theorem PropNobody_law (v0 : Value) (W : World) (h0 : RdV W (.cons (.int .i64) (.cons (.int .i64) (.cons (.sl (.int .i64)) .nil))) v0) : Calls Try.prog fathomlaw06_PropNobody.id #[v0] W fun e W' => e = .returned (.bool true) ∧ Grow W W' := by
  obtain ⟨a, b, p, n, c, rfl⟩ := act_of_rd h0
  exact PropNobody_calls
end Go.Proofs.Ytdaiolinnpligaa.W
