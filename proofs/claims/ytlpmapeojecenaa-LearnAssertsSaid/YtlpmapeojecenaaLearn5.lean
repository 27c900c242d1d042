/- Layer 12: what is learned, in its order. -/
import Derived.Test.YtlpmapeojecenaaLearn4
namespace Go.Proofs.Ytlpmapeojecenaa.W
open Go Go.Fw Go.RowKit Go.SoP Go.LiP Go.LeP
variable {W0 w w' : World} {p q : Option Addr} {n c m d ns b1 b2 nb : Nat} {tr : List As} {l : List Int} {s : Int → Bool}

theorem br_len {V : List Int} (hd : V.Nodup) (hb : ∀ x ∈ V, Br1 tr x) : V.length ≤ tr.length := by
  have inj : (V.map fun x => atN tr (am x)).Nodup := by
    refine List.pairwise_map.2 (List.Pairwise.imp_of_mem (fun {x y} hx hy hne e => ?_) hd)
    exact hne ((hb x hx).same (hb y hy) e)
  have := List.Nodup.length_le_of_subset inj (l₂ := List.range tr.length) fun y hy => by
    obtain ⟨x, hx, rfl⟩ := List.mem_map.1 hy
    exact List.mem_range.2 (hb x hx).lt
  simpa using this
theorem lv_bd (ok : TrOk tr) (hl : tr.length ≤ 4096) {x : Int} (hx : Br1 tr x) : 0 ≤ lv tr x ∧ lv tr x ≤ 4096 := by
  have h1 := ok.nn hx.lt
  have h2 := ok.le hx.lt
  have h3 := hx.lt
  unfold lv
  omega

theorem cmp_ok (h : Stu W0 w ns p n c tr b1 b2) {n1 : Nat} (hc : Has w n1 #[.pointer (some ⟨ns, 0, none⟩)]) {x y : Int} (hx : Br1 tr x) (hy : Br1 tr y) :
    Calls Try.prog learn_study_ordered_1.id #[.int .i64 x, .int .i64 y, .pointer (some ⟨n1, 0, none⟩)] w fun e w' => e = .returned (.int .i64 (cmpO tr x y)) ∧ Grow w w' := by
  refine learn_study_ordered_1.calls ?_
  have GD : Grow w w.drew := (Mod.refl w).drew
  have cl : ∀ {u : World}, Grow w u → u.cell? (Addr.mk n1 0 none) = some (.pointer (some ⟨ns, 0, none⟩)) := fun g => cell_of (hc.grow g) rfl
  have LV : ∀ {u : World} {z : Int} {Q : Ending → World → Prop}, Br1 tr z → Grow w u → (∀ v, Grow w v → Q (.returned (.int .i64 (lv tr z))) v) → Calls Try.prog learn_study_level.id #[.pointer (some ⟨ns, 0, none⟩), .int .i64 z] u Q := by
    intro u z Q hz g hQ
    refine (level_ok (h.grow g) hz).mono ?_
    rintro e v ⟨rfl, g2⟩
    exact hQ v (g.trans g2)
  have AM : ∀ {u : World} {z : Int} {Q : Ending → World → Prop}, Br1 tr z → Grow w u → (∀ v, Grow w v → Q (.returned (.int .i64 (am z))) v) → Calls Try.prog learn_amount.id #[.int .i64 z] u Q := by
    intro u z Q hz g hQ
    have hb := litB_bd hz.isl
    refine (amount12_ok (by omega) (by omega) u).mono ?_
    rintro e v ⟨rfl, g2⟩
    exact hQ v (g.trans g2)
  have bx := lv_bd h.ok h.hl hx
  have bY := lv_bd h.ok h.hl hy
  have ax := am_bd (x := x) hx.isl
  have ay := am_bd (x := y) hy.isl
  have F1 : (lv tr x != lv tr y) = true → IntKind.i64.wrap (lv tr y - lv tr x) = cmpO tr x y := fun r => by
    have r : lv tr x ≠ lv tr y := by simpa using r
    rw [wrap64_of (by omega) (by omega)]; unfold cmpO; rw [if_pos r]
  have F2 : (lv tr x != lv tr y) = false → IntKind.i64.wrap (am x - am y) = cmpO tr x y := fun r => by
    have r : lv tr x = lv tr y := by simpa using r
    rw [wrap64_of (by omega) (by omega)]; unfold cmpO; rw [if_neg (by omega)]
  refine ⟨_, cl GD, LV hx GD fun u1 g1 => ⟨_, rfl, _, cl g1, LV hy g1 fun u2 g2 => ⟨_, rfl, ?_⟩⟩, _, cl GD, LV hx GD fun u1 g1 => ⟨_, rfl, LV hy g1 fun u2 g2 => ⟨_, rfl, ?_⟩⟩⟩
  all_goals
    have g3 := g2.trans (Mod.refl u2).drew
    exact cnd_i (fun r => ⟨_, cl g3, LV hy g3 fun u3 g4 => ⟨_, rfl, _, cl g4, LV hx g4 fun u4 g5 => ⟨_, rfl, by rw [F1 r], g5⟩⟩, _, cl g3, LV hy g3 fun u3 g4 => ⟨_, rfl, LV hx g4 fun u4 g5 => ⟨_, rfl, by rw [F1 r], g5⟩⟩⟩)
      (fun r => AM hx g2 fun u3 g4 => ⟨_, rfl, AM hy g4 fun u4 g5 => ⟨_, rfl, by rw [F2 r], g5⟩⟩)
theorem cmp_ent : entB Try.prog learn_study_ordered_1.id = true := by kernel_rfl

theorem ordered_ok (h : Stu W0 w ns p n c tr b1 b2) (M : MS Try.prog ty_int ty_bool w b2 nb s) {k : List Int} (hs : ∀ x, s x = true ↔ x ∈ k) (hd : k.Nodup) (hb : ∀ x ∈ k, Br1 tr x) :
    Calls Try.prog learn_study_ordered.id #[.pointer (some ⟨ns, 0, none⟩)] w fun e w' => ∃ (q : Option Addr) (d : Nat), e = .returned (.slice q (ordL tr k).length d) ∧ OwI ty_int w' q d (ordL tr k) ∧ Grow w w' := by
  refine learn_study_ordered.calls ?_
  intro n1 w2 h2
  have e1 := h2.num
  have G2 := h2.mod
  obtain ⟨w6, cnt, hr, R, g6⟩ := (M.grow G2).range mapB_in
  have H1 : Has w6 n1 #[.pointer (some ⟨ns, 0, none⟩)] := h2.has.grow g6
  have hsz := G2.size
  have hr0 := R.lt
  have S6 := h.grow (G2.trans g6)
  have lns := h.h.lt
  have lb1 := h.M.lt
  have lW0 := h.G.size
  have ln1 := h2.has.lt
  refine ⟨_, cell_of h2.has rfl, _, rfl, _, cell_add (h.h.grow G2) rfl, w6, _, hr, ?_⟩
  refine ⟨fun pm nm cm u z => ∃ (V : List Int) (lf : Int → Bool), Vis s lf V ∧ nm = V.length ∧ (∀ x, lf x = true → s x = true) ∧ MR Try.prog ty_int ty_bool u b2 w2.heap.size nb s lf z ∧ OwI ty_int u pm cm V ∧ (∀ b, blk pm = some b → w6.heap.size ≤ b) ∧ Mod (· = w2.heap.size) w6 u,
    ⟨_, [], s, Vis.nil, rfl, fun x => id, R, Ow.nil _ _ _, fun b hb => by simp [blk] at hb, Mod.refl w6⟩, ?_⟩
  rintro pm nm cm w12 z _ ⟨V, lf, v, rfl, hlf, R12, O, fr, m12⟩
  have hV : ∀ x ∈ V, Br1 tr x := fun x hx => hb x ((hs x).1 ((v.2 x).1 hx).1)
  have hVl := br_len v.1 hV
  have hl := h.hl
  rcases R12.next mapB_in 0 with ⟨h0, hl, hrun⟩ | ⟨a, va, w14, z', ha, haw, hrun, hent, R14, hz, m14⟩
  · have S12 : Stu W0 w12 ns p n c tr b1 b2 := S6.keep m12 (fun b (e : b = _) => by omega) (fun (e : ns = _) => by omega) (fun (e : b1 = _) => by omega)
    have H12 : Has w12 n1 #[.pointer (some ⟨ns, 0, none⟩)] := H1.keep m12 fun (e : n1 = _) => by omega
    have X : Cx w12 pm V.length V learn_study_ordered_1.id #[.pointer (some ⟨n1, 0, none⟩)] (cmpO tr) := by
      refine ⟨rfl, by omega, cmp_ent, fun x hx y hy w' m' => ?_, cmpO_ord tr⟩
      have : (#[] ++ #[Value.int .i64 x, .int .i64 y] ++ #[.pointer (some ⟨n1, 0, none⟩)] : Array Value) = #[.int .i64 x, .int .i64 y, .pointer (some ⟨n1, 0, none⟩)] := by simp
      rw [this]
      have s6 := g6.size
      refine cmp_ok (S12.keep m' (fun b e => ?_) (fun e => ?_) (fun e => ?_)) (H12.keep m' fun e => ?_) (hV x hx) (hV y hy)
      all_goals
        have := fr _ e
        omega
    refine .inl ⟨w12, hrun, (sort_ok X O).mono ?_⟩
    rintro e w17 ⟨rfl, l1, o1, m1, p1, s1⟩
    have pk := v.done hl hs hd
    have eq : l1 = ordL tr k := ordL_uniq h.ok hb (fun x => (p1.mem_iff.trans pk.mem_iff)) (p1.nodup_iff.2 v.1) s1
    subst eq
    refine ⟨rfl, _, _, by rw [p1.length_eq], o1, ?_⟩
    have s6 := g6.size
    refine (((G2.trans g6).then m12 fun x hx (e : x = _) => ?_).then m1 fun x hx e => ?_)
    · omega
    · have := fr x e; omega
  refine .inr ⟨w14, _, _, hrun, w14, _, _, hent, fun n21 w22 h22 => ?_⟩
  have hsa := hlf a ha
  have m22 := m14.grow h22.mod
  have O22 : OwI ty_int w22 pm cm V := O.keep m22 fun b e e2 => by
    have := fr b e; omega
  have s6 := g6.size
  have s22 := (m12.trans m22).size
  refine O22.app1 sl_int a h22.has rfl rfl oneInt (by omega) fun w23 p' c' o' m' hp' hsz' => ?_
  refine ⟨z', hz, V ++ [a], _, v.snoc ha hsa, by simp, fun x e => hlf x (by simp at e; exact e.1), (R14.grow h22.mod).keep m' (fun e => ?_) (fun e => ?_), o', fun b hb => ?_, (m12.trans m22).then m' fun x hx e => ?_⟩
  · have := fr _ e
    have := M.lt
    omega
  · have := fr _ e; omega
  · rcases hp' with rfl | rfl
    · exact fr b hb
    · have := blk_some hb
      have := h22.num
      have := h22.size
      omega
  · have := fr x e; omega

/-- The greatest level of a list. -/
def mxL (tr : List As) (k : List Int) : Int := k.foldl (fun m x => if lv tr x > m then lv tr x else m) 0
theorem mxL_aux (tr : List As) : ∀ (k : List Int) (m : Int), (m ≤ k.foldl (fun m x => if lv tr x > m then lv tr x else m) m) ∧ (∀ x ∈ k, lv tr x ≤ k.foldl (fun m x => if lv tr x > m then lv tr x else m) m) ∧ (k.foldl (fun m x => if lv tr x > m then lv tr x else m) m = m ∨ ∃ x ∈ k, lv tr x = k.foldl (fun m x => if lv tr x > m then lv tr x else m) m)
  | [], m => ⟨Int.le_refl _, by simp, .inl rfl⟩
  | y :: t, m => by
    rw [List.foldl_cons]
    generalize hX : (if lv tr y > m then lv tr y else m) = X
    have hm : m ≤ X ∧ lv tr y ≤ X ∧ (X = m ∨ X = lv tr y) := by
      rw [← hX]
      split <;> omega
    obtain ⟨h1, h2, h3⟩ := mxL_aux tr t X
    refine ⟨by omega, fun x hx => ?_, ?_⟩
    · rcases List.mem_cons.1 hx with e | e
      · subst e; omega
      · exact h2 x e
    · rcases h3 with e | ⟨x, hx, e⟩
      · rcases hm.2.2 with h | h
        · exact .inl (e.trans h)
        · exact .inr ⟨y, by simp, (e.trans h).symm⟩
      · exact .inr ⟨x, List.mem_cons_of_mem _ hx, e⟩
theorem mxL_nn (tr : List As) (k : List Int) : 0 ≤ mxL tr k := (mxL_aux tr k 0).1
theorem mxL_le {k : List Int} {x : Int} (h : x ∈ k) : lv tr x ≤ mxL tr k := (mxL_aux tr k 0).2.1 x h
theorem mxL_eq {k : List Int} {L : Int} (h0 : 0 ≤ L) (h1 : ∀ x ∈ k, lv tr x ≤ L) (h2 : L = 0 ∨ ∃ x ∈ k, lv tr x = L) : mxL tr k = L := by
  have a := mxL_nn tr k
  have b := (mxL_aux tr k 0).2.2
  rcases h2 with h2 | ⟨x, hx, e⟩
  · rcases b with b | ⟨x, hx, e⟩
    · exact b.trans h2.symm
    · have := h1 x hx
      unfold mxL at *
      omega
  · have := mxL_le (tr := tr) hx
    rcases b with b | ⟨y, hy, e2⟩
    · unfold mxL at *; omega
    · have := h1 y hy
      unfold mxL at *
      omega
/-- What is learned. -/
def lnd (tr : List As) (l : List Int) : List Int := ordL tr (lrn tr (mxL tr (norm l)) tr.length (norm l))
theorem in0 (ok : TrOk tr) (hb : ∀ x ∈ l, Br1 tr x) : In tr (mxL tr (norm l)) (norm l) tr.length := by
  have hb' : ∀ x ∈ norm l, Br1 tr x := fun x hx => hb x (((norm_isN l).mem x).1 hx)
  refine ⟨hb', fun x hx => mxL_le hx, fun x hx _ => (hb' x hx).lt, ?_, mxL_nn _ _, (norm_isN l).st⟩
  cases hn : norm l with
  | nil => exact .inl rfl
  | cons y t =>
    refine .inr (cnt_pos.2 ?_)
    rw [← hn]
    rcases (mxL_aux tr (norm l) 0).2.2 with e | ⟨x, hx, e⟩
    · have hy : y ∈ norm l := by rw [hn]; simp
      have h1 := mxL_le (tr := tr) hy
      have h2 := ok.nn (hb' y hy).lt
      refine ⟨y, hy, ?_⟩
      have : lv tr y = (nth tr (atN tr (am y))).lev := rfl
      unfold mxL at *
      omega
    · exact ⟨x, hx, e⟩
end Go.Proofs.Ytlpmapeojecenaa.W
