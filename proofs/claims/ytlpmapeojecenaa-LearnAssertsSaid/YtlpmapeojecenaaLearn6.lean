/- Layer 12: what is learned of a broken clause. -/
import Derived.Test.YtlpmapeojecenaaLearn5
namespace Go.Proofs.Ytlpmapeojecenaa.W
open Go Go.Fw Go.RowKit Go.SoP Go.LiP Go.LeP
variable {W0 w w' : World} {p q : Option Addr} {n c m d ns b1 b2 nb : Nat} {tr : List As} {l : List Int} {s : Int → Bool}

theorem TV.ix2 (h : TV w p tr) (g : Grow w w') (hn : n = tr.length) {X : Int} (i : Nat) (e : X = i) (hi : i < tr.length) {K : Addr → Prop}
    (hk : ∀ a (s : Sl), CellsAt w' a 0 [.int .i64 (nth tr i).lit, .int .i64 (nth tr i).lev, .slice s.p s.n s.c] → s.n = (nth tr i).rs.length → s.n ≤ maxLen → Vw (Value.int .i64) w s.p (nth tr i).rs → K a) : ixK p n X 3 K := by
  subst e hn
  obtain ⟨a, s, rfl, hc, h1, h2, h3⟩ := h i hi
  exact ⟨a, rfl, by omega, by omega, hk _ s (by rw [Int.toNat_natCast]; exact CellsAt.keep g id hc) h1 h2 h3⟩

/-- What the top tells of what is in. -/
theorem top_in {k : List Int} {L L0 N P : Int} {kk : Nat} (T : TopR tr k L N P) (I : In tr L0 k kk) : N = cntL tr k L0 ∧ (0 < N → ∃ x ∈ k, lv tr x = L0 ∧ (atN tr (am x) : Int) = P ∧ ∀ y ∈ k, lv tr y = L0 → (atN tr (am y) : Int) ≤ P) := by
  rcases T with ⟨rfl, h1, h2, h3⟩ | ⟨h1, h2, h3, ⟨x, hx, hl, hp⟩, h5⟩
  · exact ⟨h2, fun e => by omega⟩
  · have e : L = L0 := by
      have := I.le x hx
      rcases I.top with e | e
      · rw [e] at hx; simp at hx
      · obtain ⟨y, hy, hly⟩ := cnt_pos.1 e
        have := h1 y hy
        omega
    subst e
    exact ⟨h2, fun _ => ⟨x, hx, hl, hp, h5⟩⟩
theorem top_mx {k : List Int} {L N P : Int} (ok : TrOk tr) (hb : ∀ x ∈ k, Br1 tr x) (T : TopR tr k L N P) : mxL tr k = L := by
  rcases T with ⟨rfl, h1, h2, h3⟩ | ⟨h1, h2, h3, ⟨x, hx, hl, hp⟩, h5⟩
  · subst h1; rfl
  · refine mxL_eq ?_ h1 (.inr ⟨x, hx, hl⟩)
    have := ok.nn (hb x hx).lt
    rw [← hl]; exact this

theorem learnL_ok (h : TV w p tr) (hn : n = tr.length) (hc : Vw (Value.int .i64) w q l) (hk : m = l.length) (hx : m ≤ maxLen) :
    Calls Try.prog learn_Learn.id #[.slice p n c, .slice q m d] w fun e w' => ∃ (q2 : Option Addr) (d2 : Nat) (o : List Int), o = (if mayL tr l then lnd tr l else []) ∧ e = .returned (.tuple #[.slice q2 o.length d2, .int .i64 (if mayL tr l then 0 else 1)]) ∧ OwI ty_int w' q2 d2 o ∧ Grow w w' := by
  refine learn_Learn.calls ?_
  refine (learnCheck_ok h hn hc hk hx).mono ?_
  rintro e w1 ⟨rfl, g1⟩
  refine ⟨_, rfl, cnd_i (fun r => ?_) (fun r => ?_)⟩
  · have r : mayL tr l = false := by
      cases e : mayL tr l with
      | false => rfl
      | true => rw [e] at r; simp at r
    rw [r]
    exact ⟨none, 0, [], rfl, rfl, Ow.nil _ _ _, g1⟩
  have r : mayL tr l = true := by
    cases e : mayL tr l with
    | true => rfl
    | false => rw [e] at r; simp at r
  rw [r]
  have r' := r
  unfold mayL at r'
  simp only [Bool.and_eq_true] at r'
  obtain ⟨⟨r1, r2⟩, r3⟩ := r'
  obtain ⟨ok, hl⟩ := mayT_ok r1
  have hB := brk_iff.1 r3
  obtain ⟨hlit, hlen⟩ := clB_all r2
  refine (places_ok (h.grow g1) hn ok hl).mono ?_
  rintro e w3 ⟨b, rfl, M3, g3, fb⟩
  refine ⟨_, rfl, fun n5 w6 h6 n7 w8 h8 => ?_⟩
  have e5 := h6.num
  have e7 := h8.num
  have s1 := g1.size
  have s3 := g3.size
  have s6 := h6.size
  have lb := M3.lt
  have S8 : Stu w w8 n7 p n c tr b n5 := ⟨h, hn, ok, hl, ((g1.trans g3).trans h6.mod).trans h8.mod, h8.has, (M3.grow h6.mod).grow h8.mod, by omega, by omega, by omega⟩
  have M8 : MS Try.prog ty_int ty_bool w8 n5 0 fun _ => false := (MS.new h6).grow h8.mod
  refine (add_ok S8 M8 hc hk (by omega) hlit 0).mono ?_
  rintro e w9 ⟨rfl, S9, nb9, s9, hnb9, M9, hs9⟩
  have hs9' : ∀ x, s9 x = true ↔ x ∈ norm l := fun x => by
    rw [hs9 x, (norm_isN l).mem x]
    constructor
    · intro e; simp at e; exact e.1
    · intro e
      have := litB_bd (hlit x e)
      simp [e, this.1]
  have hBn : ∀ x ∈ norm l, Br1 tr x := fun x hx => hB x (((norm_isN l).mem x).1 hx)
  refine ⟨rfl, (top_ok S9 M9 hs9' (nodup_of_strict (norm_isN l).st) hBn).mono ?_⟩
  rintro e w10 ⟨L, N, P, rfl, T, g10⟩
  have hL := top_mx ok hBn T
  refine ⟨_, _, _, rfl, ?_⟩
  refine ⟨fun N P u z => ∃ (k : List Int) (nb : Nat) (s : Int → Bool) (L' : Int), TopR tr k L' N P ∧ In tr L k z ∧ z ≤ tr.length ∧ lrn tr L tr.length (norm l) = lrn tr L z k ∧ Stu w u n7 p n c tr b n5 ∧ MS Try.prog ty_int ty_bool u n5 nb s ∧ (∀ x, s x = true ↔ x ∈ k) ∧ nb ≤ 4096 + 256 * (tr.length - z),
    ⟨tr.length, norm l, nb9, s9, L, T, hL ▸ in0 ok hB, Nat.le_refl _, rfl, S9.grow g10, M9.grow g10, hs9', by omega⟩, ?_⟩
  rintro N1 P1 w19 z _ ⟨k, nb, s, L', T1, I1, hz, hlr, S, M, hs, hnb⟩
  obtain ⟨hN, hP⟩ := top_in T1 I1
  refine cnd_i (fun r => ?a1) (fun r => cnd_i (fun r1 => cnd_i (fun r2 => ?a2) (fun r2 => ?b1)) (fun r1 => ?b2))
  case' a1 => have hneg : ¬ (cntL tr k L = 0 ∨ cntL tr k L = 1 ∧ 0 < L) := by simp at r; omega
  case' a2 => have hneg : ¬ (cntL tr k L = 0 ∨ cntL tr k L = 1 ∧ 0 < L) := by simp at r1 r2; omega
  case' b1 => have hst : cntL tr k L = 0 ∨ cntL tr k L = 1 ∧ 0 < L := by have := mxL_nn tr (norm l); simp at r1 r2; omega
  case' b2 => have hst : cntL tr k L = 0 ∨ cntL tr k L = 1 ∧ 0 < L := by simp at r r1; omega
  case b1 | b2 =>
    refine (ordered_ok S M hs (nodup_of_strict I1.nd) I1.br).mono ?_
    rintro e w56 ⟨q2, d2, rfl, O, g56⟩
    have : lnd tr l = ordL tr k := by
      unfold lnd
      rw [hL, hlr, lrn_stop hst]
    refine ⟨_, _, _, rfl, q2, d2, _, rfl, ?_, ?_, S.G.trans g56⟩
    · rw [if_pos rfl, if_pos rfl, this]
    · rw [if_pos rfl, this]; exact O
  case a1 | a2 =>
    obtain ⟨x, hx, hlx, hPx, hmax⟩ := hP (by omega)
    clear hP
    have hbx := I1.br x hx
    generalize hpp : atN tr (am x) = pp at *
    have hp : pp < tr.length := hpp ▸ hbx.lt
    have hlit' : x = -(nth tr pp).lit := by have := hbx.eq; rw [hpp] at this; omega
    have hlev : (nth tr pp).lev = L := by rw [← hlx]; unfold lv; rw [hpp]
    obtain ⟨I2, hlr2, hrs, hpz⟩ := I1.step ok hneg hp hlev (hlit' ▸ hx) fun y hy hly => by have := hmax y hy hly; omega
    obtain ⟨rl, rm, rb⟩ := ok.reason hp hrs
    have hil := ok.isl pp hp
    have hbl := litB_bd hil
    have hri : ∀ y ∈ (nth tr pp).rs, isL y = true := fun y hy => by
      by_cases e : y = (nth tr pp).lit
      · rw [e]; exact hil
      · exact (rb y hy e).1.isl
    refine TV.ix2 h S.G hn pp hPx.symm hp fun a sl C e1 e2 v => ⟨_, _, _, _, _, C, fun n24 w25 h25 => asCopy h25 fun w26 H G26 => ?_⟩
    have en := h25.num
    have G26' := G26.trans (Mod.refl w26).drew
    have S26 := S.grow G26'
    have M26 := M.grow G26'
    have lm := M.lt
    obtain ⟨w30, hr, M30, m30⟩ := M26.del mapB_in (a := -(nth tr pp).lit) (wf_lit (isL_neg hil)) 0
    have S30 := S26.put m30
    have H30 : Has w30 n24 _ := H.drew.keep m30 fun (e : n24 = _) => by omega
    have ew : IntKind.i64.wrap (0 - (nth tr pp).lit) = -(nth tr pp).lit := by rw [wrap64_of (by omega) (by omega), Int.zero_sub]
    refine ⟨_, rfl, _, cell_add S26.h rfl, _, cell_add H.drew rfl, w30, by rw [ew]; exact hr, _, _, _, cell_add H30 rfl, _, cell_add H30 rfl, (add_ok S30 M30 v e1 (by omega) hri _).mono ?_⟩
    rintro e w33 ⟨rfl, S33, nb', s', hnb', M33, hs'⟩
    have hs2 : ∀ y, s' y = true ↔ y ∈ stepN tr pp k := fun y => by
      rw [hs' y, stepN_mem, Bool.or_eq_true, decide_eq_true_eq]
      refine or_congr ?_ Iff.rfl
      by_cases e : y = -(nth tr pp).lit
      · rw [if_pos e]; simp [e]
      · rw [if_neg e, hs y]; exact ⟨fun a => ⟨a, e⟩, fun a => a.1⟩
    refine ⟨rfl, (top_ok S33 M33 hs2 (nodup_of_strict I2.nd) I2.br).mono ?_⟩
    rintro e w34 ⟨L2, N2, P2, rfl, T2, g34⟩
    exact ⟨_, _, _, rfl, pp, hpz, _, nb', s', L2, T2, I2, by omega, hlr.trans hlr2, S33.grow g34, M33.grow g34, hs2, by omega⟩
end Go.Proofs.Ytlpmapeojecenaa.W
