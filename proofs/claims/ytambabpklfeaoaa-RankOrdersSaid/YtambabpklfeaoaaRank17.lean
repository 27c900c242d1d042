/- Layer 19: the theorem of reaching. -/
import Derived.Test.YtambabpklfeaoaaRank16
import Derived.Test.YtambabpklfeaoaaTs10
namespace Go.Proofs.Ytambabpklfeaoaa.W
open Go Go.Fw Go.RowKit Go.TsP Go.RankP

theorem mayG_rep (N : Nat) (hN : N ≤ 1048576) : mayG (List.replicate N (-1, -1)) = true := by
  unfold mayG
  rw [List.length_replicate, decide_eq_true hN, Bool.true_and, List.all_eq_true]
  intro i hi
  have hi := List.mem_range.1 hi
  have : (List.replicate N ((-1 : Int), (-1 : Int))).getD i (0, 0) = (-1, -1) := by simp [List.getD, hi]
  rw [this]
  rfl
theorem cntIn_rep (N : Nat) : ∀ t, t ≤ N → cntIn (List.replicate N (-1, -1)) t = t
  | 0, _ => rfl
  | t + 1, h => by
    have : (List.replicate N ((-1 : Int), (-1 : Int))).getD t (0, 0) = (-1, -1) := by simp [List.getD, show t < N by omega]
    rw [cntIn_succ, cntIn_rep N t (by omega), this]; rfl
theorem truth_rep {N : Nat} (hN : N ≤ 1048576) (ins : List Bool) {k : Nat} (hk : k < N) : truth (List.replicate N (-1, -1)) ins (2 * ((k + 1 : Nat) : Int)) = ins.getD k false ∧ truth (List.replicate N (-1, -1)) ins (2 * ((k + 1 : Nat) : Int) + 1) = !ins.getD k false := by
  have hg := mayG_rep N hN
  have e0 : (List.replicate N ((-1 : Int), (-1 : Int))).getD k (0, 0) = (-1, -1) := by simp [List.getD, hk]
  have t1 := truth_node (ins := ins) hg (i := k) (by simpa using hk) (l := 2 * ((k + 1 : Nat) : Int)) (by omega) (by omega)
  have t2 := truth_node (ins := ins) hg (i := k) (by simpa using hk) (l := 2 * ((k + 1 : Nat) : Int) + 1) (by omega) (by omega)
  rw [e0, if_neg (by decide), cntIn_rep N k (by omega)] at t1 t2
  rw [t1, t2, show (2 * ((k + 1 : Nat) : Int) % 2 == 1) = false by simp, show ((2 * ((k + 1 : Nat) : Int) + 1) % 2 == 1) = true by simp <;> omega]
  cases ins.getD k false <;> exact ⟨rfl, rfl⟩

/-- What must be and edges are asked just if the square is closed and has the edges. -/
theorem asked_reach {n : Nat} (hn : n ≤ 40) {ins eds : List Bool} {R L : List (List Int)} (hR : rowsAre n R (rchM n 0 (n * n))) (hL : ∀ i j, i < n → j < n → (L.getD i []).getD j 0 = if eds.getD (i * n + j) false then 1 else 0) :
    askedP (List.replicate (n * n) (-1, -1)) (mustR (rchM n 0 (n * n)) n n ++ edO (fun i j => (R.getD i []).getD j 0) L n n) ins = true ↔
      (∀ i j k, i < n → j < n → k < n → i ≠ j → j ≠ k → ins.getD (i * n + j) false = true → ins.getD (j * n + k) false = true → ins.getD (i * n + k) false = true) ∧ (∀ i j, i < n → j < n → eds.getD (i * n + j) false = true → ins.getD (i * n + j) false = true) := by
  have hN : n * n ≤ 1048576 := Nat.le_trans (Nat.mul_le_mul hn hn) (by omega)
  have lt : ∀ i j, i < n → j < n → i * n + j < n * n := fun i j hi hj => by
    have : (i + 1) * n ≤ n * n := Nat.mul_le_mul_right _ hi
    rw [Nat.add_mul, Nat.one_mul] at this; omega
  have ev : ∀ i j, i < n → j < n → rchM n 0 (n * n) i j = 2 * ((i * n + j + 1 : Nat) : Int) := fun i j hi hj => by
    unfold rchM; rw [if_pos (lt i j hi hj), Nat.zero_add]
  have tr : ∀ i j, i < n → j < n → truth (List.replicate (n * n) (-1, -1)) ins (rchM n 0 (n * n) i j) = ins.getD (i * n + j) false ∧ truth (List.replicate (n * n) (-1, -1)) ins (flip (rchM n 0 (n * n) i j)) = !ins.getD (i * n + j) false := fun i j hi hj => by
    have := truth_rep hN ins (lt i j hi hj)
    rw [ev i j hi hj]
    refine ⟨this.1, ?_⟩
    unfold flip
    rw [if_pos (by omega)]
    exact this.2
  unfold askedP
  rw [List.all_append, Bool.and_eq_true]
  refine and_congr ?_ ?_
  · rw [List.all_eq_true]
    constructor
    · intro h i j k hi hj hk d1 d2 h1 h2
      have := h [flip (rchM n 0 (n * n) i j), flip (rchM n 0 (n * n) j k), rchM n 0 (n * n) i k] (by
        refine List.mem_flatMap.2 ⟨i, List.mem_range.2 hi, List.mem_flatMap.2 ⟨j, List.mem_range.2 hj, List.mem_flatMap.2 ⟨k, List.mem_range.2 hk, ?_⟩⟩⟩
        unfold mustRK
        rw [if_pos ⟨d1, d2⟩]; exact List.mem_singleton.2 rfl)
      simp only [List.any_cons, List.any_nil, Bool.or_false, (tr i j hi hj).2, (tr j k hj hk).2, (tr i k hi hk).1, h1, h2, Bool.not_true, Bool.false_or] at this
      exact this
    · intro h c hc
      obtain ⟨i, hi, hc⟩ := List.mem_flatMap.1 hc
      obtain ⟨j, hj, hc⟩ := List.mem_flatMap.1 hc
      obtain ⟨k, hk, hc⟩ := List.mem_flatMap.1 hc
      have hi := List.mem_range.1 hi
      have hj := List.mem_range.1 hj
      have hk := List.mem_range.1 hk
      unfold mustRK at hc
      split at hc
      · rename_i hd
        have := List.mem_singleton.1 hc
        subst this
        simp only [List.any_cons, List.any_nil, Bool.or_false, (tr i j hi hj).2, (tr j k hj hk).2, (tr i k hi hk).1]
        have := h i j k hi hj hk hd.1 hd.2
        cases h1 : ins.getD (i * n + j) false <;> cases h2 : ins.getD (j * n + k) false <;> simp only [Bool.not_false, Bool.not_true, Bool.true_or, Bool.or_true, Bool.false_or]
        exact this h1 h2
      · cases hc
  · rw [List.all_eq_true]
    have tk : ∀ i j, i < n → j < n → (R.getD i []).getD j 0 = rchM n 0 (n * n) i j := fun i j hi hj => (hR.2 i hi).2 j hj
    constructor
    · intro h i j hi hj he
      have := h [flip 1, (R.getD i []).getD j 0] (by
        refine List.mem_flatMap.2 ⟨i, List.mem_range.2 hi, List.mem_flatMap.2 ⟨j, List.mem_range.2 hj, ?_⟩⟩
        unfold edK
        rw [hL i j hi hj, he, if_pos rfl, if_pos (by decide)]; exact List.mem_singleton.2 rfl)
      simp only [List.any_cons, List.any_nil, Bool.or_false, tk i j hi hj, (tr i j hi hj).1] at this
      rw [show truth (List.replicate (n * n) (-1, -1)) ins (flip 1) = false from truth_lt (by decide), Bool.false_or] at this
      exact this
    · intro h c hc
      obtain ⟨i, hi, hc⟩ := List.mem_flatMap.1 hc
      obtain ⟨j, hj, hc⟩ := List.mem_flatMap.1 hc
      have hi := List.mem_range.1 hi
      have hj := List.mem_range.1 hj
      unfold edK at hc
      rw [hL i j hi hj] at hc
      by_cases he : eds.getD (i * n + j) false = true
      · rw [if_pos he, if_pos (by decide)] at hc
        have := List.mem_singleton.1 hc
        subst this
        simp only [List.any_cons, List.any_nil, Bool.or_false, tk i j hi hj, (tr i j hi hj).1, h i j hi hj he, Bool.or_true]
      · rw [if_neg he, if_neg (by decide)] at hc
        cases hc

theorem flat_le {α β : Type} {f : α → List β} {b : Nat} (h : ∀ x, (f x).length ≤ b) : ∀ l : List α, (l.flatMap f).length ≤ l.length * b
  | [] => by simp
  | x :: l => by
    have := flat_le h l
    have := h x
    rw [List.flatMap_cons, List.length_append, List.length_cons, Nat.add_mul, Nat.one_mul]
    omega
theorem mustR_len (A : Nat → Nat → Int) (n m : Nat) : (mustR A n m).length ≤ m * (n * n) := by
  have h3 : ∀ i j, (mustRJ A i j n).length ≤ n := fun i j => by
    have := flat_le (f := mustRK A i j) (b := 1) (fun k => by unfold mustRK; split <;> simp) (List.range n)
    rwa [List.length_range, Nat.mul_one] at this
  have h2 : ∀ i, (mustRI A n i n).length ≤ n * n := fun i => by
    have := flat_le (f := fun j => mustRJ A i j n) (b := n) (h3 i) (List.range n)
    rwa [List.length_range] at this
  have := flat_le (f := fun i => mustRI A n i n) (b := n * n) h2 (List.range m)
  rwa [List.length_range] at this
theorem edO_len (A : Nat → Nat → Int) (E : List (List Int)) (n m : Nat) : (edO A E n m).length ≤ m * n := by
  have h2 : ∀ i, (edI A E i n).length ≤ n := fun i => by
    have := flat_le (f := edK A E i) (b := 1) (fun k => by unfold edK; split <;> simp) (List.range n)
    rwa [List.length_range, Nat.mul_one] at this
  have := flat_le (f := fun i => edI A E i n) (b := n) h2 (List.range m)
  rwa [List.length_range] at this

/-- A row more. -/
theorem OSt2.appS {w9 w : World} {mp : Option Addr} {mn mc : Nat} {L : List (List Int)} (h : OSt2 w9 w mp mn mc L) (hb : mn ≤ 1000000) {s : Sl} {l : List Int} (hl : Vw (Value.int .i64) w s.p l) (hn : s.n = l.length) (hm : s.n ≤ maxLen) (hf : ∀ k, blk s.p = some k → w9.heap.size ≤ k) (hd : ∀ k, blk s.p = some k → blk mp ≠ some k) {K : World → Option Addr → Nat → Nat → Prop}
    (hk : ∀ w' mp' mc', OSt2 w9 w' mp' (mn + 1) mc' (L ++ [l]) → Mod (fun k => blk mp = some k) w w' → (∀ k, blk mp' = some k → blk mp = some k ∨ w.heap.size ≤ k) → K w' mp' (mn + 1) mc') :
    ∀ (n74 : Nat) (w75 : World), New (.cells #[.slice s.p s.n s.c] ty_sl_int) w n74 w75 → 
      ∃ w76 : World, ∃ r77_p : Option Addr, ∃ r77_n : Nat, ∃ r77_c : Nat, (Builtin.append_ #[ty_sl_sl_int, ty_sl_sl_int] ty_sl_sl_int #[.slice mp mn mc, .slice (some (Addr.mk n74 0 none)) 1 1]).run Try.prog w75 = .ok (.slice r77_p r77_n r77_c) w76 ∧ K w76 r77_p r77_n r77_c := by
  intro n74 w75 h74
  obtain ⟨h1, ms, o, hfo, G⟩ := h
  have olt := o.lt
  have o75 := o.grow h74.mod
  have G75 := G.trans h74.mod
  have hv : Vw Sl.v w75 (some ⟨n74, 0, none⟩) [s] := by
    intro j hj
    have : j = 0 := by simpa using hj
    subst this
    exact ⟨_, rfl, cell_add h74.has rfl⟩
  have rf : ∀ k, rfoot [s] k → blk s.p = some k := fun k ⟨s', hm, _, hk⟩ => by
    simp at hm; subst hm
    exact hk
  have oh := o.v.n
  refine o75.app sl_sl_int hv (VR.one (hl.grow h74.mod) hn hm) (by omega) rfl (fun k hk e => hd k (rf k hk) e) (by simp; omega) fun w76 p' c' o' m hp hsz => ?_
  have z := G.size
  have e : (ms ++ [s]).length = mn + 1 := by simp; omega
  rw [e]
  have z74 := h74.mod.size
  refine hk w76 p' c' ⟨by simp [h1], _, o', ?_, G75.then m fun k hk e => by have := hfo k (.inl e); omega⟩ ((h74.mod.mono fun _ _ => False.elim).trans m) fun k hk => ?_
  · rintro k (e | e)
    · rcases hp with h2 | h2 <;> rw [h2] at e
      · exact hfo k (.inl e)
      · have := blk_some e; have := G75.size; omega
    · rcases rfoot_app.1 e with e | e
      · exact hfo k (.inr e)
      · exact hf k (rf k e)
  · rcases hp with h2 | h2 <;> rw [h2] at hk
    · exact .inl hk
    · have := blk_some hk; exact .inr (by omega)

theorem RankReaches_calls {W : World} {size : Int} (h0 : 0 ≤ size ∧ size < 256) {p q : Option Addr} {c d : Nat} {eds ins : List Bool} (he : Vw Value.bool W p eds) (hi : Vw Value.bool W q ins) (hix : ins.length ≤ maxLen) :
    Calls Try.prog fathomlaw19_RankReaches.id #[.int .u8 size, .slice p eds.length c, .slice q ins.length d] W fun e W' => e = .returned (.bool true) ∧ Grow W W' := by
  refine fathomlaw19_RankReaches.calls ?_
  obtain ⟨n, hn, hn4⟩ : ∃ n : Nat, size.tmod 5 = n ∧ n ≤ 4 := ⟨(size.tmod 5).toNat, by rw [Int.tmod_eq_emod_of_nonneg h0.1]; omega, by rw [Int.tmod_eq_emod_of_nonneg h0.1]; omega⟩
  unfold fathomlaw19_RankReaches.w
  have hnn : n * n ≤ 16 := Nat.le_trans (Nat.mul_le_mul hn4 hn4) (by omega)
  have e1 : IntKind.i64.wrap (size.tmod 5) = n := by rw [hn]; exact wrap64_of (by omega) (by omega)
  have e2 : IntKind.i64.wrap ((n : Int) * n) = ((n * n : Nat) : Int) := by rw [← Int.natCast_mul, wrap64_of (by omega) (by omega)]
  rw [e1, e2]
  refine ⟨by decide, (aigNew_ok W).mono ?_⟩
  rintro e w1 ⟨b, x, rfl, hx, hg, hf, g1⟩
  have hl : x.g.length = 0 := by rw [hg]; rfl
  refine ⟨_, rfl, (reach_ok hx n (by omega) (by omega)).mono ?_⟩
  rintro e w3 ⟨pr, cr, hr, pm, cm, ms, R, y, rfl, S, OM, _⟩
  have yg : y.g = List.replicate (n * n) (-1, -1) := by rw [S.g, hg]; rfl
  have yl : y.g.length = n * n := by rw [yg]; simp
  have hRm := S.m
  rw [hl] at hRm OM ⊢
  have G3 : Grow W w3 := g1.then S.M fun k hk e => by have := hf k e; omega
  have hRl : R.length = n := hRm.1
  refine ⟨_, _, _, _, _, _, rfl, cnd_f (bne_self_eq_false _) ((aigLen_ok S.a).mono ?_)⟩
  rintro e w6 ⟨rfl, g6⟩
  refine ⟨_, rfl, cnd_f (by rw [yl]; exact bne_self_eq_false _) ((filledV_ok (by omega) (he.grow (G3.trans g6)) rfl).mono ?_)⟩
  rintro e w8 ⟨⟨pe, ce, hse, Ee, rfl, SE, EV, _⟩, g8⟩
  refine ⟨_, _, _, rfl, ?_⟩
  intro n10 w11 h11
  have G11 := ((G3.trans g6).trans g8).trans h11.mod
  refine (filledV_ok (by omega) (hi.grow G11) rfl).mono ?_
  rintro e w12 ⟨⟨ps, cs, hss, Ss, rfl, SS, SV, fS⟩, g12⟩
  have G12 := G11.trans g12
  have O12 : OV (Value.int .i64) ty_sl_int w12 (some ⟨n10, 0, none⟩) 0 [] [] := ⟨(Ow.of_some (c := 0) (l := []) h11.at (Nat.le_refl _) (Nat.zero_le _) rfl rfl).grow g12, VR.nil, fun k ⟨s, hs, _⟩ => by simp at hs⟩
  have T0 : OSt2 w8 w12 (some ⟨n10, 0, none⟩) 0 0 [] := ⟨rfl, [], O12, (by rintro k (e | ⟨s, hs, _⟩); (have := blk_some e; have := h11.num; omega); (simp at hs)), h11.mod.trans g12⟩
  refine ⟨_, _, _, rfl, ?_⟩
  have ew : ∀ t : Nat, t < n → IntKind.i64.wrap ((t : Int) + 1) = ((t + 1 : Nat) : Int) := fun t ht => by rw [wrap64_of (by omega) (by omega)]; omega
  refine ⟨fun lp ln lc fits v w' k => ∃ (i : Nat) (L : List (List Int)), v = i ∧ i ≤ n ∧ k + i = n ∧ ln = i ∧ L.length = i ∧ (∀ a, a < i → (L.getD a []).length = n ∧ ∀ b, b < n → (L.getD a []).getD b 0 = if eds.getD (a * n + b) false then 1 else 0) ∧ (fits = true ↔ ∀ a b, a < i → b < n → eds.getD (a * n + b) false = true → ins.getD (a * n + b) false = true) ∧ OSt2 w8 w' lp ln lc L ∧ (∀ k, blk lp = some k → k = n10 ∨ w12.heap.size ≤ k) ∧ Mod (fun k => k = n10) w12 w',
    ⟨n, 0, [], rfl, by omega, rfl, rfl, rfl, fun a ha => by omega, ⟨fun _ a b ha => by omega, fun _ => rfl⟩, T0, fun k hk => .inl (blk_some hk), Mod.refl _⟩, ?_⟩
  clear O12 T0
  rintro lp ln lc fits v w20 k _ ⟨i, L, rfl, hin, hk, rfl, hLl, hL, hfit, T, fl, M20⟩
  have e10 := h11.num
  have z11 := New.size h11
  have z12 := g12.size
  have z20 := M20.size
  have SS : SqV w20 ps n hss Ss := ⟨SS.v.keep M20 fun k hk e => by have := fS k hk; omega, SS.n, SS.small, SS.sq⟩
  obtain ⟨_, _, _, _, G820⟩ := id T
  refine cnd_i (fun s => ?_) (fun s => ?_) <;> simp only [decide_eq_true_eq, decide_eq_false_iff_not] at s
  · have hi' : ln < n := by omega
    rw [ew ln hi']
    intro n21 w22 h21
    have e21 := h21.num
    have R0 : OwI ty_int w22 (some ⟨n21, 0, none⟩) 0 [] := Ow.of_some h21.at (Nat.le_refl _) (Nat.zero_le _) rfl rfl
    have T22 := T.grow h21.mod
    refine ⟨fun fits rp rn rc v w' m => ∃ (j : Nat) (r : List Int), v = j ∧ j ≤ n ∧ m + j = n ∧ rn = j ∧ r.length = j ∧ (∀ b, b < j → r.getD b 0 = if eds.getD (ln * n + b) false then 1 else 0) ∧ (fits = true ↔ (∀ a b, a < ln → b < n → eds.getD (a * n + b) false = true → ins.getD (a * n + b) false = true) ∧ ∀ b, b < j → eds.getD (ln * n + b) false = true → ins.getD (ln * n + b) false = true) ∧ OwI ty_int w' rp rc r ∧ (∀ k, blk rp = some k → w20.heap.size ≤ k) ∧ Grow w20 w',
      ⟨n, 0, [], rfl, by omega, rfl, rfl, rfl, fun b hb => by omega, by rw [hfit]; exact ⟨fun h => ⟨h, fun b hb => by omega⟩, fun h => h.1⟩, R0, fun k hk => by have := blk_some hk; omega, h21.mod⟩, ?_⟩
    clear T22 R0
    rintro fits2 rp rn rc v w29 z _ ⟨j, r, rfl, hjn, hz, rfl, hrl, hrv, hfit2, OR, fr, G29⟩
    refine cnd_i (fun s2 => ?_) (fun s2 => ?_) <;> simp only [decide_eq_true_eq, decide_eq_false_iff_not] at s2
    · have hj' : rn < n := by omega
      rw [ew rn hj']
      have step : ∀ f', (f' = true ↔ fits2 = true ∧ (eds.getD (ln * n + rn) false = true → ins.getD (ln * n + rn) false = true)) → (f' = true ↔ (∀ a b, a < ln → b < n → eds.getD (a * n + b) false = true → ins.getD (a * n + b) false = true) ∧ ∀ b, b < rn + 1 → eds.getD (ln * n + b) false = true → ins.getD (ln * n + b) false = true) := by
        intro f' hf'
        rw [hf', hfit2]
        constructor
        · rintro ⟨⟨h1, h2⟩, h3⟩
          refine ⟨h1, fun b hb => ?_⟩
          by_cases e : b < rn
          · exact h2 b e
          · have : b = rn := by omega
            subst this; exact h3
        · rintro ⟨h1, h2⟩
          exact ⟨⟨h1, fun b hb => h2 b (by omega)⟩, h2 rn (by omega)⟩
      have rE : ∀ {w' : World} {K : Bool → Prop}, Grow w20 w' → K (eds.getD (ln * n + rn) false) → ixK pe n (ln : Int) 1 fun a30 =>
            ∃ x31_p : Option Addr, ∃ x31_n : Nat, ∃ x31_c : Nat, w'.cell? a30 = some (.slice x31_p x31_n x31_c) ∧ 
            ixK x31_p x31_n (rn : Int) 1 fun a32 => ∃ x33 : Bool, w'.cell? a32 = some (.bool x33) ∧ K x33 := fun gg hk =>
        SE.read (G820.trans gg) hi' hj' (by rw [show mB Ee ln rn = (Ee.getD ln []).getD rn false from rfl, EV ln rn hi' hj']; exact hk)
      have rS : ∀ {w' : World} {K : Bool → Prop}, Grow w20 w' → K (ins.getD (ln * n + rn) false) → ixK ps n (ln : Int) 1 fun a30 =>
            ∃ x31_p : Option Addr, ∃ x31_n : Nat, ∃ x31_c : Nat, w'.cell? a30 = some (.slice x31_p x31_n x31_c) ∧ 
            ixK x31_p x31_n (rn : Int) 1 fun a32 => ∃ x33 : Bool, w'.cell? a32 = some (.bool x33) ∧ K x33 := fun gg hk =>
        SS.read gg hi' hj' (by rw [show mB Ss ln rn = (Ss.getD ln []).getD rn false from rfl, SV ln rn hi' hj']; exact hk)
      have push : ∀ (yv : Int) {K : World → Option Addr → Nat → Nat → Prop}, yv = (if eds.getD (ln * n + rn) false then 1 else 0) → (∀ w' rp' rc', OwI ty_int w' rp' rc' (r ++ [yv]) → (∀ k, blk rp' = some k → w20.heap.size ≤ k) → Grow w20 w' → K w' rp' (rn + 1) rc') → ∀ (n34 : Nat) (w35 : World), New (.cells #[.int .i64 yv] 3) w29 n34 w35 → 
              ∃ w36 : World, ∃ r37_p : Option Addr, ∃ r37_n : Nat, ∃ r37_c : Nat, (Builtin.append_ #[24, 24] 24 #[.slice rp rn rc, .slice (some (Addr.mk n34 0 none)) 1 1]).run Try.prog w35 = .ok (.slice r37_p r37_n r37_c) w36 ∧ K w36 r37_p r37_n r37_c := by
        intro yv K _ hK n34 w35 h35
        have G35 := G29.trans h35.mod
        have hlen : r.length + 1 = rn + 1 := by omega
        refine (OR.grow h35.mod).app1 sl_int yv h35.has rfl hrl.symm oneInt (by omega) fun w36 p36 c36 O36 m36 hp z36 => ?_
        rw [hlen]
        refine hK w36 p36 c36 O36 (fun k hk => ?_) (G35.then m36 fun k hk e => by have := fr k e; omega)
        rcases hp with h1 | h1 <;> rw [h1] at hk
        · exact fr k hk
        · have := blk_some hk; have := G35.size; omega
      have nxt : ∀ w' rp' rc' f' (yv : Int), yv = (if eds.getD (ln * n + rn) false then 1 else 0) → OwI ty_int w' rp' rc' (r ++ [yv]) → (∀ k, blk rp' = some k → w20.heap.size ≤ k) → Grow w20 w' → (f' = true ↔ fits2 = true ∧ (eds.getD (ln * n + rn) false = true → ins.getD (ln * n + rn) false = true)) →
          ∃ k25 : Nat, k25 < z ∧ ∃ (j : Nat) (r : List Int), ((rn + 1 : Nat) : Int) = j ∧ j ≤ n ∧ k25 + j = n ∧ rn + 1 = j ∧ r.length = j ∧ (∀ b, b < j → r.getD b 0 = if eds.getD (ln * n + b) false then 1 else 0) ∧ (f' = true ↔ (∀ a b, a < ln → b < n → eds.getD (a * n + b) false = true → ins.getD (a * n + b) false = true) ∧ ∀ b, b < j → eds.getD (ln * n + b) false = true → ins.getD (ln * n + b) false = true) ∧ OwI ty_int w' rp' rc' r ∧ (∀ k, blk rp' = some k → w20.heap.size ≤ k) ∧ Grow w20 w' := by
        intro w' rp' rc' f' yv hy O' fr' gg hf'
        refine ⟨z - 1, by omega, rn + 1, _, rfl, by omega, by omega, rfl, by simp [hrl], fun b hb => ?_, step f' hf', O', fr', gg⟩
        rw [getD_app, hrl]
        by_cases e : b = rn
        · rw [if_pos e, hy, e]
        · rw [if_neg e]; exact hrv b (by omega)
      refine rE G29 (cnd_i (fun s3 => push 1 (by rw [s3]; rfl) fun w' rp' rc' O' fr' gg => ?_) (fun s3 => push 0 (by rw [s3]; rfl) fun w' rp' rc' O' fr' gg => ?_))
      · refine cnd_i (fun s4 => rE gg (cnd_f (by rw [s3]; rfl) (rS gg (nxt w' rp' rc' _ 1 (by rw [s3]; rfl) O' fr' gg ?_)))) (fun s4 => nxt w' rp' rc' _ 1 (by rw [s3]; rfl) O' fr' gg ?_)
        · rw [s4, s3]; simp
        · rw [s4]; simp
      · refine cnd_i (fun s4 => rE gg (cnd_t (by rw [s3]; rfl) (nxt w' rp' rc' _ 0 (by rw [s3]; rfl) O' fr' gg ?_))) (fun s4 => nxt w' rp' rc' _ 0 (by rw [s3]; rfl) O' fr' gg ?_)
        · rw [s4, s3]; simp
        · rw [s4]; simp
    · have ej : rn = n := by omega
      have T29 := T.grow G29
      obtain ⟨_, ms2, o2, hfo2, _⟩ := id T
      have olt := o2.lt
      have z8 : w8.heap.size ≤ w20.heap.size := G820.size
      refine T29.appS (s := ⟨rp, rn, rc⟩) (by omega) OR.vw (by simp [hrl]) (by unfold maxLen; simp only; omega) (fun k hk => by have := fr k hk; omega) (fun k hk e => by have := fr k hk; have := olt k (.inl e); omega) fun w60 mp' mc' T' m60 f60 => ⟨k - 1, by omega, ln + 1, _, rfl, by omega, by omega, rfl, by simp [hLl], fun a ha => ?_, ?_, T', fun k hk => ?_, ?_⟩
      · rw [getD_app, hLl]
        by_cases e : a = ln
        · rw [if_pos e, e]
          exact ⟨by omega, fun b hb => hrv b (by omega)⟩
        · rw [if_neg e]
          exact hL a (by omega)
      · rw [hfit2]
        constructor
        · rintro ⟨h1, h2⟩ a b ha hb
          by_cases e : a < ln
          · exact h1 a b e hb
          · have : a = ln := by omega
            subst this; exact h2 b (by omega)
        · intro h
          exact ⟨fun a b ha hb => h a b (by omega) hb, fun b hb => h ln b (by omega) (by omega)⟩
      · have z29 := G29.size
        rcases f60 k hk with e | e
        · exact fl k e
        · exact .inr (by omega)
      · exact (M20.grow G29).then m60 fun k hk e => by
          rcases fl k e with e2 | e2
          · exact e2
          · omega
  · have ein : ln = n := by omega
    subst ein
    obtain ⟨_, ml, OL, hfl, _⟩ := T
    have hN : y.g.length ≤ 1048576 := by rw [yl]; omega
    have g38 := g6.trans g8
    have G20 : Grow w3 w20 := g38.trans G820
    have Y20 := S.a.grow G20
    have OM20 := OM.v2.grow G20
    have RV20 := S.o.v2.grow G20
    intro n62 w63 h63
    have e62 := h63.num
    have z63 := New.size h63
    have A0 : OV (Value.int .i64) ty_sl_int w63 (some ⟨n62, 0, none⟩) 0 [] [] := ⟨Ow.of_some h63.at (Nat.le_refl _) (Nat.zero_le _) rfl rfl, VR.nil, fun k ⟨s, hs, _⟩ => by simp at hs⟩
    have OM63 := OM20.grow h63.mod
    have hms : ∀ k, rfoot ms k → k < w3.heap.size := OM.v2.vr.lt
    have z320 := G20.size
    have hmul := mustR_len (rchM ln 0 (ln * ln)) ln ln
    have hmb : (mustR (rchM ln 0 (ln * ln)) ln ln).length ≤ 64 := Nat.le_trans hmul (by
      have : ln * ln ≤ 4 * 4 := Nat.mul_le_mul hn4 hn4
      have : ln * (ln * ln) ≤ 4 * 16 := Nat.mul_le_mul hn4 (by omega)
      omega)
    refine A0.app sl_sl_int OM63.h OM63.vr rfl OM63.n.symm (fun k hk e => by have := hms k hk; have := blk_some e; omega) (by rw [OM63.n]; simp; omega) fun w64 p64 c64 A64 m64 hp64 z64 => ?_
    rw [List.nil_append, List.nil_append] at A64
    rw [List.nil_append]
    have g64 : Grow w20 w64 := h63.mod.then m64 fun k hk e => by have := blk_some e; omega
    have f64 : ∀ k, blk p64 = some k → w20.heap.size ≤ k := fun k hk => by
      rcases hp64 with h1 | h1 <;> rw [h1] at hk
      · have := blk_some hk; omega
      · have := blk_some hk; omega
    have hsqR : isSq y.g.length R = true := by
      unfold isSq
      rw [decide_eq_true (by omega), Bool.true_and, List.all_eq_true]
      intro r hr
      obtain ⟨i, hi⟩ := List.getElem?_of_mem hr
      have hil := (List.getElem?_eq_some_iff.1 hi).1
      have er : R.getD i [] = r := by simp [List.getD, hi]
      have := hRm.2 i (by omega)
      rw [er] at this
      rw [Bool.and_eq_true, List.all_eq_true]
      refine ⟨decide_eq_true (by omega), fun l hl2 => ?_⟩
      obtain ⟨j, hj⟩ := List.getElem?_of_mem hl2
      have hjl := (List.getElem?_eq_some_iff.1 hj).1
      have ej : r.getD j 0 = l := by simp [List.getD, hj]
      rw [← ej, this.2 j (by omega)]
      have := rchM_bd (n := ln) (g0 := 0) (t := ln * ln) i j
      unfold isL
      exact decide_eq_true ⟨this.1, by rw [yl]; omega⟩
    have hsqL : isSq y.g.length L = true := by
      unfold isSq
      rw [decide_eq_true (by omega), Bool.true_and, List.all_eq_true]
      intro r hr
      obtain ⟨i, hi⟩ := List.getElem?_of_mem hr
      have hil := (List.getElem?_eq_some_iff.1 hi).1
      have er : L.getD i [] = r := by simp [List.getD, hi]
      have := hL i (by omega)
      rw [er] at this
      rw [Bool.and_eq_true, List.all_eq_true]
      refine ⟨decide_eq_true (by omega), fun l hl2 => ?_⟩
      obtain ⟨j, hj⟩ := List.getElem?_of_mem hl2
      have hjl := (List.getElem?_eq_some_iff.1 hj).1
      have ej : r.getD j 0 = l := by simp [List.getD, hj]
      rw [← ej, this.2 j (by omega)]
      unfold isL
      refine decide_eq_true ?_
      split <;> omega
    refine (edges_ok (Y20.grow g64) hN (RV20.grow g64) hRl.symm (OL.v2.grow g64) hLl.symm hsqR hsqL (by omega)).mono ?_
    rintro e w66 ⟨po, no, co, rfl, hno, me, OE, hfe, G66⟩
    refine ⟨_, _, _, rfl, ?_⟩
    have A66 := A64.grow G66
    have hlA := A64.lt
    have hel := edO_len (fun i j => (R.getD i []).getD j 0) L ln ln
    have heb : (edO (fun i j => (R.getD i []).getD j 0) L ln ln).length ≤ 16 := Nat.le_trans hel hnn
    have OE2 := OE.v2
    have hmsl : ms.length = (mustR (rchM ln 0 (ln * ln)) ln ln).length := OM63.n
    have hmel := OE.v.n
    refine A66.app sl_sl_int OE2.h OE2.vr (by omega) (by omega) (fun k hk e => by have := hfe k (.inr hk); have := hlA k (.inl e); omega) (by omega) fun w68 p68 c68 A68 m68 hp68 z68 => ?_
    have g68 : Grow w20 w68 := (g64.trans G66).then m68 fun k hk e => by have := f64 k e; omega
    refine (nodes_ok (Y20.grow g68) hN).mono ?_
    rintro e w70 ⟨pn, cn, rfl, VN, g70⟩
    rw [yg] at VN
    have G70 : Grow W w70 := ((G3.trans G20).trans g68).trans g70
    have yl2 : y.g.length = (List.replicate (ln * ln) ((-1 : Int), (-1 : Int))).length := by rw [yl]; simp
    have hal : (ms ++ me).length = (mustR (rchM ln 0 (ln * ln)) ln ln ++ edO (fun i j => (R.getD i []).getD j 0) L ln ln).length := A68.v.n
    refine ⟨_, _, _, rfl, (refAsked_ok yl2 (by rw [yl]; omega) hal (by rw [hal, List.length_append]; unfold maxLen; omega) rfl hix (mayG_rep _ (by omega)) (fun t ht l hl2 => ?_) VN (A68.grow g70).v2 (hi.grow G70)).mono ?_⟩
    · have hc : (mustR (rchM ln 0 (ln * ln)) ln ln ++ edO (fun i j => (R.getD i []).getD j 0) L ln ln).getD t [] ∈ (mustR (rchM ln 0 (ln * ln)) ln ln ++ edO (fun i j => (R.getD i []).getD j 0) L ln ln) := by
        rw [List.getD_eq_getElem?_getD, List.getElem?_eq_getElem ht]
        exact List.getElem_mem ht
      generalize (mustR (rchM ln 0 (ln * ln)) ln ln ++ edO (fun i j => (R.getD i []).getD j 0) L ln ln).getD t [] = cc at *
      rw [List.length_replicate]
      have fb : ∀ i j, i < ln → j < ln → 0 ≤ rchM ln 0 (ln * ln) i j ∧ rchM ln 0 (ln * ln) i j ≤ 2 * ((ln * ln : Nat) : Int) + 1 ∧ 0 ≤ flip (rchM ln 0 (ln * ln) i j) ∧ flip (rchM ln 0 (ln * ln) i j) ≤ 2 * ((ln * ln : Nat) : Int) + 1 := fun i j _ _ => by
        have := rchM_bd (n := ln) (g0 := 0) (t := ln * ln) i j
        unfold flip
        split <;> omega
      rcases List.mem_append.1 hc with hc | hc
      · obtain ⟨i, hi1, hc⟩ := List.mem_flatMap.1 hc
        obtain ⟨j, hj1, hc⟩ := List.mem_flatMap.1 hc
        obtain ⟨k, hk1, hc⟩ := List.mem_flatMap.1 hc
        have hi1 := List.mem_range.1 hi1
        have hj1 := List.mem_range.1 hj1
        have hk1 := List.mem_range.1 hk1
        unfold mustRK at hc
        split at hc
        · have := List.mem_singleton.1 hc
          subst this
          have b1 := fb i j hi1 hj1
          have b2 := fb j k hj1 hk1
          have b3 := fb i k hi1 hk1
          simp only [List.mem_cons, List.not_mem_nil, or_false] at hl2
          rcases hl2 with rfl | rfl | rfl <;> omega
        · cases hc
      · obtain ⟨i, hi1, hc⟩ := List.mem_flatMap.1 hc
        obtain ⟨j, hj1, hc⟩ := List.mem_flatMap.1 hc
        have hi1 := List.mem_range.1 hi1
        have hj1 := List.mem_range.1 hj1
        unfold edK at hc
        split at hc
        · have := List.mem_singleton.1 hc
          subst this
          have b1 := fb i j hi1 hj1
          have b2 := (hRm.2 i hi1).2 j hj1
          have b3 := (hL i hi1).2 j hj1
          have b4 : 0 ≤ flip ((L.getD i []).getD j 0) ∧ flip ((L.getD i []).getD j 0) ≤ 1 := by
            rw [b3]; split <;> decide
          simp only [List.mem_cons, List.not_mem_nil, or_false] at hl2
          rcases hl2 with rfl | rfl
          · omega
          · rw [b2]; omega
        · cases hc
    rintro e w72 ⟨rfl, g72⟩
    have key := asked_reach (n := ln) (by omega) (ins := ins) (eds := eds) hRm (fun i j hi1 hj1 => (hL i hi1).2 j hj1)
    have G72 := G70.trans g72
    have SS72 : SqV w72 ps ln hss Ss := SS.grow ((g68.trans g70).trans g72)
    have clo : Clo Ss ln ↔ ∀ i j k, i < ln → j < ln → k < ln → i ≠ j → j ≠ k → ins.getD (i * ln + j) false = true → ins.getD (j * ln + k) false = true → ins.getD (i * ln + k) false = true := by
      unfold Clo
      have mv : ∀ i j, i < ln → j < ln → mB Ss i j = ins.getD (i * ln + j) false := fun i j h1 h2 => SV i j h1 h2
      constructor
      · intro h i j k h1 h2 h3 d1 d2
        have := h i j k h1 h2 h3 d1 d2
        rwa [mv i j h1 h2, mv j k h2 h3, mv i k h1 h3] at this
      · intro h i j k h1 h2 h3 d1 d2
        rw [mv i j h1 h2, mv j k h2 h3, mv i k h1 h3]
        exact h i j k h1 h2 h3 d1 d2
    refine ⟨_, rfl, cnd_i (fun s1 => (refClosed_ok SS72).mono ?_) (fun s1 => cnd_t ?_ (awake19' G72))⟩
    · rintro e w74 ⟨⟨bb, rfl, hbb⟩, g74⟩
      refine ⟨_, rfl, cnd_t ?_ (awake19' (G72.trans g74))⟩
      rw [beq_iff_eq, Bool.eq_iff_iff, key, hbb, clo]
      exact ⟨fun h => h.1, fun h => ⟨h, fun i j hi1 hj1 => hfit.1 s1 i j hi1 hj1⟩⟩
    · have : askedP (List.replicate (ln * ln) (-1, -1)) (mustR (rchM ln 0 (ln * ln)) ln ln ++ edO (fun i j => (R.getD i []).getD j 0) L ln ln) ins = false := by
        rw [← Bool.not_eq_true, key]
        rintro ⟨_, h2⟩
        rw [hfit.2 fun i j hi1 hj1 => h2 i j hi1 hj1] at s1
        cases s1
      rw [this]; rfl

theorem RankReaches_law (v0 v1 v2 : Value) (W : World) (h0 : RdV W (.int .u8) v0) (h1 : RdV W (.sl .bool) v1) (h2 : RdV W (.sl .bool) v2) : Calls Try.prog fathomlaw19_RankReaches.id #[v0, v1, v2] W fun e W' => e = .returned (.bool true) ∧ Grow W W' := by
  obtain ⟨n, rfl, hn⟩ := h0
  obtain ⟨p, n1, c, eds, rfl, rfl, _, _, he⟩ := bools_of_rd h1
  obtain ⟨q, n2, d, ins, rfl, rfl, hi1, hi2, hi⟩ := bools_of_rd h2
  exact RankReaches_calls (bdU8_of_wf hn) he hi (Nat.le_trans hi1 hi2)
end Go.Proofs.Ytambabpklfeaoaa.W
