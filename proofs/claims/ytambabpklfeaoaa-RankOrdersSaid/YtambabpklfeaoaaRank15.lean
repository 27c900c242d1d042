/- Layer 19: the walk of what can be reached. -/
import Derived.Test.YtambabpklfeaoaaRank4
namespace Go.Proofs.Ytambabpklfeaoaa.W
open Go Go.Fw Go.RowKit

/-- Literals of what can be reached, of the first so many fields. -/
def rchM (n g0 t i j : Nat) : Int := if i * n + j < t then 2 * ((g0 + (i * n + j) + 1 : Nat) : Int) else 0
theorem rchM_bd {n g0 t : Nat} (a b : Nat) : 0 ≤ rchM n g0 t a b ∧ rchM n g0 t a b ≤ 2 * ((g0 + t : Nat) : Int) + 1 := by
  unfold rchM
  split <;> omega
theorem fld_inj {n i j a b : Nat} (hj : j < n) (hb : b < n) (e : a * n + b = i * n + j) : a = i ∧ b = j := by
  have h1 : (a * n + b) / n = a := by rw [Nat.mul_comm, Nat.mul_add_div (by omega), Nat.div_eq_of_lt hb, Nat.add_zero]
  have h2 : (i * n + j) / n = i := by rw [Nat.mul_comm, Nat.mul_add_div (by omega), Nat.div_eq_of_lt hj, Nat.add_zero]
  have : a = i := by rw [← h1, ← h2, e]
  subst this
  exact ⟨rfl, by omega⟩
theorem rchM_step {n g0 i j : Nat} (hj : j < n) (a b : Nat) (hb : b < n) : (if a = i ∧ b = j then 2 * ((g0 + (i * n + j) + 1 : Nat) : Int) else rchM n g0 (i * n + j) a b) = rchM n g0 (i * n + j + 1) a b := by
  unfold rchM
  by_cases e : a = i ∧ b = j
  · obtain ⟨rfl, rfl⟩ := e
    rw [if_pos ⟨rfl, rfl⟩, if_pos (by omega)]
  · rw [if_neg e]
    have : a * n + b ≠ i * n + j := fun h => e (fld_inj hj hb h)
    by_cases c : a * n + b < i * n + j
    · rw [if_pos c, if_pos (by omega)]
    · rw [if_neg c, if_neg (by omega)]

def mustRK (A : Nat → Nat → Int) (i j k : Nat) : List (List Int) := if i ≠ j ∧ j ≠ k then [[flip (A i j), flip (A j k), A i k]] else []
def mustRJ (A : Nat → Nat → Int) (i j m : Nat) : List (List Int) := (List.range m).flatMap (mustRK A i j)
def mustRI (A : Nat → Nat → Int) (n i m : Nat) : List (List Int) := (List.range m).flatMap fun j => mustRJ A i j n
def mustR (A : Nat → Nat → Int) (n m : Nat) : List (List Int) := (List.range m).flatMap fun i => mustRI A n i n
theorem mustRJ_succ (A : Nat → Nat → Int) (i j m : Nat) : mustRJ A i j (m + 1) = mustRJ A i j m ++ mustRK A i j m := by simp [mustRJ, List.range_succ]
theorem mustRI_succ (A : Nat → Nat → Int) (n i m : Nat) : mustRI A n i (m + 1) = mustRI A n i m ++ mustRJ A i m n := by simp [mustRI, List.range_succ]
theorem mustR_succ (A : Nat → Nat → Int) (n m : Nat) : mustR A n (m + 1) = mustR A n m ++ mustRI A n m n := by simp [mustR, List.range_succ]

structure RSt (w0 : World) (b : Nat) (x : AG) (n : Nat) (p : Option Addr) (c : Nat) (hs : List Sl) (t : Nat) (w : World) (y : AG) (rows : List (List Int)) : Prop where
  a : ARep w b y
  g : y.g = x.g ++ List.replicate t (-1, -1)
  o : Own2 (Value.int .i64) ty_sl_int ty_int w p c hs rows
  m : rowsAre n rows (rchM n x.g.length t)
  d : ∀ k, foot2 p hs k → ¬ y.foot b k ∧ w0.heap.size ≤ k
  f : ∀ k, y.foot b k → x.foot b k ∨ w0.heap.size ≤ k
  M : Mod (x.foot b) w0 w

theorem RSt.grow {w0 w w' : World} {b : Nat} {x y : AG} {n : Nat} {p : Option Addr} {c : Nat} {hs : List Sl} {t : Nat} {rows : List (List Int)} (h : RSt w0 b x n p c hs t w y rows) (g : Grow w w') : RSt w0 b x n p c hs t w' y rows :=
  ⟨h.a.grow g, h.g, h.o.grow g, h.m, h.d, h.f, h.M.grow g⟩

/-- One field. -/
theorem RSt.step {w0 w w1 w2 : World} {b : Nat} {x y z : AG} {n : Nat} {p : Option Addr} {c : Nat} {hs : List Sl} {rows : List (List Int)} {i j : Nat} (h1 : i < n) (h2 : j < n) (h : RSt w0 b x n p c hs (i * n + j) w y rows)
    (hz : ARep w1 b z) (mz : More w b y z (-1, -1)) (m1 : Mod (y.foot b) w w1) (hn : hs.length = n)
    (o1 : OwI ty_int w2 (hs.getD i Sl.nil).p (hs.getD i Sl.nil).c ((rows.getD i []).set j (2 * ((x.g.length + (i * n + j) + 1 : Nat) : Int)))) (m2 : Mod (fun k => blk (hs.getD i Sl.nil).p = some k) w1 w2) :
    ∃ rows', RSt w0 b x n p c hs (i * n + j + 1) w2 z rows' := by
  have hr := h.m.1
  have mem : ∀ i, i < n → hs.getD i Sl.nil ∈ hs := fun i hi => by
    have : i < hs.length := by omega
    simp [List.getD, this]
  have fi : ∀ k, blk (hs.getD i Sl.nil).p = some k → foot2 p hs k := fun k hk => .inr ⟨_, mem i (by omega), hk⟩
  have lt := h.o.lt
  have zf : ∀ k, foot2 p hs k → ¬ z.foot b k := fun k hk e => by
    rcases mz.foot k e with e | e
    · exact (h.d k hk).1 e
    · have := lt k hk; omega
  have q1 := h.o.keep m1 fun k hk e => (h.d k hk).1 e
  have q2 := q1.set (by omega) (by simp) o1 m2
  refine ⟨_, hz.keep m2 fun k hk e => zf k (fi k e) hk, ?_, q2, ?_, fun k hk => ⟨zf k hk, (h.d k hk).2⟩, fun k hk => ?_, ?_⟩
  · rw [mz.g, h.g, List.append_assoc, ← List.replicate_succ']
  · have r1 := h.m.set (i := i) (j := j) (by omega) h2 (2 * ((x.g.length + (i * n + j) + 1 : Nat) : Int))
    refine ⟨r1.1, fun a ha => ⟨(r1.2 a ha).1, fun b hb => ?_⟩⟩
    rw [(r1.2 a ha).2 b hb]
    exact rchM_step h2 a b hb
  · rcases mz.foot k hk with e | e
    · exact h.f k e
    · right; have := h.M.size; omega
  · refine (h.M.then m1 fun k hk e => ?_).then m2 fun k hk e => ?_
    · exact (h.f k e).resolve_right (by omega)
    · have := (h.d k (fi k e)).2; omega

theorem reach_ok {w0 : World} {b : Nat} {x : AG} (hx : ARep w0 b x) (n : Nat) (hn : n ≤ 40) (hr : x.g.length + n * n ≤ 1048576) : Calls Try.prog rank_Reach.id #[ptr b, .int .i64 n] w0 fun e w' =>
    ∃ p c hs pm cm ms rows y, e = .returned (.tuple #[.slice p n c, .slice pm (mustR (rchM n x.g.length (n * n)) n n).length cm]) ∧ RSt w0 b x n p c hs (n * n) w' y rows ∧
      Own2 (Value.int .i64) ty_sl_int ty_int w' pm cm ms (mustR (rchM n x.g.length (n * n)) n n) ∧ ∀ k, foot2 pm ms k → ¬ y.foot b k ∧ ¬ foot2 p hs k ∧ w0.heap.size ≤ k := by
  refine rank_Reach.calls ?_
  unfold rank_Reach.w
  have hnn : n * n ≤ 40 * 40 := Nat.mul_le_mul hn hn
  have er : IntKind.i64.wrap ((n : Int) * n) = ((n * n : Nat) : Int) := by
    rw [← Int.natCast_mul, wrap64_of (by omega) (by omega)]
  rw [er]
  refine cnd_f (decide_eq_false (by omega)) (cnd_f (decide_eq_false (by omega)) ((room_ok hx (by omega) _).mono ?_))
  rintro e w1 ⟨rfl, g1⟩
  refine ⟨_, rfl, cnd_f (by simp; omega) ((square_ok n hn w1).mono ?_)⟩
  rintro e w3 ⟨p, c, hs, rfl, o3, hf, g3⟩
  have hhs : hs.length = n := by rw [o3.n]; simp
  have S0 : RSt w0 b x n p c hs 0 w3 x (List.replicate n (List.replicate n 0)) := by
    refine ⟨(hx.grow g1).grow g3, by simp, o3, ⟨by simp, fun i hi => ⟨by simp [List.getD, hi], fun j hj => ?_⟩⟩, fun k hk => ?_, fun k hk => .inl hk, (g1.trans g3).mono fun _ _ h => h.elim⟩
    · unfold rchM
      simp [List.getD, hi, hj]
    · have := hf k hk; have := g1.size
      exact ⟨fun e => by have := hx.lt k e; omega, by omega⟩
  clear hf o3 g3 g1 er
  refine ⟨_, _, _, rfl, ?_⟩
  refine ⟨fun i w' k => ∃ (t : Nat) (y : AG) (rows : List (List Int)), i = t ∧ t ≤ n ∧ k + t = n ∧ RSt w0 b x n p c hs (t * n) w' y rows, ⟨n, 0, x, _, rfl, by omega, rfl, by rw [Nat.zero_mul]; exact S0⟩, ?_⟩
  clear S0
  rintro i w9 k _ ⟨i, y, rows, rfl, hi, hk, S⟩
  refine cnd_i (fun q => ?_) (fun q => ?_) <;> simp only [decide_eq_true_eq, decide_eq_false_iff_not] at q
  · have ei : IntKind.i64.wrap ((i : Int) + 1) = ((i + 1 : Nat) : Int) := by rw [wrap64_of (by omega) (by omega)]; omega
    rw [ei]
    refine ⟨fun j w' m => ∃ (t : Nat) (y : AG) (rows : List (List Int)), j = t ∧ t ≤ n ∧ m + t = n ∧ RSt w0 b x n p c hs (i * n + t) w' y rows, ⟨n, 0, y, rows, rfl, by omega, by omega, S⟩, ?_⟩
    clear S
    rintro j w14 m _ ⟨j, y, rows, rfl, hj, hm, S⟩
    refine cnd_i (fun q2 => ?_) (fun q2 => ?_) <;> simp only [decide_eq_true_eq, decide_eq_false_iff_not] at q2
    · have hjn : j < n := by omega
      have hin : i < n := by omega
      have hpl : i * n + j < n * n := by
        have : (i + 1) * n ≤ n * n := Nat.mul_le_mul_right _ hin
        rw [Nat.add_mul, Nat.one_mul] at this
        omega
      have hrows := S.m.1
      have yl : y.g.length = x.g.length + (i * n + j) := by rw [S.g]; simp
      have S := S.grow (Mod.refl w14).drew
      have ej : IntKind.i64.wrap ((j : Int) + 1) = ((j + 1 : Nat) : Int) := by rw [wrap64_of (by omega) (by omega)]; omega
      rw [ej]
      have li : ((hs.getD i Sl.nil).n = (rows.getD i []).length) := (S.o.r i (by omega)).1
      have mi := (S.m.2 i hin).1
      have v := S.o.v2
      refine v.h.ixb Sl.nil (by omega) (by omega) (by omega) fun a15 b15 e15 => ?_
      rw [Int.toNat_natCast] at e15
      have In := aigIn_ok S.a (by omega)
      have nxt : ∀ w17 z, ARep w17 b z → More w14.drew b y z (-1, -1) → Mod (y.foot b) w14.drew w17 → ixK (hs.getD i Sl.nil).p (hs.getD i Sl.nil).n (j : Int) 1 fun a19 =>
            ∃ w20 : World, StoreAt a19 0 [.int .i64 (2 * ((y.g.length + 1 : Nat) : Int))] w17 w20 ∧ 
            ∃ k12 : Nat, k12 < m ∧ ∃ (t : Nat) (y : AG) (rows : List (List Int)), ((j + 1 : Nat) : Int) = t ∧ t ≤ n ∧ k12 + t = n ∧ RSt w0 b x n p c hs (i * n + t) w20 y rows := by
        intro w17 z hz mz m1
        have q1 := S.o.keep m1 fun k hk e => (S.d k hk).1 e
        rw [yl]
        refine (q1.r i (by omega)).2.st (2 * ((x.g.length + (i * n + j) + 1 : Nat) : Int)) rfl rfl (by omega) li (by omega) fun w20 o1 m2 => ?_
        rw [Int.toNat_natCast] at o1
        obtain ⟨rows', S'⟩ := S.step hin hjn hz mz m1 hhs o1 m2
        exact ⟨m - 1, by omega, j + 1, z, rows', rfl, by omega, by omega, S'⟩
      refine ⟨⟨_, _, _, e15, In.mono ?_⟩, In.mono ?_⟩ <;> rintro e w17 ⟨rfl, z, hz, mz, m1⟩
      · exact ⟨_, rfl, nxt w17 z hz mz m1⟩
      · have hbl : ¬ y.foot b a15.block := (S.d _ (.inl b15)).1
        exact ⟨_, rfl, _, _, _, cell_keep m1 e15 hbl, nxt w17 z hz mz m1⟩
    · have : j = n := by omega
      subst this
      refine ⟨k - 1, by omega, i + 1, y, rows, rfl, by omega, by omega, ?_⟩
      rw [Nat.add_mul, Nat.one_mul]; exact S
  · have hin : i = n := by omega
    rw [hin] at S
    clear q hi hk hin
    generalize hA : rchM n x.g.length (n * n) = A
    have hM := S.m
    rw [hA] at hM
    have bd : ∀ i j, 0 ≤ A i j ∧ A i j < 4611686018427387904 := by
      intro i j
      rw [← hA]
      have := rchM_bd (n := n) (g0 := x.g.length) (t := n * n) i j
      omega
    have read : ∀ (w' : World) (i j : Nat) (K : Int → Prop), Grow w9 w' → i < n → j < n → K (A i j) → ixK p n (i : Int) 1 fun a60 =>
        ∃ x61_p : Option Addr, ∃ x61_n : Nat, ∃ x61_c : Nat, w'.cell? a60 = some (.slice x61_p x61_n x61_c) ∧ 
        ixK x61_p x61_n (j : Int) 1 fun a62 => ∃ x63 : Int, w'.cell? a62 = some (.int .i64 x63) ∧ K x63 := by
      intro w' i j K G hi hj hk
      have v := S.o.v2.grow G
      refine v.ix (by omega) (by rw [hM.1]) (by omega) fun a s e _ hn _ hv => ⟨_, _, _, e, hv.ix 0 (by omega) hn (by rw [hn, Int.toNat_natCast, (hM.2 i hi).1]; omega) fun a e => ⟨_, e, ?_⟩⟩
      rw [Int.toNat_natCast, Int.toNat_natCast, (hM.2 i hi).2 j hj]
      exact hk
    have ew : ∀ t : Nat, t < n → IntKind.i64.wrap ((t : Int) + 1) = ((t + 1 : Nat) : Int) := fun t ht => by rw [wrap64_of (by omega) (by omega)]; omega
    refine ⟨fun mp mn mc v w' k => ∃ i : Nat, v = i ∧ i ≤ n ∧ k + i = n ∧ mn ≤ 1600 * i ∧ MSt w9 w' mp mn mc (mustR A n i), ⟨n, 0, rfl, by omega, rfl, by omega, rfl, [], ⟨Ow.nil _ _ _, rfl, fun j hj => by simp [mustR] at hj, fun j k hj => by simp [mustR] at hj, fun i j k hi => by simp [mustR] at hi⟩, fun k hk => by
      rcases hk with e | ⟨_, h, _⟩
      · simp [blk] at e
      · simp at h, Mod.refl w9⟩, ?_⟩
    rintro mp mn mc v w47 k _ ⟨i, rfl, hi, hk, hb, T⟩
    refine cnd_i (fun q => ?_) (fun q => ?_) <;> simp only [decide_eq_true_eq, decide_eq_false_iff_not] at q
    · have hi' : i < n := by omega
      rw [ew i hi']
      refine ⟨fun mp mn mc v w' m => ∃ j : Nat, v = j ∧ j ≤ n ∧ m + j = n ∧ mn ≤ 1600 * i + 40 * j ∧ MSt w9 w' mp mn mc (mustR A n i ++ mustRI A n i j), ⟨n, 0, rfl, by omega, rfl, by omega, by simpa [mustRI] using T⟩, ?_⟩
      clear T hb
      rintro mp mn mc v w53 m _ ⟨j, rfl, hj, hm, hb, T⟩
      refine cnd_i (fun q2 => ?_) (fun q2 => ?_) <;> simp only [decide_eq_true_eq, decide_eq_false_iff_not] at q2
      · have hj' : j < n := by omega
        rw [ew j hj']
        refine ⟨fun mp mn mc v w' o => ∃ l : Nat, v = l ∧ l ≤ n ∧ o + l = n ∧ mn ≤ 1600 * i + 40 * j + l ∧ MSt w9 w' mp mn mc (mustR A n i ++ mustRI A n i j ++ mustRJ A i j l), ⟨n, 0, rfl, by omega, rfl, by omega, by simpa [mustRJ] using T⟩, ?_⟩
        clear T hb
        rintro mp mn mc v w59 o _ ⟨l, rfl, hl, ho, hb, T⟩
        refine cnd_i (fun q3 => ?_) (fun q3 => ?_) <;> simp only [decide_eq_true_eq, decide_eq_false_iff_not] at q3
        · have hl' : l < n := by omega
          rw [ew l hl']
          have skip : ∀ w', MSt w9 w' mp mn mc (mustR A n i ++ mustRI A n i j ++ mustRJ A i j l) → ¬ (i ≠ j ∧ j ≠ l) → ∃ k56 : Nat, k56 < o ∧ ∃ l' : Nat, ((l + 1 : Nat) : Int) = l' ∧ l' ≤ n ∧ k56 + l' = n ∧ mn ≤ 1600 * i + 40 * j + l' ∧ MSt w9 w' mp mn mc (mustR A n i ++ mustRI A n i j ++ mustRJ A i j l') := by
            intro w' T h
            refine ⟨o - 1, by omega, l + 1, rfl, by omega, by omega, by omega, ?_⟩
            rw [mustRJ_succ, mustRK, if_neg h, List.append_nil]
            exact T
          refine cnd_i (fun c1 => cnd_i (fun c2 => ?_) (fun c2 => skip _ T (by simp at c2; omega))) (fun c1 => skip _ T (by simp at c1; omega))
          have hd : i ≠ j ∧ j ≠ l := by simp at c1 c2; omega
          have T := T.drew
          obtain ⟨_, _, _, _, Gd⟩ := id T
          refine read _ i j _ Gd hi' hj' ?_
          refine read _ j l _ Gd hj' hl' ?_
          refine read _ i l _ Gd hi' hl' ?_
          rw [xor1 (bd i j).1 (bd i j).2, xor1 (bd j l).1 (bd j l).2]
          refine T.app (by omega) _ _ _ fun w' mp' mn' mc' T' hmn => ⟨o - 1, by omega, l + 1, rfl, by omega, by omega, by omega, ?_⟩
          rw [mustRJ_succ, mustRK, if_pos hd, ← List.append_assoc]
          exact T'
        · have : l = n := by omega
          subst this
          refine ⟨m - 1, by omega, j + 1, rfl, by omega, by omega, by omega, ?_⟩
          rw [mustRI_succ, ← List.append_assoc]
          exact T
      · have : j = n := by omega
        subst this
        refine ⟨k - 1, by omega, i + 1, rfl, by omega, by omega, by omega, ?_⟩
        rw [mustR_succ]
        exact T
    · have : i = n := by omega
      subst this
      obtain ⟨h1, ms, o, hf, G⟩ := T
      have olt := S.o.lt
      have alt := S.a.lt
      have := S.M.size
      rw [h1]
      exact ⟨p, c, hs, mp, mc, ms, rows, y, rfl, S.grow G, o, fun k hk => ⟨fun e => by have := hf k hk; have := alt k e; omega, fun e => by have := hf k hk; have := olt k e; omega, by have := hf k hk; omega⟩⟩
end Go.Proofs.Ytambabpklfeaoaa.W
