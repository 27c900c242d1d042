/- Layers 15 and 16: "or", "unlike", and sums of words. -/
import Derived.Test.YtambabpklfeaoaaVec0
import Derived.Test.YtambabpklfeaoaaPureA
namespace Go.Proofs.Ytambabpklfeaoaa.W
open Go Go.Fw Go.RowKit Go.TsP Go.AgP
variable {w w' w2 : World} {b : Nat} {x y z : AG} {p q : Option Addr} {n m : Nat}

theorem not_ok {l : Int} (h0 : 0 ≤ l) (h1 : l ≤ 4194304) (w : World) : Calls Try.prog aig_not.id #[.int .i64 l] w fun e w' => e = .returned (.int .i64 (flipL l)) ∧ Grow w w' := by
  refine aig_not.calls ?_
  refine cnd_f (decide_eq_false (by omega)) ⟨?_, Mod.refl w⟩
  have : IntKind.i64.wrap ((BitVec.ofInt (IntKind.bits .i64) l ^^^ BitVec.ofInt (IntKind.bits .i64) (1 : Int)).toNat) = flipL l := xor1 h0 (by omega)
  rw [this]

/-- A place of which a graph knows nothing. -/
def Sp (w : World) (b : Nat) (x : AG) (p : Option Addr) : Prop := ∀ k, blk p = some k → ¬ x.fm b k ∧ k < w.heap.size
theorem Sp.aft (s : Sp w b x p) (A : Aft w w' b x y) : Sp w' b y p := fun k hk => by
  obtain ⟨h1, h2⟩ := s k hk
  have := A.mod.size
  refine ⟨fun e => ?_, by omega⟩
  rcases A.foot k e with e | e
  · exact h1 e
  · omega
theorem Sp.grow (s : Sp w b x p) (g : Grow w w') : Sp w' b x p := fun k hk => ⟨(s k hk).1, by have := (s k hk).2; have := g.size; omega⟩
theorem Vw.aft {α : Type} {f : α → Value} {l : List α} (v : Vw f w p l) (s : Sp w b x p) (A : Aft w w' b x y) : Vw f w' p l := v.keep A.mod fun k hk => (s k hk).1
theorem Ow.aft {α : Type} {f : α → Value} {T : TypeId} {c : Nat} {l : List α} (o : Ow f T w p c l) (s : Sp w b x p) (A : Aft w w' b x y) : Ow f T w' p c l := o.keep A.mod fun k hk => (s k hk).1
/-- Nothing of the graph was turned, nor of a world that is elder. -/
theorem Aft.fresh {S : Nat → Prop} (A : Aft w w2 b x y) (m : Mod S w2 w') (hS : ∀ k, S k → w.heap.size ≤ k ∧ ¬ y.fm b k) : Aft w w' b x y :=
  ⟨A.am.keep m fun k hk e => (hS k e).2 hk, A.bm, A.foot, A.mod.then m fun k hk e => by have := (hS k e).1; omega⟩

theorem OpS.mk {e : Ending} {m : Nat} {f : List Bool → Bool} (h : OpS w b x m f e w') : ∃ l y, e = .returned (.int .i64 l) ∧ Aft w w' b x y ∧ Mk x.g y.g m l f := h

theorem or_ok (h : AM w b x) (hlt : x.g.length < 1048576) {a c : Int} (ha : isL x.g.length a = true) (hc : isL x.g.length c = true) :
    Calls Try.prog aig_Aig_Or.id #[ptr b, .int .i64 a, .int .i64 c] w fun e w' => OpS w b x 1 (fun ins => truth x.g ins a || truth x.g ins c) e w' := by
  refine aig_Aig_Or.calls ?_
  have ba := isL_bd ha
  have bc := isL_bd hc
  refine (not_ok ba.1 (by omega) w).mono ?_
  rintro e w1 ⟨rfl, g1⟩
  refine ⟨_, rfl, (not_ok bc.1 (by omega) w1).mono ?_⟩
  rintro e w3 ⟨rfl, g3⟩
  have G3 := g1.trans g3
  refine ⟨_, rfl, (and_ok _ (h.grow G3) hlt (flip_bd ha) (flip_bd hc) rfl).mono ?_⟩
  rintro e w5 ⟨l, y, rfl, A, k⟩
  have bl := isL_bd k.lit
  have hl := A.am.len
  refine ⟨_, rfl, (not_ok bl.1 (by omega) w5).mono ?_⟩
  rintro e w7 ⟨rfl, g7⟩
  refine ⟨_, rfl, _, y, rfl, (A.pre G3).grow g7, k.ext, k.may, flip_bd k.lit, fun ins => ?_⟩
  rw [truth_flip bl.1, k.tr ins]
  show (!(truth x.g ins (flipL a) && truth x.g ins (flipL c))) = _
  rw [truth_flip ba.1, truth_flip bc.1]
  cases truth x.g ins a <;> cases truth x.g ins c <;> rfl

theorem xor_ok (h : AM w b x) (hlt : x.g.length + 3 ≤ 1048576) {a c : Int} (ha : isL x.g.length a = true) (hc : isL x.g.length c = true) :
    Calls Try.prog aig_Aig_Xor.id #[ptr b, .int .i64 a, .int .i64 c] w fun e w' => OpS w b x 3 (fun ins => truth x.g ins a ^^ truth x.g ins c) e w' := by
  refine aig_Aig_Xor.calls ?_
  have ba := isL_bd ha
  have bc := isL_bd hc
  refine (not_ok bc.1 (by omega) w).mono ?_
  rintro e w1 ⟨rfl, g1⟩
  refine ⟨_, rfl, (and_ok _ (h.grow g1) (by omega) ha (flip_bd hc) rfl).mono ?_⟩
  rintro e w3 ⟨l, y, rfl, A, k⟩
  have e1 : Ext x.g y.g 1 := k.ext
  have n1 := e1.len
  refine ⟨_, rfl, (not_ok ba.1 (by omega) w3).mono ?_⟩
  rintro e w5 ⟨rfl, g5⟩
  have A5 := (A.pre g1).grow g5
  refine ⟨_, rfl, (and_ok _ A5.am (by omega) (e1.isL (flip_bd ha)) (e1.isL hc) rfl).mono ?_⟩
  rintro e w7 ⟨l2, z, rfl, A2, k2⟩
  have e2 : Ext y.g z.g 1 := k2.ext
  have n2 := e2.len
  refine ⟨_, rfl, (or_ok A2.am (by omega) (e2.isL k.lit) k2.lit).mono ?_⟩
  rintro e w9 ⟨l3, u, rfl, A3, k3⟩
  refine ⟨_, rfl, _, u, rfl, (A5.trans A2).trans A3, (e1.trans e2).trans k3.ext, k3.may, k3.lit, fun ins => ?_⟩
  rw [k3.tr ins]
  show (truth z.g ins l || truth z.g ins l2) = _
  rw [e2.truth k.lit, k.tr ins, k2.tr ins]
  show ((truth x.g ins a && truth x.g ins (flipL c)) || (truth y.g ins (flipL a) && truth y.g ins c)) = _
  rw [e1.truth (flip_bd ha), e1.truth hc, truth_flip ba.1, truth_flip bc.1]
  cases truth x.g ins a <;> cases truth x.g ins c <;> rfl

/-- What a sum of words made. -/
structure SumR (w : World) (b : Nat) (x : AG) (A B : List Int) (c0 : Int) (t : Nat) (u : World) (y : AG) (P : Option Addr) (D : Nat) (out : List Int) (c : Int) : Prop where
  aft : Aft w u b x y
  e : Ext x.g y.g (9 * t)
  o : OwI ty_int u P D out
  fr : ∀ k, blk P = some k → w.heap.size ≤ k ∧ ¬ y.fm b k
  len : out.length = t
  all : allL y.g.length out
  lc : isL y.g.length c = true
  num : ∀ ins, numL y.g ins out + 2 ^ t * (truth y.g ins c).toNat = numL x.g ins (A.take t) + numL x.g ins (B.take t) + (truth x.g ins c0).toNat
theorem SumR.sp {A B : List Int} {c0 c : Int} {t D : Nat} {u : World} {P : Option Addr} {out : List Int} (h : SumR w b x A B c0 t u y P D out c) : Sp u b y P := fun k hk => ⟨(h.fr k hk).2, h.o.lt k hk⟩

theorem sum_ok (h : AM w b x) {A B : List Int} {ca cb : Nat} {c0 : Int} (hA : Vw (Value.int .i64) w p A) (hB : Vw (Value.int .i64) w q B) (sa : Sp w b x p) (sb : Sp w b x q) (la : n = A.length) (lb : m = B.length) (hlen : A.length = B.length)
    (hb : x.g.length + 9 * A.length ≤ 1048576) (aA : allL x.g.length A) (aB : allL x.g.length B) (hc : isL x.g.length c0 = true) :
    Calls Try.prog vec_sum.id #[ptr b, .slice p n ca, .slice q m cb, .int .i64 c0] w fun e w' => ∃ (P : Option Addr) (D : Nat) (out : List Int) (c : Int) (y : AG), e = .returned (.tuple #[.slice P out.length D, .int .i64 c]) ∧ SumR w b x A B c0 A.length w' y P D out c := by
  refine vec_sum.calls ?_
  refine ⟨fun C P N D I u z => ∃ (t : Nat) (out : List Int) (y : AG), I = t ∧ t ≤ A.length ∧ z = A.length - t ∧ N = out.length ∧ SumR w b x A B c0 t u y P D out C,
    ⟨_, 0, [], x, rfl, Nat.zero_le _, rfl, rfl, .refl h (Mod.refl w), .refl _ _, Ow.nil _ _ _, fun k hk => by simp [blk] at hk, rfl, allL.nil, hc, fun ins => by simp [numL]⟩, ?_⟩
  rintro C P N D I u z _ ⟨t, out, y, rfl, ht, rfl, rfl, S⟩
  refine cnd_i (fun r => ?_) (fun r => ?_)
  · have r : t < A.length := by simp at r; omega
    have rB : t < B.length := by omega
    have gD : Grow u u.drew := (Mod.refl u).drew
    have A0 := S.aft.grow gD
    have rdA : ∀ {v : World} {y' : AG} {K : Addr → Prop}, Aft w v b x y' → (∀ a, v.cell? a = some (.int .i64 (A.getD t 0)) → K a) → ixK p n (t : Int) 1 K := fun Q hK => (Vw.aft hA sa Q).ix 0 (by omega) la (by omega) fun a e => hK a (by rw [Int.toNat_natCast] at e; exact e)
    have rdB : ∀ {v : World} {y' : AG} {K : Addr → Prop}, Aft w v b x y' → (∀ a, v.cell? a = some (.int .i64 (B.getD t 0)) → K a) → ixK q m (t : Int) 1 K := fun Q hK => (Vw.aft hB sb Q).ix 0 (by omega) lb (by omega) fun a e => hK a (by rw [Int.toNat_natCast] at e; exact e)
    have mA : isL x.g.length (A.getD t 0) = true := aA _ (by simp [List.getD, r])
    have mB : isL x.g.length (B.getD t 0) = true := aB _ (by simp [List.getD, rB])
    refine rdA A0 fun a e => ⟨_, e, rdB A0 fun a e => ⟨_, e, ?_⟩⟩
    have hy := S.e.len
    refine (xor_ok A0.am (by omega) (S.e.isL mA) (S.e.isL mB)).mono ?_
    rintro e w12 ⟨l1, y1, rfl, A1, k1⟩
    have E1 : Ext y.g y1.g 3 := k1.ext
    have n1 := E1.len
    refine ⟨_, rfl, (xor_ok A1.am (by omega) k1.lit (E1.isL S.lc)).mono ?_⟩
    rintro e w14 ⟨l2, y2, rfl, A2, k2⟩
    have E2 : Ext y1.g y2.g 3 := k2.ext
    have n2 := E2.len
    refine ⟨_, rfl, fun n16 w17 h17 => ?_⟩
    have A17 := ((A0.trans A1).trans A2).grow h17.mod
    have sp17 : Sp w17 b y2 P := (((S.sp.grow gD).aft A1).aft A2).grow h17.mod
    have o17 := (Ow.aft (Ow.aft S.o.drew (S.sp.grow gD) A1) ((S.sp.grow gD).aft A1) A2).grow h17.mod
    have e17 := h17.num
    have s17 := h17.size
    have sW := A17.mod.size
    refine o17.app1 sl_int l2 h17.has rfl rfl oneInt (by have := S.len; omega) fun w18 p' c' o' m' hp' hs' => ?_
    have A18 : Aft w w18 b x y2 := A17.fresh m' fun k hk => ⟨(S.fr k hk).1, (sp17 k hk).1⟩
    have fr18 : ∀ k, blk p' = some k → w.heap.size ≤ k ∧ ¬ y2.fm b k := fun k hk => by
      rcases hp' with rfl | rfl
      · exact ⟨(S.fr k hk).1, (sp17 k hk).1⟩
      · have e := blk_some hk
        refine ⟨by omega, fun e2 => ?_⟩
        have := A17.am.lt k e2
        omega
    have gD' : Grow w18 w18.drew := (Mod.refl w18).drew
    have A18' := A18.grow gD'
    refine rdA A18' fun a e => ⟨_, e, rdB A18' fun a e => ⟨_, e, ?_⟩⟩
    have E02 := E1.trans E2
    refine (and_ok _ A18'.am (by omega) (E02.isL (S.e.isL mA)) (E02.isL (S.e.isL mB)) rfl).mono ?_
    rintro e w24 ⟨l3, y3, rfl, A3, k3⟩
    have E3 : Ext y2.g y3.g 1 := k3.ext
    have n3 := E3.len
    refine ⟨_, rfl, (and_ok _ A3.am (by omega) ((E2.trans E3).isL k1.lit) ((E02.trans E3).isL S.lc) rfl).mono ?_⟩
    rintro e w26 ⟨l4, y4, rfl, A4, k4⟩
    have E4 : Ext y3.g y4.g 1 := k4.ext
    have n4 := E4.len
    refine ⟨_, rfl, (or_ok A4.am (by omega) (E4.isL k3.lit) k4.lit).mono ?_⟩
    rintro e w28 ⟨l5, y5, rfl, A5, k5⟩
    have E5 : Ext y4.g y5.g 1 := k5.ext
    have E05 : Ext y.g y5.g 9 := (((E02.trans E3).trans E4).trans E5).mono (by omega)
    have E25 : Ext y2.g y5.g 3 := ((E3.trans E4).trans E5).mono (by omega)
    have sp18 : Sp w18 b y2 p' := fun k hk => ⟨(fr18 k hk).2, o'.lt k hk⟩
    have sp18' := sp18.grow gD'
    refine ⟨_, rfl, _, ?_, t + 1, out ++ [l2], y5, ?_, by omega, rfl, by simp, ((A18'.trans A3).trans A4).trans A5, (S.e.trans E05).mono (by omega), Ow.aft (Ow.aft (Ow.aft o'.drew sp18' A3) (sp18'.aft A3) A4) ((sp18'.aft A3).aft A4) A5, fun k hk => ⟨(fr18 k hk).1, ((((sp18'.aft A3).aft A4).aft A5) k hk).1⟩, by rw [List.length_append, S.len]; rfl, (S.all.mono E05.len.1).app (allL.one (E25.isL k2.lit)), k5.lit, fun ins => ?_⟩
    · omega
    · exact wN (by omega) (by omega)
    · have eA : numL x.g ins (A.take (t + 1)) = numL x.g ins (A.take t) + 2 ^ t * (truth x.g ins (A.getD t 0)).toNat := by rw [take_snoc r, numL_snoc, List.length_take, Nat.min_eq_left (by omega)]
      have eB : numL x.g ins (B.take (t + 1)) = numL x.g ins (B.take t) + 2 ^ t * (truth x.g ins (B.getD t 0)).toNat := by rw [take_snoc rB, numL_snoc, List.length_take, Nat.min_eq_left (by omega)]
      rw [eA, eB]
      have hnum := S.num ins
      rw [← numL_ext E05 S.all, ← E05.truth S.lc] at hnum
      refine sum_step S.len hnum ?_ ?_
      · rw [E25.truth k2.lit, k2.tr ins]
        show (truth y1.g ins l1 ^^ truth y1.g ins C) = _
        rw [k1.tr ins, E1.truth S.lc, E05.truth S.lc]
        show ((truth y.g ins _ ^^ truth y.g ins _) ^^ _) = _
        rw [S.e.truth mA, S.e.truth mB]
      · rw [k5.tr ins]
        show (truth y4.g ins l3 || truth y4.g ins l4) = _
        rw [E4.truth k3.lit, k3.tr ins, k4.tr ins]
        show ((truth y2.g ins _ && truth y2.g ins _) || (truth y3.g ins l1 && truth y3.g ins C)) = _
        rw [E02.truth (S.e.isL mA), E02.truth (S.e.isL mB), S.e.truth mA, S.e.truth mB, (E2.trans E3).truth k1.lit, (E02.trans E3).truth S.lc, k1.tr ins, E05.truth S.lc]
        show (_ || ((truth y.g ins _ ^^ truth y.g ins _) && _)) = _
        rw [S.e.truth mA, S.e.truth mB]
  · have r : t = A.length := by simp at r; omega
    subst r
    exact ⟨_, _, out, _, y, rfl, S⟩
end Go.Proofs.Ytambabpklfeaoaa.W
