/- Layer 19: three things are an order's three inputs. -/
import Derived.Test.YtambabpklfeaoaaRank4
namespace Go.Proofs.Ytambabpklfeaoaa.W
open Go Go.Fw Go.RowKit

theorem awake19 {w0 w : World} (G0 : Grow w0 w) : Calls Try.prog fathomlaw19_awake.id #[] w fun e w' => e = .returned (.bool true) ∧ Grow w0 w' := by
  refine fathomlaw19_awake.calls ?_
  refine (aigNew_ok w).mono ?_
  rintro e w1 ⟨b, x, rfl, hx, hg, hf, g1⟩
  have hl : x.g.length = 0 := by rw [hg]; rfl
  have hp : pst 3 3 = 3 := by decide
  refine ⟨_, rfl, (order_ok hx 3 (by omega) (by omega)).mono ?_⟩
  rintro e w3 ⟨p, c, hs, pm, cm, ms, rows, y, rfl, S, o, _⟩
  rw [hp] at S ⊢
  have hm : (mustO (ordM 3 x.g.length 3) 3 3).length = 6 := by rw [hl]; decide
  rw [hm]
  have G3 : Grow w w3 := g1.then S.M fun k hk e => by have := hf k e; omega
  refine ⟨_, _, _, _, _, _, rfl, cnd_t rfl (cnd_t rfl ((aigLen_ok S.a).mono ?_))⟩
  rintro e w6 ⟨rfl, g6⟩
  have hy : y.g.length = 3 := by rw [S.g]; simp [hl]
  rw [hy]
  have v := S.o.v2.grow g6
  have hr := S.m
  have read : ∀ (i j : Nat) (K : Int → Prop), i < 3 → j < 3 → K (ordM 3 x.g.length 3 i j) → ixK p 3 (i : Int) 1 fun a60 =>
        ∃ x61_p : Option Addr, ∃ x61_n : Nat, ∃ x61_c : Nat, w6.cell? a60 = some (.slice x61_p x61_n x61_c) ∧ 
        ixK x61_p x61_n (j : Int) 1 fun a62 => ∃ x63 : Int, w6.cell? a62 = some (.int .i64 x63) ∧ K x63 := by
    intro i j K hi hj hk
    refine v.ix (by omega) (by rw [hr.1]) (by omega) fun a s e _ hn _ hv => ⟨_, _, _, e, hv.ix 0 (by omega) hn (by rw [hn, Int.toNat_natCast, (hr.2 i hi).1]; omega) fun a e => ⟨_, e, ?_⟩⟩
    rw [Int.toNat_natCast, Int.toNat_natCast, (hr.2 i hi).2 j hj]
    exact hk
  rw [hl] at read
  refine ⟨_, rfl, cnd_t rfl ?_⟩
  refine read 0 1 _ (by omega) (by omega) (cnd_t (by decide) ?_)
  refine read 1 0 _ (by omega) (by omega) (cnd_t (by decide) ?_)
  refine read 1 1 _ (by omega) (by omega) ⟨?_, G0.trans (G3.trans g6)⟩
  have : ordM 3 0 3 1 1 = 0 := by decide
  rw [this]; rfl

theorem awake19' {w0 w : World} (G : Grow w0 w) : Calls Try.prog fathomlaw19_awake.id #[] w fun e w' => ∃ b : Bool, e = .returned (.bool b) ∧ (Ending.returned (.bool b) = .returned (.bool true) ∧ Grow w0 w') :=
  (awake19 G).mono fun _ _ ⟨he, hw⟩ => ⟨true, he, rfl, hw⟩
end Go.Proofs.Ytambabpklfeaoaa.W
