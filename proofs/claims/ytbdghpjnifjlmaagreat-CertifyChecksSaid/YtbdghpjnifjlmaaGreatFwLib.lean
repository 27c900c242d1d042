/- Small laws for proofs over the frame. -/
import Derived.Test.YtbdghpjnifjlmaaGreatFwSound
import Derived.Below
namespace Go.Fw
open Go Go.RowKit
theorem wrap64_of {x:Int} (h1: -9223372036854775808≤x) (h2:x<9223372036854775808):IntKind.i64.wrap x=x:=by
 simp only [IntKind.wrap,IntKind.bits,IntKind.signed]
 simp only [Int.reducePow,Nat.reduceSub,Bool.true_and,decide_eq_true_eq,ge_iff_le]
 split<;>omega
structure Same (w w':World):Prop where
 heap:w'.heap=w.heap
 os:w'.os=w.os
 tape:w'.tape=w.tape
 output:w'.output=w.output
theorem Same.refl (w:World):Same w w:=⟨rfl,rfl,rfl,rfl⟩
theorem Same.drew {a w:World} (h:Same a w):Same a w.drew:=⟨h.heap,h.os,h.tape,h.output⟩
theorem Same.below {w w':World} (h:Same w w') (B:Nat):Below B w w':=⟨h.os,h.tape,h.output,by rw [h.heap];exact Nat.le_refl _,fun k _=>by rw [h.heap]⟩
theorem Same.cell {w w':World} (h:Same w w') (a:Addr):w'.cell? a=w.cell? a:=by unfold World.cell?;rw [h.heap]
theorem slK_i {p:Option Addr} {n c size:Nat} {lo hi mx:Option Int} {K:Option Addr→Nat→Nat→Prop} (l h m:Nat) (h1:mx.getD (c:Int)=(m:Int)) (h2:hi.getD (n:Int)=(h:Int)) (h3:lo.getD 0=(l:Int))
 (hm:m≤c) (hh:h≤m) (hl:l≤h) (hk:K (if m=l then p else p.map (·.add (l*size))) (h - l) (m - l)):slK p n c size lo hi mx K:=
 ⟨l,h,m,h1,h2,h3,hm,hh,hl,hk⟩
end Go.Fw
