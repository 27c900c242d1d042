/- Small laws for proofs over the frame. -/
import Derived.Test.YtenmibfmhccmiaaGreatFwSound
import Derived.Below
namespace Go.Fw
open Go Go.RowKit
theorem aD {x:Int} (h1: -9223372036854775808<=x) (I:x<9223372036854775808):IntKind.i64.wrap x=x:=by
 simp only [IntKind.wrap,IntKind.bits,IntKind.signed];simp only [Int.reducePow,Nat.reduceSub,Bool.true_and,decide_eq_true_eq,ge_iff_le];split<;>omega
theorem CQ {x:Int} (h1:0<=x) (I:x<18446744073709551616):IntKind.u64.wrap x=x:=by
 simp only [IntKind.wrap,IntKind.bits,IntKind.signed];simp only [Int.reducePow,Nat.reduceSub,Bool.false_and,Bool.false_eq_true,if_false];omega
theorem Fg {x:Int} (h1:0<=x) (I:x<256):IntKind.u8.wrap x=x:=by
 simp only [IntKind.wrap,IntKind.bits,IntKind.signed];simp only [Int.reducePow,Nat.reduceSub,Bool.false_and,Bool.false_eq_true,if_false];omega
structure ky (w w':World):Prop where
 heap:w'.heap=w.heap
 os:w'.os=w.os
 tape:w'.tape=w.tape
 output:w'.output=w.output
theorem ky.refl (w:World):ky w w:=⟨rfl,rfl,rfl,rfl⟩
theorem ky.trans {a b c:World} (h:ky a b) (k:ky b c):ky a c:=⟨k.heap.trans h.heap,k.os.trans h.os,k.tape.trans h.tape,k.output.trans h.output⟩
theorem ky.drew {a w:World} (h:ky a w):ky a w.drew:=⟨h.heap,h.os,h.tape,h.output⟩
theorem ky.below {w w':World} (h:ky w w') (B:Nat):Below B w w':=⟨h.os,h.tape,h.output,by rw [h.heap];exact Nat.le_refl _,fun k _=>by rw [h.heap]⟩
theorem ky.cell {w w':World} (h:ky w w') (a:Addr):w'.cell? a=w.cell? a:=by unfold World.cell?;rw [h.heap]
theorem fe {p:Option Addr} {n c size:Nat} {lo hi mx:Option Int} {K:Option Addr->Nat->Nat->Prop} (l h m:Nat) (h1:mx.getD (c:Int)=(m:Int)) (Q:hi.getD (n:Int)=(h:Int)) (O:lo.getD 0=(l:Int))
 (hm:m<=c) (I:h<=m) (hl:l<=h) (J:K (if m=l then p else p.map (·.add (l*size))) (h - l) (m - l)):nZ p n c size lo hi mx K:=
 ⟨l,h,m,h1,Q,O,hm,I,hl,J⟩
end Go.Fw
