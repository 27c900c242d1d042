/- Small laws for proofs over the frame. -/
import Derived.Test.YtenmibfmhccmiaaGreatFwSound
import Derived.Below
namespace Go.Fw
open Go Go.RowKit
theorem aB {x:Int} (h1: -9223372036854775808<=x) (I:x<9223372036854775808):IntKind.i64.wrap x=x:=by
 simp only [IntKind.wrap,IntKind.bits,IntKind.signed];simp only [Int.reducePow,Nat.reduceSub,Bool.true_and,decide_eq_true_eq,ge_iff_le];split<;>omega
theorem AU {x:Int} (h1:0<=x) (I:x<18446744073709551616):IntKind.u64.wrap x=x:=by
 simp only [IntKind.wrap,IntKind.bits,IntKind.signed];simp only [Int.reducePow,Nat.reduceSub,Bool.false_and,Bool.false_eq_true,if_false];omega
theorem C7 {x:Int} (h1:0<=x) (I:x<256):IntKind.u8.wrap x=x:=by
 simp only [IntKind.wrap,IntKind.bits,IntKind.signed];simp only [Int.reducePow,Nat.reduceSub,Bool.false_and,Bool.false_eq_true,if_false];omega
structure jM (w w':World):Prop where
 heap:w'.heap=w.heap
 os:w'.os=w.os
 tape:w'.tape=w.tape
 output:w'.output=w.output
theorem jM.refl (w:World):jM w w:=⟨rfl,rfl,rfl,rfl⟩
theorem jM.trans {a b c:World} (h:jM a b) (k:jM b c):jM a c:=⟨k.heap.trans h.heap,k.os.trans h.os,k.tape.trans h.tape,k.output.trans h.output⟩
theorem jM.drew {a w:World} (h:jM a w):jM a w.drew:=⟨h.heap,h.os,h.tape,h.output⟩
theorem jM.below {w w':World} (h:jM w w') (B:Nat):Below B w w':=⟨h.os,h.tape,h.output,by rw [h.heap];exact Nat.le_refl _,fun k _=>by rw [h.heap]⟩
theorem jM.cell {w w':World} (h:jM w w') (a:Addr):w'.cell? a=w.cell? a:=by unfold World.cell?;rw [h.heap]
theorem gD {p:Option Addr} {n c size:Nat} {lo hi mx:Option Int} {K:Option Addr->Nat->Nat->Prop} (l h m:Nat) (h1:mx.getD (c:Int)=(m:Int)) (I:hi.getD (n:Int)=(h:Int)) (O:lo.getD 0=(l:Int))
 (hm:m<=c) (J:h<=m) (hl:l<=h) (Q:K (if m=l then p else p.map (·.add (l*size))) (h - l) (m - l)):pP p n c size lo hi mx K:=
 ⟨l,h,m,h1,I,O,hm,J,hl,Q⟩
theorem BL {n:Int} (h:(Lit.int .i64 n).wf=true): -9223372036854775808<=n/\n<9223372036854775808:=by
 simp [Lit.wf,IntKind.min,IntKind.max,IntKind.signed,IntKind.bits] at h;omega
end Go.Fw
