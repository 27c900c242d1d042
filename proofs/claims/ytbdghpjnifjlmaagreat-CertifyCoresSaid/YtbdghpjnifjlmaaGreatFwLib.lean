/- Small laws for proofs over the frame. -/
import Derived.Test.YtbdghpjnifjlmaaGreatFwSound
import Derived.Below
namespace Go.Fw
open Go Go.RowKit
theorem aA {x:Int} (h1: -9223372036854775808<=x) (I:x<9223372036854775808):IntKind.i64.wrap x=x:=by
 simp only [IntKind.wrap,IntKind.bits,IntKind.signed];simp only [Int.reducePow,Nat.reduceSub,VL,decide_eq_true_eq,ge_iff_le];split<;>omega
theorem GS {x:Int} (h1:0<=x) (I:x<18446744073709551616):IntKind.u64.wrap x=x:=by
 simp only [IntKind.wrap,IntKind.bits,IntKind.signed];simp only [Int.reducePow,Nat.reduceSub,Xf,VW,if_false];omega
theorem IE {x:Int} (h1:0<=x) (I:x<256):IntKind.u8.wrap x=x:=by
 simp only [IntKind.wrap,IntKind.bits,IntKind.signed];simp only [Int.reducePow,Nat.reduceSub,Xf,VW,if_false];omega
structure mU (w w':World):Prop where
 heap:w'.heap=w.heap
 os:w'.os=w.os
 tape:w'.tape=w.tape
 output:w'.output=w.output
theorem mU.refl (w:World):mU w w:=⟨rfl,rfl,rfl,rfl⟩
theorem mU.trans {a b c:World} (h:mU a b) (k:mU b c):mU a c:=⟨k.heap.trans h.heap,k.os.trans h.os,k.tape.trans h.tape,k.output.trans h.output⟩
theorem mU.drew {a w:World} (h:mU a w):mU a w.drew:=⟨h.heap,h.os,h.tape,h.output⟩
theorem mU.below {w w':World} (h:mU w w') (B:Nat):Below B w w':=⟨h.os,h.tape,h.output,by rw [h.heap];exact y4 _,λk _=>by rw [h.heap]⟩
theorem mU.cell {w w':World} (h:mU w w') (a:Addr):w'.cell? a=w.cell? a:=by unfold World.cell?;rw [h.heap]
theorem eh {p:Option Addr} {n c size:Nat} {lo hi mx:Option Int} {K:Option Addr->Nat->Nat->Prop} (l h m:Nat) (h1:mx.getD (c:Int)=(m:Int)) (O:hi.getD (n:Int)=(h:Int)) (I:lo.getD 0=(l:Int))
 (hm:m<=c) (J:h<=m) (hl:l<=h) (Q:K (if m=l then p else p.map (·.add (l*size))) (h - l) (m - l)):pw p n c size lo hi mx K:=
 ⟨l,h,m,h1,O,I,hm,J,hl,Q⟩
end Go.Fw
