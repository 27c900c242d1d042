/- Small laws for proofs over the frame. -/
import Derived.Test.YtbdghpjnifjlmaaGreatFwSound
import Derived.Below
set_option linter.all false
namespace Go.Fw
open Go Go.RowKit
theorem ao{x:Int}(h1: -9223372036854775808<=x)(I:x<9223372036854775808):IntKind.i64.wrap x=x:=by
 simp only[IntKind.wrap,IntKind.bits,IntKind.signed];simp only[Int.reducePow,Nat.reduceSub,W2,x7,I9];split<;>omega
theorem HI{x:Int}(h1:0<=x)(I:x<18446744073709551616):IntKind.u64.wrap x=x:=by
 simp only[IntKind.wrap,IntKind.bits,IntKind.signed];simp only[Int.reducePow,Nat.reduceSub,XY,Xo,I8];omega
theorem KX{x:Int}(h1:0<=x)(I:x<256):IntKind.u8.wrap x=x:=by
 simp only[IntKind.wrap,IntKind.bits,IntKind.signed];simp only[Int.reducePow,Nat.reduceSub,XY,Xo,I8];omega
structure mO(w w':World):Prop where
 heap:w'.heap=w.heap
 os:w'.os=w.os
 tape:w'.tape=w.tape
 output:w'.output=w.output
theorem mO.refl(w:World):mO w w:=⟨rfl,rfl,rfl,rfl⟩
theorem mO.trans{a b c:World}(h:mO a b)(k:mO b c):mO a c:=⟨k.heap.trans h.heap,k.os.trans h.os,k.tape.trans h.tape,k.output.trans h.output⟩
theorem mO.drew{a w:World}(h:mO a w):mO a w.drew:=⟨h.heap,h.os,h.tape,h.output⟩
theorem mO.below{w w':World}(h:mO w w')(B:Nat):Below B w w':=⟨h.os,h.tape,h.output,by rw[h.heap];exact vy _,λk _=>by rw[h.heap]⟩
theorem mO.cell{w w':World}(h:mO w w')(a:Addr):w'.cell? a=w.cell? a:=by unfold World.cell?;rw[h.heap]
theorem gh{p:Option Addr}{n c size:Nat}{lo hi mx:Option Int}{K:Option Addr->Nat->Nat->Prop}(l h m:Nat)(h1:mx.getD (c:Int)=(m:Int))(I:hi.getD (n:Int)=(h:Int))(O:lo.getD 0=(l:Int))
 (hm:m<=c) (Q:h<=m) (hl:l<=h) (J:K (if m=l then p else p.map (·.add (l*size))) (h - l) (m - l)):rT p n c size lo hi mx K:=
 ⟨l,h,m,h1,I,O,hm,Q,hl,J⟩
