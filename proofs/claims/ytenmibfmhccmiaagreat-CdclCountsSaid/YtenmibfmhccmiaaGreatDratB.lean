/- Layer 8: of which clauses a clause is at hand, walked. -/
import Derived.Test.YtenmibfmhccmiaaGreatDratA
import Derived.Test.YtenmibfmhccmiaaGreatLitA
import Derived.Test.YtenmibfmhccmiaaGreatPropF
import Derived.Test.YtenmibfmhccmiaaGreatLitC
import Derived.Test.YtenmibfmhccmiaaGreatRupA
namespace Go.Proofs.YtenmibfmhccmiaaGreat.W
open Go Go.Fw Go.RowKit Go.SoP Go.LiP
variable {W w w' w0 w2 w3 u:World} {p q:Option Addr} {n m d b nl i:Nat} {id:List (Int × Int)} {hs ks:List Sl} {cs R:List (List Int)} {c l:List Int} {H H' H2:Pt→Sl} {s t s' s2:PSt} {K:List Nat} {vars:Nat} {mp:List (Int × Int)} {num:Nat→Nat}
end Go.Proofs.YtenmibfmhccmiaaGreat.W
namespace Go.Fw
open Go Go.RowKit
variable {P:Program} {α:Type} {sz:Nat} {f:α→List Value} {T:TypeId} {w w':World} {p q:Option Addr} {c:Nat} {l:List α}
theorem Row.cap (h:Row sz f T w p c l):l.length≤c:=by
 rcases h.un with ⟨_,_,rfl⟩| ⟨_,_,_,_,g1,_⟩
 · simp
 · exact g1
end Go.Fw
namespace Go.Proofs.YtenmibfmhccmiaaGreat.W
open Go Go.Fw Go.RowKit Go.SoP Go.LiP
variable {w w' w0 w2 w3:World} {p q:Option Addr} {n m c d:Nat} {k:Int} {hs:List Sl} {cs:List (List Int)} {l:List Int}
theorem cells2 {b:Nat} {x y:Value} (h:Has w b #[x,y]):CellsAt w ⟨b,0,none⟩ 0 [x,y]:=⟨cell_add h rfl,cell_add h rfl,trivial⟩
theorem small_ok (hc:V2 (Value.int .i64) w p hs cs) (hn:n=cs.length):Calls Tryz.prog fathomlaw07_Small.id #[.agg #[.int .i64 k,.slice p n d]] w fun e w'=> ∃r:Bool,e= .returned (.bool r)∧(r=true→cs.length≤40)∧Grow w w':=by
 subst hn
 refine fathomlaw07_Small.calls ?_
 intro n1 w2 h2
 refine ⟨_,_,_,_,cells2 h2.has,(light_ok (hc.grow h2.mod) rfl).mono ?_⟩
 rintro e w5 ⟨r,rfl,g⟩
 refine ⟨_,rfl,cnd_i (fun _=> ?_) (fun _=> ⟨false,rfl,fun e=> (by cases e),h2.mod.trans g⟩)⟩
 exact ⟨_,_,_,cell_add (h2.has.grow g) rfl,_,rfl,fun e=>by rw [decide_eq_true_eq] at e;omega,h2.mod.trans g⟩
end Go.Proofs.YtenmibfmhccmiaaGreat.W
