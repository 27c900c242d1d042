/- Layer 7: a short proof proves; which clauses are at hand; what a step does; where a proof ends. -/
import Derived.Test.YtenmibfmhccmiaaGreatRupE
import Derived.Test.YtenmibfmhccmiaaGreatRupD
import Derived.Test.YtenmibfmhccmiaaGreatLitA
import Derived.Test.YtenmibfmhccmiaaGreatLitB
set_option linter.unusedVariables false
set_option linter.unusedSimpArgs false
namespace Go.Proofs.YtenmibfmhccmiaaGreat.W
open Go Go.Fw Go.RowKit Go.SoP Go.LiP
variable {W w w' w0 w2 w3 u0 u u':World} {p q:Option Addr} {n m c d:Nat} {k:Int} {hs ks:List Sl} {cs:List (List Int)} {l:List Int}
theorem has_vw {α:Type} {f:α→Value} {b:Nat} {a:Array Value} {l:List α} (h:Has w b a) (hc:a.toList=l.map f):Vw f w (some ⟨b,0,none⟩) l:=by
 intro j hj
 refine ⟨_,rfl,cell_add h ?_⟩
 rw [Nat.zero_add,← Array.getElem?_toList,hc,List.getElem?_map,List.getElem?_eq_getElem hj]
 rfl
end Go.Proofs.YtenmibfmhccmiaaGreat.W
