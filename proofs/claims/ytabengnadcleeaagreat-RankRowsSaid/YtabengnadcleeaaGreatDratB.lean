/- Layer 8: of which clauses a clause is at hand, walked. -/
import Derived.Test.YtabengnadcleeaaGreatDratA
import Derived.Test.YtabengnadcleeaaGreatLitA
import Derived.Test.YtabengnadcleeaaGreatPropF
import Derived.Test.YtabengnadcleeaaGreatLitC
import Derived.Test.YtabengnadcleeaaGreatRupA
namespace Go.Proofs.YtabengnadcleeaaGreat.W
open Go Go.Fw Go.RowKit Go.SoP Go.LiP
variable {W w w' w0 w2 w3 u:World} {p q:Option Addr} {n m d b nl i:Nat} {id:List (Int × Int)} {hs ks:List Sl} {cs R:List (List Int)} {c l:List Int} {H H' H2:Pt→Sl} {s t s' s2:PSt} {K:List Nat} {vars:Nat} {mp:List (Int × Int)} {num:Nat→Nat}
end Go.Proofs.YtabengnadcleeaaGreat.W
namespace Go.Fw
open Go Go.RowKit
variable {P:Program} {α:Type} {sz:Nat} {f:α→List Value} {T:TypeId} {w w':World} {p q:Option Addr} {c:Nat} {l:List α}
theorem Row.cap (h:Row sz f T w p c l):l.length≤c:=by
 rcases h.un with ⟨_,_,rfl⟩| ⟨_,_,_,_,g1,_⟩
 · simp
 · exact g1
end Go.Fw
