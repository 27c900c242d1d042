/- Layer 6: the law's own functions: a decision, a run, and levels that are taken back. -/
import Derived.Test.YtabengnadcleeaaGreatPropE
import Derived.Test.YtabengnadcleeaaGreatFwRead
namespace Go.Proofs.YtabengnadcleeaaGreat.W
open Go Go.Fw Go.RowKit Go.SoP Go.LiP
section
variable {w w' w0 w2 w3:World} {b:Nat} {H H' H2:Pt→Sl} {s t u s' T:PSt} {cp gp dp:Option Addr} {hs:List Sl} {cs:List (List Int)} {gl:List Bool} {dl:List Int} {cn cc gn gc dn dc:Nat} {v:Int}
end
section
variable {w w' w0 w2 w3:World} {b:Nat} {H H' H2:Pt→Sl} {s t u s' T:PSt} {p cp gp dp ap:Option Addr} {hs:List Sl} {cs:List (List Int)} {gl:List Bool} {dl c m:List Int} {cn cc gn gc dn dc an ac:Nat} {v:Int}
theorem litB_of {n:Nat} {l:Int} (hn:n≤1048576) (h:InV n l):litB l=true:=by
 have:=(isB_iff hn).2 h
 unfold isB at this
 simp only [Bool.and_eq_true] at this
 exact this.1
end
end Go.Proofs.YtabengnadcleeaaGreat.W
