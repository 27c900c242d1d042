/- Layer 7: what is at hand by units, plain. -/
import Derived.Test.YtabengnadcleeaaGreatPropF
import Derived.Test.YtabengnadcleeaaGreatFwMem
import Derived.Maps.OwnSet
import Derived.Test.YtabengnadcleeaaGreatLitA
import Derived.Test.YtabengnadcleeaaGreatLitC
import Derived.Test.YtabengnadcleeaaGreatPropD
namespace Go.Proofs.YtabengnadcleeaaGreat.W
open Go Go.Fw Go.RowKit Go.SoP Go.LiP
variable {cs:List (List Int)} {c d T T':List Int} {κ:Int→Int}
end Go.Proofs.YtabengnadcleeaaGreat.W
