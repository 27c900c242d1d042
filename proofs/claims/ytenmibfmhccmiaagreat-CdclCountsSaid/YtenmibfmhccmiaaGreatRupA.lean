/- Layer 7: what is at hand by units, plain. -/
import Derived.Test.YtenmibfmhccmiaaGreatPropF
import Derived.Test.YtenmibfmhccmiaaGreatFwMem
import Derived.Maps.OwnSet
import Derived.Test.YtenmibfmhccmiaaGreatLitA
import Derived.Test.YtenmibfmhccmiaaGreatLitC
import Derived.Test.YtenmibfmhccmiaaGreatPropD
namespace Go.Proofs.YtenmibfmhccmiaaGreat.W
open Go Go.Fw Go.RowKit Go.SoP Go.LiP
variable {cs:List (List Int)} {c d T T':List Int} {κ:Int→Int}
end Go.Proofs.YtenmibfmhccmiaaGreat.W
