/- Functions that defer one call, and functions that are called so. -/
import Derived.Test.YtenmibfmhccmiaaGreatFwSound
import Derived.Defers
namespace Go.Fw
open Go
variable {P:Program} {D:List Deferred}
end Go.Fw
