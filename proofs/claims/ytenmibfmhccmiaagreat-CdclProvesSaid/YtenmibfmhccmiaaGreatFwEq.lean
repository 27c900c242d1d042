/- Equality of structs whose fields are ints. -/
import Derived.Test.YtenmibfmhccmiaaGreatFwMem
import Derived.Laws.StructEq
namespace Go.Fw
open Go Go.RowKit
variable {P:Program}
end Go.Fw
