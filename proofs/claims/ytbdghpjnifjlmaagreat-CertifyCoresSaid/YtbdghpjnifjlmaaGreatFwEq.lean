/- Equality of structs whose fields are ints. -/
import Derived.Test.YtbdghpjnifjlmaaGreatFwMem
import Derived.Laws.StructEq
namespace Go.Fw
open Go Go.RowKit
end Go.Fw
