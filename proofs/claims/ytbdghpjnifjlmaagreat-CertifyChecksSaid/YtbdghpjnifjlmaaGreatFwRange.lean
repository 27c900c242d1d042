/- The frame within a round of a range over a function; such a range within a function. -/
import Derived.Test.YtbdghpjnifjlmaaGreatFwDefer
import Derived.RangeFuncNested
import Derived.Sort.LoopGhostIn
import Derived.OrdersIn
import Derived.TacticsIn
namespace Go.Fw
open Go
end Go.Fw
