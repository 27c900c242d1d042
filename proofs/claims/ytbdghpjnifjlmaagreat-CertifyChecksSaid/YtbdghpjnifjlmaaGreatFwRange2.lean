/- A range over a function, once in the text of a function. -/
import Derived.Test.YtbdghpjnifjlmaaGreatFwRange
import Derived.Test.YtbdghpjnifjlmaaGreatFwMem
namespace Go.Fw
open Go
end Go.Fw
