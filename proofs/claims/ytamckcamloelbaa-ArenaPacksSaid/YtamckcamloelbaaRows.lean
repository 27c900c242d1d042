/-
  No cell of these rows narrows 'for every input' (looked for: loops, veiled, ifaces, maps, wideKeys, modest, calm, conditions, laid).
  DERIVED. THE GIVEN ROWS OF THIS SEAT. 12 by the template 'for every input the law returns true; each argument reads behind the call as it read before'; 0 by the template 'total and deterministic' (their statements: YtamckcamloelbaaTotals.lean).
  GIVEN WITH THE SEED: the statements are not yours to turn. If you find one false, say at which input.
  Laid BY PROGRAM, IN A SANDBOX (cutbox-rows.mjs): the forced cells as the released guide's own fill.sh prints them over the translation 96e3174e07c22fdf… (all of the seat's roots in one cut). By AI agents, Wed Nov 11 2026. No macro, syntax, notation, axiom, sorry.
-/
import Derived.Test.YtamckcamloelbaaChecked
import GoSem.Claim
import GoSem.ClaimJoined
import GoSem.ClaimMapViews
import Derived.JoinedTies
import Derived.KernelRfl
namespace Go.Proofs.Ytamckcamloelbaa
/- THE CELL 'sum', in the pinned program and in every row, IS THE sha256 OF THE DUMP (.gsa) THAT YtamckcamloelbaaProg.lean LOADS. Nothing in Lean hashes anything: it is a label: what it is worth is what the hold of that sum in a sandbox is worth. -/
noncomputable def Try.pinned : Pinned := { name := "ytamckcamloelbaa", sum := "96e3174e07c22fdf277d59fd5506c43f55978fd4a215efa81f03854b810f1fe6", checked := Try.checked }
namespace Rows
def none {H : Type} : Left H := { results := [], args := [] }

/-- 'fathomlaw10.LubyNumbers': WHATEVER THE INPUT: true; the input reads as it did. -/
def lubyNumbersSpec : ChangeSpec := { name := "lubyNumbers", fn := fun _ => fun
  | [d1, d2] => { results := [.lit (.bool true)], args := [d1, d2] }
  | _ => none }
def lubyNumbersRow : OpenClaim := { program := "ytamckcamloelbaa", sum := "96e3174e07c22fdf277d59fd5506c43f55978fd4a215efa81f03854b810f1fe6", func := "fathom/fathomlaw10.LubyNumbers", spec := "lubyNumbers", recurses := true, apart := false }
def LubyNumbersSaid : Prop := lubyNumbersRow.holds Try.pinned (OpenSpec.ofChange lubyNumbersSpec)

/-- ITS FALSE NEIGHBOUR: 'it returns false'. Refute it at one input. -/
def lubyNumbersWrong : ChangeSpec := { name := "lubyNumbers", fn := fun _ => fun
  | [d1, d2] => { results := [.lit (.bool false)], args := [d1, d2] }
  | _ => none }
def LubyNumbersWrongFalsely : Prop := lubyNumbersRow.holds Try.pinned (OpenSpec.ofChange lubyNumbersWrong)

/-- 'fathomlaw10.LubyPowers': WHATEVER THE INPUT: true; the input reads as it did. -/
def lubyPowersSpec : ChangeSpec := { name := "lubyPowers", fn := fun _ => fun
  | [d1, d2] => { results := [.lit (.bool true)], args := [d1, d2] }
  | _ => none }
def lubyPowersRow : OpenClaim := { program := "ytamckcamloelbaa", sum := "96e3174e07c22fdf277d59fd5506c43f55978fd4a215efa81f03854b810f1fe6", func := "fathom/fathomlaw10.LubyPowers", spec := "lubyPowers", apart := false }
def LubyPowersSaid : Prop := lubyPowersRow.holds Try.pinned (OpenSpec.ofChange lubyPowersSpec)

/-- ITS FALSE NEIGHBOUR: 'it returns false'. Refute it at one input. -/
def lubyPowersWrong : ChangeSpec := { name := "lubyPowers", fn := fun _ => fun
  | [d1, d2] => { results := [.lit (.bool false)], args := [d1, d2] }
  | _ => none }
def LubyPowersWrongFalsely : Prop := lubyPowersRow.holds Try.pinned (OpenSpec.ofChange lubyPowersWrong)

/-- 'fathomlaw10.LubyTicks': WHATEVER THE INPUT: true; the input reads as it did. -/
def lubyTicksSpec : ChangeSpec := { name := "lubyTicks", fn := fun _ => fun
  | [d1, d2] => { results := [.lit (.bool true)], args := [d1, d2] }
  | _ => none }
def lubyTicksRow : OpenClaim := { program := "ytamckcamloelbaa", sum := "96e3174e07c22fdf277d59fd5506c43f55978fd4a215efa81f03854b810f1fe6", func := "fathom/fathomlaw10.LubyTicks", spec := "lubyTicks", recurses := true, apart := false }
def LubyTicksSaid : Prop := lubyTicksRow.holds Try.pinned (OpenSpec.ofChange lubyTicksSpec)

/-- ITS FALSE NEIGHBOUR: 'it returns false'. Refute it at one input. -/
def lubyTicksWrong : ChangeSpec := { name := "lubyTicks", fn := fun _ => fun
  | [d1, d2] => { results := [.lit (.bool false)], args := [d1, d2] }
  | _ => none }
def LubyTicksWrongFalsely : Prop := lubyTicksRow.holds Try.pinned (OpenSpec.ofChange lubyTicksWrong)

/-- 'fathomlaw10.LubyPaces': WHATEVER THE INPUT: true; the input reads as it did. -/
def lubyPacesSpec : ChangeSpec := { name := "lubyPaces", fn := fun _ => fun
  | [d1, d2] => { results := [.lit (.bool true)], args := [d1, d2] }
  | _ => none }
def lubyPacesRow : OpenClaim := { program := "ytamckcamloelbaa", sum := "96e3174e07c22fdf277d59fd5506c43f55978fd4a215efa81f03854b810f1fe6", func := "fathom/fathomlaw10.LubyPaces", spec := "lubyPaces", recurses := true, apart := false }
def LubyPacesSaid : Prop := lubyPacesRow.holds Try.pinned (OpenSpec.ofChange lubyPacesSpec)

/-- ITS FALSE NEIGHBOUR: 'it returns false'. Refute it at one input. -/
def lubyPacesWrong : ChangeSpec := { name := "lubyPaces", fn := fun _ => fun
  | [d1, d2] => { results := [.lit (.bool false)], args := [d1, d2] }
  | _ => none }
def LubyPacesWrongFalsely : Prop := lubyPacesRow.holds Try.pinned (OpenSpec.ofChange lubyPacesWrong)

/-- 'fathomlaw02.ArenaActs': WHATEVER THE INPUT: true; the input reads as it did. -/
def arenaActsSpec : ChangeSpec := { name := "arenaActs", fn := fun _ => fun
  | [d] => { results := [.lit (.bool true)], args := [d] }
  | _ => none }
def arenaActsRow : OpenClaim := { program := "ytamckcamloelbaa", sum := "96e3174e07c22fdf277d59fd5506c43f55978fd4a215efa81f03854b810f1fe6", func := "fathom/fathomlaw02.ArenaActs", spec := "arenaActs", unfollowed := true, recurses := true, apart := false }
def ArenaActsSaid : Prop := arenaActsRow.holds Try.pinned (OpenSpec.ofChange arenaActsSpec)

/-- ITS FALSE NEIGHBOUR: 'it returns false'. Refute it at one input. -/
def arenaActsWrong : ChangeSpec := { name := "arenaActs", fn := fun _ => fun
  | [d] => { results := [.lit (.bool false)], args := [d] }
  | _ => none }
def ArenaActsWrongFalsely : Prop := arenaActsRow.holds Try.pinned (OpenSpec.ofChange arenaActsWrong)

/-- 'fathomlaw02.ArenaGets': WHATEVER THE INPUT: true; the input reads as it did. -/
def arenaGetsSpec : ChangeSpec := { name := "arenaGets", fn := fun _ => fun
  | [d1, d2] => { results := [.lit (.bool true)], args := [d1, d2] }
  | _ => none }
def arenaGetsRow : OpenClaim := { program := "ytamckcamloelbaa", sum := "96e3174e07c22fdf277d59fd5506c43f55978fd4a215efa81f03854b810f1fe6", func := "fathom/fathomlaw02.ArenaGets", spec := "arenaGets", unfollowed := true, recurses := true, apart := false }
def ArenaGetsSaid : Prop := arenaGetsRow.holds Try.pinned (OpenSpec.ofChange arenaGetsSpec)

/-- ITS FALSE NEIGHBOUR: 'it returns false'. Refute it at one input. -/
def arenaGetsWrong : ChangeSpec := { name := "arenaGets", fn := fun _ => fun
  | [d1, d2] => { results := [.lit (.bool false)], args := [d1, d2] }
  | _ => none }
def ArenaGetsWrongFalsely : Prop := arenaGetsRow.holds Try.pinned (OpenSpec.ofChange arenaGetsWrong)

/-- 'fathomlaw02.ArenaPacks': WHATEVER THE INPUT: true; the input reads as it did. -/
def arenaPacksSpec : ChangeSpec := { name := "arenaPacks", fn := fun _ => fun
  | [d] => { results := [.lit (.bool true)], args := [d] }
  | _ => none }
def arenaPacksRow : OpenClaim := { program := "ytamckcamloelbaa", sum := "96e3174e07c22fdf277d59fd5506c43f55978fd4a215efa81f03854b810f1fe6", func := "fathom/fathomlaw02.ArenaPacks", spec := "arenaPacks", unfollowed := true, recurses := true, apart := false }
def ArenaPacksSaid : Prop := arenaPacksRow.holds Try.pinned (OpenSpec.ofChange arenaPacksSpec)

/-- ITS FALSE NEIGHBOUR: 'it returns false'. Refute it at one input. -/
def arenaPacksWrong : ChangeSpec := { name := "arenaPacks", fn := fun _ => fun
  | [d] => { results := [.lit (.bool false)], args := [d] }
  | _ => none }
def ArenaPacksWrongFalsely : Prop := arenaPacksRow.holds Try.pinned (OpenSpec.ofChange arenaPacksWrong)

/-- 'fathomlaw02.ArenaNobody': WHATEVER THE INPUT: true; the input reads as it did. -/
def arenaNobodySpec : ChangeSpec := { name := "arenaNobody", fn := fun _ => fun
  | [d] => { results := [.lit (.bool true)], args := [d] }
  | _ => none }
def arenaNobodyRow : OpenClaim := { program := "ytamckcamloelbaa", sum := "96e3174e07c22fdf277d59fd5506c43f55978fd4a215efa81f03854b810f1fe6", func := "fathom/fathomlaw02.ArenaNobody", spec := "arenaNobody", unfollowed := true, recurses := true, apart := false }
def ArenaNobodySaid : Prop := arenaNobodyRow.holds Try.pinned (OpenSpec.ofChange arenaNobodySpec)

/-- ITS FALSE NEIGHBOUR: 'it returns false'. Refute it at one input. -/
def arenaNobodyWrong : ChangeSpec := { name := "arenaNobody", fn := fun _ => fun
  | [d] => { results := [.lit (.bool false)], args := [d] }
  | _ => none }
def ArenaNobodyWrongFalsely : Prop := arenaNobodyRow.holds Try.pinned (OpenSpec.ofChange arenaNobodyWrong)

/-- 'fathomlaw09.HeapOrders': WHATEVER THE INPUT: true; the input reads as it did. -/
def heapOrdersSpec : ChangeSpec := { name := "heapOrders", fn := fun _ => fun
  | [d1, d2] => { results := [.lit (.bool true)], args := [d1, d2] }
  | _ => none }
def heapOrdersRow : OpenClaim := { program := "ytamckcamloelbaa", sum := "96e3174e07c22fdf277d59fd5506c43f55978fd4a215efa81f03854b810f1fe6", func := "fathom/fathomlaw09.HeapOrders", spec := "heapOrders", apart := false }
def HeapOrdersSaid : Prop := heapOrdersRow.holds Try.pinned (OpenSpec.ofChange heapOrdersSpec)

/-- ITS FALSE NEIGHBOUR: 'it returns false'. Refute it at one input. -/
def heapOrdersWrong : ChangeSpec := { name := "heapOrders", fn := fun _ => fun
  | [d1, d2] => { results := [.lit (.bool false)], args := [d1, d2] }
  | _ => none }
def HeapOrdersWrongFalsely : Prop := heapOrdersRow.holds Try.pinned (OpenSpec.ofChange heapOrdersWrong)

/-- 'fathomlaw09.HeapActs': WHATEVER THE INPUT: true; the input reads as it did. -/
def heapActsSpec : ChangeSpec := { name := "heapActs", fn := fun _ => fun
  | [d1, d2] => { results := [.lit (.bool true)], args := [d1, d2] }
  | _ => none }
def heapActsRow : OpenClaim := { program := "ytamckcamloelbaa", sum := "96e3174e07c22fdf277d59fd5506c43f55978fd4a215efa81f03854b810f1fe6", func := "fathom/fathomlaw09.HeapActs", spec := "heapActs", apart := false }
def HeapActsSaid : Prop := heapActsRow.holds Try.pinned (OpenSpec.ofChange heapActsSpec)

/-- ITS FALSE NEIGHBOUR: 'it returns false'. Refute it at one input. -/
def heapActsWrong : ChangeSpec := { name := "heapActs", fn := fun _ => fun
  | [d1, d2] => { results := [.lit (.bool false)], args := [d1, d2] }
  | _ => none }
def HeapActsWrongFalsely : Prop := heapActsRow.holds Try.pinned (OpenSpec.ofChange heapActsWrong)

/-- 'fathomlaw09.HeapScales': WHATEVER THE INPUT: true; the input reads as it did. -/
def heapScalesSpec : ChangeSpec := { name := "heapScales", fn := fun _ => fun
  | [d1, d2, d3] => { results := [.lit (.bool true)], args := [d1, d2, d3] }
  | _ => none }
def heapScalesRow : OpenClaim := { program := "ytamckcamloelbaa", sum := "96e3174e07c22fdf277d59fd5506c43f55978fd4a215efa81f03854b810f1fe6", func := "fathom/fathomlaw09.HeapScales", spec := "heapScales", apart := false }
def HeapScalesSaid : Prop := heapScalesRow.holds Try.pinned (OpenSpec.ofChange heapScalesSpec)

/-- ITS FALSE NEIGHBOUR: 'it returns false'. Refute it at one input. -/
def heapScalesWrong : ChangeSpec := { name := "heapScales", fn := fun _ => fun
  | [d1, d2, d3] => { results := [.lit (.bool false)], args := [d1, d2, d3] }
  | _ => none }
def HeapScalesWrongFalsely : Prop := heapScalesRow.holds Try.pinned (OpenSpec.ofChange heapScalesWrong)

/-- 'fathomlaw09.HeapNew': WHATEVER THE INPUT: true; the input reads as it did. -/
def heapNewSpec : ChangeSpec := { name := "heapNew", fn := fun _ => fun
  | [d1, d2] => { results := [.lit (.bool true)], args := [d1, d2] }
  | _ => none }
def heapNewRow : OpenClaim := { program := "ytamckcamloelbaa", sum := "96e3174e07c22fdf277d59fd5506c43f55978fd4a215efa81f03854b810f1fe6", func := "fathom/fathomlaw09.HeapNew", spec := "heapNew", apart := false }
def HeapNewSaid : Prop := heapNewRow.holds Try.pinned (OpenSpec.ofChange heapNewSpec)

/-- ITS FALSE NEIGHBOUR: 'it returns false'. Refute it at one input. -/
def heapNewWrong : ChangeSpec := { name := "heapNew", fn := fun _ => fun
  | [d1, d2] => { results := [.lit (.bool false)], args := [d1, d2] }
  | _ => none }
def HeapNewWrongFalsely : Prop := heapNewRow.holds Try.pinned (OpenSpec.ofChange heapNewWrong)

/- THE SECOND FORM. 'bulk': how many values and letters a reading holds, each counted each time it is reached (what is shared counts as often as it is met; a slice's spare places count too). A statement '..UptoSaid' is the law's where the arguments, and the package variables that the reading takes, are together of bulk at most 1048576: NARROWER than '..Said'. Prove '..Said' where nothing that the law and all that it calls make is longer than what came in: it says more and counts as full. Else prove '..UptoSaid'. A law counts once. -/
mutual
def uptoBulk {H : Type} : DataW H → Nat
  | .lit (.string bytes) => bytes.length + 1
  | .lit _ => 1
  | .nil => 1
  | .ptr d => uptoBulk d + 1
  | .slice elems spare => uptoBulkAll elems + uptoBulkAll spare + 1
  | .agg parts => uptoBulkAll parts + 1
  | .iface _ d => uptoBulk d + 1
  | .map entries => uptoBulkEntries entries + 1
  | .held _ => 1
def uptoBulkAll {H : Type} : List (DataW H) → Nat
  | [] => 0
  | d :: r => uptoBulk d + uptoBulkAll r
def uptoBulkEntries {H : Type} : List (Lit × DataW H) → Nat
  | [] => 0
  | x :: r => uptoBulkEntry x + uptoBulkEntries r
def uptoBulkEntry {H : Type} : Lit × DataW H → Nat
  | (.string bytes, d) => bytes.length + uptoBulk d + 1
  | (_, d) => uptoBulk d + 1
 end
def uptoSmall : (H : Type) → List (DataW H) → Bool := fun _ ds => decide (uptoBulkAll ds ≤ 1048576)
def OpenSpec.upto (s : _root_.Go.ChangeSpec) : _root_.Go.OpenSpec := { _root_.Go.OpenSpec.ofChange s with cond := some uptoSmall }

/-- 'fathomlaw10.LubyNumbers', WHERE WHAT IT READS IS OF BULK AT MOST 1048576: true; the input reads as it did. -/
def lubyNumbersUptoRow : OpenClaim := { program := "ytamckcamloelbaa", sum := "96e3174e07c22fdf277d59fd5506c43f55978fd4a215efa81f03854b810f1fe6", func := "fathom/fathomlaw10.LubyNumbers", spec := "lubyNumbers", recurses := true, apart := false, narrowed := true }
def LubyNumbersUptoSaid : Prop := lubyNumbersUptoRow.holds Try.pinned (OpenSpec.upto lubyNumbersSpec)

/-- 'fathomlaw10.LubyPowers', WHERE WHAT IT READS IS OF BULK AT MOST 1048576: true; the input reads as it did. -/
def lubyPowersUptoRow : OpenClaim := { program := "ytamckcamloelbaa", sum := "96e3174e07c22fdf277d59fd5506c43f55978fd4a215efa81f03854b810f1fe6", func := "fathom/fathomlaw10.LubyPowers", spec := "lubyPowers", apart := false, narrowed := true }
def LubyPowersUptoSaid : Prop := lubyPowersUptoRow.holds Try.pinned (OpenSpec.upto lubyPowersSpec)

/-- 'fathomlaw10.LubyTicks', WHERE WHAT IT READS IS OF BULK AT MOST 1048576: true; the input reads as it did. -/
def lubyTicksUptoRow : OpenClaim := { program := "ytamckcamloelbaa", sum := "96e3174e07c22fdf277d59fd5506c43f55978fd4a215efa81f03854b810f1fe6", func := "fathom/fathomlaw10.LubyTicks", spec := "lubyTicks", recurses := true, apart := false, narrowed := true }
def LubyTicksUptoSaid : Prop := lubyTicksUptoRow.holds Try.pinned (OpenSpec.upto lubyTicksSpec)

/-- 'fathomlaw10.LubyPaces', WHERE WHAT IT READS IS OF BULK AT MOST 1048576: true; the input reads as it did. -/
def lubyPacesUptoRow : OpenClaim := { program := "ytamckcamloelbaa", sum := "96e3174e07c22fdf277d59fd5506c43f55978fd4a215efa81f03854b810f1fe6", func := "fathom/fathomlaw10.LubyPaces", spec := "lubyPaces", recurses := true, apart := false, narrowed := true }
def LubyPacesUptoSaid : Prop := lubyPacesUptoRow.holds Try.pinned (OpenSpec.upto lubyPacesSpec)

/-- 'fathomlaw02.ArenaActs', WHERE WHAT IT READS IS OF BULK AT MOST 1048576: true; the input reads as it did. -/
def arenaActsUptoRow : OpenClaim := { program := "ytamckcamloelbaa", sum := "96e3174e07c22fdf277d59fd5506c43f55978fd4a215efa81f03854b810f1fe6", func := "fathom/fathomlaw02.ArenaActs", spec := "arenaActs", unfollowed := true, recurses := true, apart := false, narrowed := true }
def ArenaActsUptoSaid : Prop := arenaActsUptoRow.holds Try.pinned (OpenSpec.upto arenaActsSpec)

/-- 'fathomlaw02.ArenaGets', WHERE WHAT IT READS IS OF BULK AT MOST 1048576: true; the input reads as it did. -/
def arenaGetsUptoRow : OpenClaim := { program := "ytamckcamloelbaa", sum := "96e3174e07c22fdf277d59fd5506c43f55978fd4a215efa81f03854b810f1fe6", func := "fathom/fathomlaw02.ArenaGets", spec := "arenaGets", unfollowed := true, recurses := true, apart := false, narrowed := true }
def ArenaGetsUptoSaid : Prop := arenaGetsUptoRow.holds Try.pinned (OpenSpec.upto arenaGetsSpec)

/-- 'fathomlaw02.ArenaPacks', WHERE WHAT IT READS IS OF BULK AT MOST 1048576: true; the input reads as it did. -/
def arenaPacksUptoRow : OpenClaim := { program := "ytamckcamloelbaa", sum := "96e3174e07c22fdf277d59fd5506c43f55978fd4a215efa81f03854b810f1fe6", func := "fathom/fathomlaw02.ArenaPacks", spec := "arenaPacks", unfollowed := true, recurses := true, apart := false, narrowed := true }
def ArenaPacksUptoSaid : Prop := arenaPacksUptoRow.holds Try.pinned (OpenSpec.upto arenaPacksSpec)

/-- 'fathomlaw02.ArenaNobody', WHERE WHAT IT READS IS OF BULK AT MOST 1048576: true; the input reads as it did. -/
def arenaNobodyUptoRow : OpenClaim := { program := "ytamckcamloelbaa", sum := "96e3174e07c22fdf277d59fd5506c43f55978fd4a215efa81f03854b810f1fe6", func := "fathom/fathomlaw02.ArenaNobody", spec := "arenaNobody", unfollowed := true, recurses := true, apart := false, narrowed := true }
def ArenaNobodyUptoSaid : Prop := arenaNobodyUptoRow.holds Try.pinned (OpenSpec.upto arenaNobodySpec)

/-- 'fathomlaw09.HeapOrders', WHERE WHAT IT READS IS OF BULK AT MOST 1048576: true; the input reads as it did. -/
def heapOrdersUptoRow : OpenClaim := { program := "ytamckcamloelbaa", sum := "96e3174e07c22fdf277d59fd5506c43f55978fd4a215efa81f03854b810f1fe6", func := "fathom/fathomlaw09.HeapOrders", spec := "heapOrders", apart := false, narrowed := true }
def HeapOrdersUptoSaid : Prop := heapOrdersUptoRow.holds Try.pinned (OpenSpec.upto heapOrdersSpec)

/-- 'fathomlaw09.HeapActs', WHERE WHAT IT READS IS OF BULK AT MOST 1048576: true; the input reads as it did. -/
def heapActsUptoRow : OpenClaim := { program := "ytamckcamloelbaa", sum := "96e3174e07c22fdf277d59fd5506c43f55978fd4a215efa81f03854b810f1fe6", func := "fathom/fathomlaw09.HeapActs", spec := "heapActs", apart := false, narrowed := true }
def HeapActsUptoSaid : Prop := heapActsUptoRow.holds Try.pinned (OpenSpec.upto heapActsSpec)

/-- 'fathomlaw09.HeapScales', WHERE WHAT IT READS IS OF BULK AT MOST 1048576: true; the input reads as it did. -/
def heapScalesUptoRow : OpenClaim := { program := "ytamckcamloelbaa", sum := "96e3174e07c22fdf277d59fd5506c43f55978fd4a215efa81f03854b810f1fe6", func := "fathom/fathomlaw09.HeapScales", spec := "heapScales", apart := false, narrowed := true }
def HeapScalesUptoSaid : Prop := heapScalesUptoRow.holds Try.pinned (OpenSpec.upto heapScalesSpec)

/-- 'fathomlaw09.HeapNew', WHERE WHAT IT READS IS OF BULK AT MOST 1048576: true; the input reads as it did. -/
def heapNewUptoRow : OpenClaim := { program := "ytamckcamloelbaa", sum := "96e3174e07c22fdf277d59fd5506c43f55978fd4a215efa81f03854b810f1fe6", func := "fathom/fathomlaw09.HeapNew", spec := "heapNew", apart := false, narrowed := true }
def HeapNewUptoSaid : Prop := heapNewUptoRow.holds Try.pinned (OpenSpec.upto heapNewSpec)

end Rows
end Go.Proofs.Ytamckcamloelbaa
