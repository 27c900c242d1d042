/-
  No cell of these rows narrows 'for every input' (looked for: loops, veiled, ifaces, maps, wideKeys, modest, calm, conditions, laid).
  DERIVED. THE GIVEN ROWS OF THIS SEAT. 12 by the template 'for every input the law returns true; each argument reads behind the call as it read before'; 0 by the template 'total and deterministic' (their statements: YtlpmapeojecenaaTotals.lean).
  GIVEN WITH THE SEED: the statements are not yours to turn. If you find one false, say at which input.
  Laid BY PROGRAM, IN A SANDBOX (cutbox-rows.mjs): the forced cells as the released guide's own fill.sh prints them over the translation e50b48b36a7fd763… (all of the seat's roots in one cut). By AI agents, Wed Nov 11 2026. No macro, syntax, notation, axiom, sorry.
-/
import Derived.Test.YtlpmapeojecenaaChecked
import GoSem.Claim
import GoSem.ClaimJoined
import GoSem.ClaimMapViews
import Derived.JoinedTies
import Derived.KernelRfl
namespace Go.Proofs.Ytlpmapeojecenaa
/- THE CELL 'sum', in the pinned program and in every row, IS THE sha256 OF THE DUMP (.gsa) THAT YtlpmapeojecenaaProg.lean LOADS. Nothing in Lean hashes anything: it is a label: what it is worth is what the hold of that sum in a sandbox is worth. -/
noncomputable def Try.pinned : Pinned := { name := "ytlpmapeojecenaa", sum := "e50b48b36a7fd763a406d96717f00aef469f278c5521cb8810722c8a128111f7", checked := Try.checked }
namespace Rows
def none {H : Type} : Left H := { results := [], args := [] }

/-- 'fathomlaw13.ReduceKeeps': WHATEVER THE INPUT: true; the input reads as it did. -/
def reduceKeepsSpec : ChangeSpec := { name := "reduceKeeps", fn := fun _ => fun
  | [d] => { results := [.lit (.bool true)], args := [d] }
  | _ => none }
def reduceKeepsRow : OpenClaim := { program := "ytlpmapeojecenaa", sum := "e50b48b36a7fd763a406d96717f00aef469f278c5521cb8810722c8a128111f7", func := "fathom/fathomlaw13.ReduceKeeps", spec := "reduceKeeps", unfollowed := true, recurses := true, apart := false }
def ReduceKeepsSaid : Prop := reduceKeepsRow.holds Try.pinned (OpenSpec.ofChange reduceKeepsSpec)

/-- ITS FALSE NEIGHBOUR: 'it returns false'. Refute it at one input. -/
def reduceKeepsWrong : ChangeSpec := { name := "reduceKeeps", fn := fun _ => fun
  | [d] => { results := [.lit (.bool false)], args := [d] }
  | _ => none }
def ReduceKeepsWrongFalsely : Prop := reduceKeepsRow.holds Try.pinned (OpenSpec.ofChange reduceKeepsWrong)

/-- 'fathomlaw13.ReduceHalves': WHATEVER THE INPUT: true; the input reads as it did. -/
def reduceHalvesSpec : ChangeSpec := { name := "reduceHalves", fn := fun _ => fun
  | [d] => { results := [.lit (.bool true)], args := [d] }
  | _ => none }
def reduceHalvesRow : OpenClaim := { program := "ytlpmapeojecenaa", sum := "e50b48b36a7fd763a406d96717f00aef469f278c5521cb8810722c8a128111f7", func := "fathom/fathomlaw13.ReduceHalves", spec := "reduceHalves", unfollowed := true, recurses := true, apart := false }
def ReduceHalvesSaid : Prop := reduceHalvesRow.holds Try.pinned (OpenSpec.ofChange reduceHalvesSpec)

/-- ITS FALSE NEIGHBOUR: 'it returns false'. Refute it at one input. -/
def reduceHalvesWrong : ChangeSpec := { name := "reduceHalves", fn := fun _ => fun
  | [d] => { results := [.lit (.bool false)], args := [d] }
  | _ => none }
def ReduceHalvesWrongFalsely : Prop := reduceHalvesRow.holds Try.pinned (OpenSpec.ofChange reduceHalvesWrong)

/-- 'fathomlaw13.ReduceQuotas': WHATEVER THE INPUT: true; the input reads as it did. -/
def reduceQuotasSpec : ChangeSpec := { name := "reduceQuotas", fn := fun _ => fun
  | [d1, d2, d3] => { results := [.lit (.bool true)], args := [d1, d2, d3] }
  | _ => none }
def reduceQuotasRow : OpenClaim := { program := "ytlpmapeojecenaa", sum := "e50b48b36a7fd763a406d96717f00aef469f278c5521cb8810722c8a128111f7", func := "fathom/fathomlaw13.ReduceQuotas", spec := "reduceQuotas", unfollowed := true, recurses := true, apart := false }
def ReduceQuotasSaid : Prop := reduceQuotasRow.holds Try.pinned (OpenSpec.ofChange reduceQuotasSpec)

/-- ITS FALSE NEIGHBOUR: 'it returns false'. Refute it at one input. -/
def reduceQuotasWrong : ChangeSpec := { name := "reduceQuotas", fn := fun _ => fun
  | [d1, d2, d3] => { results := [.lit (.bool false)], args := [d1, d2, d3] }
  | _ => none }
def ReduceQuotasWrongFalsely : Prop := reduceQuotasRow.holds Try.pinned (OpenSpec.ofChange reduceQuotasWrong)

/-- 'fathomlaw01.LitNorms': WHATEVER THE INPUT: true; the input reads as it did. -/
def litNormsSpec : ChangeSpec := { name := "litNorms", fn := fun _ => fun
  | [d] => { results := [.lit (.bool true)], args := [d] }
  | _ => none }
def litNormsRow : OpenClaim := { program := "ytlpmapeojecenaa", sum := "e50b48b36a7fd763a406d96717f00aef469f278c5521cb8810722c8a128111f7", func := "fathom/fathomlaw01.LitNorms", spec := "litNorms", unfollowed := true, recurses := true, apart := false }
def LitNormsSaid : Prop := litNormsRow.holds Try.pinned (OpenSpec.ofChange litNormsSpec)

/-- ITS FALSE NEIGHBOUR: 'it returns false'. Refute it at one input. -/
def litNormsWrong : ChangeSpec := { name := "litNorms", fn := fun _ => fun
  | [d] => { results := [.lit (.bool false)], args := [d] }
  | _ => none }
def LitNormsWrongFalsely : Prop := litNormsRow.holds Try.pinned (OpenSpec.ofChange litNormsWrong)

/-- 'fathomlaw01.LitValues': WHATEVER THE INPUT: true; the input reads as it did. -/
def litValuesSpec : ChangeSpec := { name := "litValues", fn := fun _ => fun
  | [d1, d2, d3] => { results := [.lit (.bool true)], args := [d1, d2, d3] }
  | _ => none }
def litValuesRow : OpenClaim := { program := "ytlpmapeojecenaa", sum := "e50b48b36a7fd763a406d96717f00aef469f278c5521cb8810722c8a128111f7", func := "fathom/fathomlaw01.LitValues", spec := "litValues", unfollowed := true, recurses := true, apart := false }
def LitValuesSaid : Prop := litValuesRow.holds Try.pinned (OpenSpec.ofChange litValuesSpec)

/-- ITS FALSE NEIGHBOUR: 'it returns false'. Refute it at one input. -/
def litValuesWrong : ChangeSpec := { name := "litValues", fn := fun _ => fun
  | [d1, d2, d3] => { results := [.lit (.bool false)], args := [d1, d2, d3] }
  | _ => none }
def LitValuesWrongFalsely : Prop := litValuesRow.holds Try.pinned (OpenSpec.ofChange litValuesWrong)

/-- 'fathomlaw01.LitResolves': WHATEVER THE INPUT: true; the input reads as it did. -/
def litResolvesSpec : ChangeSpec := { name := "litResolves", fn := fun _ => fun
  | [d1, d2, d3] => { results := [.lit (.bool true)], args := [d1, d2, d3] }
  | _ => none }
def litResolvesRow : OpenClaim := { program := "ytlpmapeojecenaa", sum := "e50b48b36a7fd763a406d96717f00aef469f278c5521cb8810722c8a128111f7", func := "fathom/fathomlaw01.LitResolves", spec := "litResolves", unfollowed := true, recurses := true, apart := false }
def LitResolvesSaid : Prop := litResolvesRow.holds Try.pinned (OpenSpec.ofChange litResolvesSpec)

/-- ITS FALSE NEIGHBOUR: 'it returns false'. Refute it at one input. -/
def litResolvesWrong : ChangeSpec := { name := "litResolves", fn := fun _ => fun
  | [d1, d2, d3] => { results := [.lit (.bool false)], args := [d1, d2, d3] }
  | _ => none }
def LitResolvesWrongFalsely : Prop := litResolvesRow.holds Try.pinned (OpenSpec.ofChange litResolvesWrong)

/-- 'fathomlaw12.LearnChecks': WHATEVER THE INPUT: true; the input reads as it did. -/
def learnChecksSpec : ChangeSpec := { name := "learnChecks", fn := fun _ => fun
  | [d1, d2] => { results := [.lit (.bool true)], args := [d1, d2] }
  | _ => none }
def learnChecksRow : OpenClaim := { program := "ytlpmapeojecenaa", sum := "e50b48b36a7fd763a406d96717f00aef469f278c5521cb8810722c8a128111f7", func := "fathom/fathomlaw12.LearnChecks", spec := "learnChecks", unfollowed := true, recurses := true, apart := false }
def LearnChecksSaid : Prop := learnChecksRow.holds Try.pinned (OpenSpec.ofChange learnChecksSpec)

/-- ITS FALSE NEIGHBOUR: 'it returns false'. Refute it at one input. -/
def learnChecksWrong : ChangeSpec := { name := "learnChecks", fn := fun _ => fun
  | [d1, d2] => { results := [.lit (.bool false)], args := [d1, d2] }
  | _ => none }
def LearnChecksWrongFalsely : Prop := learnChecksRow.holds Try.pinned (OpenSpec.ofChange learnChecksWrong)

/-- 'fathomlaw01.LitHolds': WHATEVER THE INPUT: true; the input reads as it did. -/
def litHoldsSpec : ChangeSpec := { name := "litHolds", fn := fun _ => fun
  | [d1, d2, d3] => { results := [.lit (.bool true)], args := [d1, d2, d3] }
  | _ => none }
def litHoldsRow : OpenClaim := { program := "ytlpmapeojecenaa", sum := "e50b48b36a7fd763a406d96717f00aef469f278c5521cb8810722c8a128111f7", func := "fathom/fathomlaw01.LitHolds", spec := "litHolds", unfollowed := true, recurses := true, apart := false }
def LitHoldsSaid : Prop := litHoldsRow.holds Try.pinned (OpenSpec.ofChange litHoldsSpec)

/-- ITS FALSE NEIGHBOUR: 'it returns false'. Refute it at one input. -/
def litHoldsWrong : ChangeSpec := { name := "litHolds", fn := fun _ => fun
  | [d1, d2, d3] => { results := [.lit (.bool false)], args := [d1, d2, d3] }
  | _ => none }
def LitHoldsWrongFalsely : Prop := litHoldsRow.holds Try.pinned (OpenSpec.ofChange litHoldsWrong)

/-- 'fathomlaw01.LitGiven': WHATEVER THE INPUT: true; the input reads as it did. -/
def litGivenSpec : ChangeSpec := { name := "litGiven", fn := fun _ => fun
  | [d1, d2, d3] => { results := [.lit (.bool true)], args := [d1, d2, d3] }
  | _ => none }
def litGivenRow : OpenClaim := { program := "ytlpmapeojecenaa", sum := "e50b48b36a7fd763a406d96717f00aef469f278c5521cb8810722c8a128111f7", func := "fathom/fathomlaw01.LitGiven", spec := "litGiven", unfollowed := true, recurses := true, apart := false }
def LitGivenSaid : Prop := litGivenRow.holds Try.pinned (OpenSpec.ofChange litGivenSpec)

/-- ITS FALSE NEIGHBOUR: 'it returns false'. Refute it at one input. -/
def litGivenWrong : ChangeSpec := { name := "litGiven", fn := fun _ => fun
  | [d1, d2, d3] => { results := [.lit (.bool false)], args := [d1, d2, d3] }
  | _ => none }
def LitGivenWrongFalsely : Prop := litGivenRow.holds Try.pinned (OpenSpec.ofChange litGivenWrong)

/-- 'fathomlaw12.LearnLearns': WHATEVER THE INPUT: true; the input reads as it did. -/
def learnLearnsSpec : ChangeSpec := { name := "learnLearns", fn := fun _ => fun
  | [d1, d2] => { results := [.lit (.bool true)], args := [d1, d2] }
  | _ => none }
def learnLearnsRow : OpenClaim := { program := "ytlpmapeojecenaa", sum := "e50b48b36a7fd763a406d96717f00aef469f278c5521cb8810722c8a128111f7", func := "fathom/fathomlaw12.LearnLearns", spec := "learnLearns", unfollowed := true, recurses := true, apart := false }
def LearnLearnsSaid : Prop := learnLearnsRow.holds Try.pinned (OpenSpec.ofChange learnLearnsSpec)

/-- ITS FALSE NEIGHBOUR: 'it returns false'. Refute it at one input. -/
def learnLearnsWrong : ChangeSpec := { name := "learnLearns", fn := fun _ => fun
  | [d1, d2] => { results := [.lit (.bool false)], args := [d1, d2] }
  | _ => none }
def LearnLearnsWrongFalsely : Prop := learnLearnsRow.holds Try.pinned (OpenSpec.ofChange learnLearnsWrong)

/-- 'fathomlaw12.LearnTeaches': WHATEVER THE INPUT: true; the input reads as it did. -/
def learnTeachesSpec : ChangeSpec := { name := "learnTeaches", fn := fun _ => fun
  | [d1, d2, d3] => { results := [.lit (.bool true)], args := [d1, d2, d3] }
  | _ => none }
def learnTeachesRow : OpenClaim := { program := "ytlpmapeojecenaa", sum := "e50b48b36a7fd763a406d96717f00aef469f278c5521cb8810722c8a128111f7", func := "fathom/fathomlaw12.LearnTeaches", spec := "learnTeaches", unfollowed := true, recurses := true, apart := false }
def LearnTeachesSaid : Prop := learnTeachesRow.holds Try.pinned (OpenSpec.ofChange learnTeachesSpec)

/-- ITS FALSE NEIGHBOUR: 'it returns false'. Refute it at one input. -/
def learnTeachesWrong : ChangeSpec := { name := "learnTeaches", fn := fun _ => fun
  | [d1, d2, d3] => { results := [.lit (.bool false)], args := [d1, d2, d3] }
  | _ => none }
def LearnTeachesWrongFalsely : Prop := learnTeachesRow.holds Try.pinned (OpenSpec.ofChange learnTeachesWrong)

/-- 'fathomlaw12.LearnAsserts': WHATEVER THE INPUT: true; the input reads as it did. -/
def learnAssertsSpec : ChangeSpec := { name := "learnAsserts", fn := fun _ => fun
  | [d1, d2] => { results := [.lit (.bool true)], args := [d1, d2] }
  | _ => none }
def learnAssertsRow : OpenClaim := { program := "ytlpmapeojecenaa", sum := "e50b48b36a7fd763a406d96717f00aef469f278c5521cb8810722c8a128111f7", func := "fathom/fathomlaw12.LearnAsserts", spec := "learnAsserts", unfollowed := true, recurses := true, apart := false }
def LearnAssertsSaid : Prop := learnAssertsRow.holds Try.pinned (OpenSpec.ofChange learnAssertsSpec)

/-- ITS FALSE NEIGHBOUR: 'it returns false'. Refute it at one input. -/
def learnAssertsWrong : ChangeSpec := { name := "learnAsserts", fn := fun _ => fun
  | [d1, d2] => { results := [.lit (.bool false)], args := [d1, d2] }
  | _ => none }
def LearnAssertsWrongFalsely : Prop := learnAssertsRow.holds Try.pinned (OpenSpec.ofChange learnAssertsWrong)

/- THE SECOND FORM. 'bulk': how many values and letters a reading holds, each counted each time it is reached (what is shared counts as often as it is met; a slice's spare places count too). A statement '..UptoSaid' is the law's where the arguments, and the package variables that the reading takes, are together of bulk at most 1048576: NARROWER than '..Said'. Prove '..Said' where nothing that the law and all that it calls make is longer than what came in: it says more and counts as full. Else prove '..UptoSaid'. A law counts once. -/
mutual
def uptoBulk {H : Type} : DataW H → Nat
  | .lit (.string bytes) => bytes.length + 1
  | .lit _ => 1
  | .nil => 1
  | .ptr d => uptoBulk d + 1
  | .slice elems spare => uptoBulkAll elems + uptoBulkAll spare + 1
  | .agg parts => uptoBulkAll parts + 1
  | .iface _ d => uptoBulk d + 1
  | .map entries => uptoBulkEntries entries + 1
  | .held _ => 1
def uptoBulkAll {H : Type} : List (DataW H) → Nat
  | [] => 0
  | d :: r => uptoBulk d + uptoBulkAll r
def uptoBulkEntries {H : Type} : List (Lit × DataW H) → Nat
  | [] => 0
  | x :: r => uptoBulkEntry x + uptoBulkEntries r
def uptoBulkEntry {H : Type} : Lit × DataW H → Nat
  | (.string bytes, d) => bytes.length + uptoBulk d + 1
  | (_, d) => uptoBulk d + 1
 end
def uptoSmall : (H : Type) → List (DataW H) → Bool := fun _ ds => decide (uptoBulkAll ds ≤ 1048576)
def OpenSpec.upto (s : _root_.Go.ChangeSpec) : _root_.Go.OpenSpec := { _root_.Go.OpenSpec.ofChange s with cond := some uptoSmall }

/-- 'fathomlaw13.ReduceKeeps', WHERE WHAT IT READS IS OF BULK AT MOST 1048576: true; the input reads as it did. -/
def reduceKeepsUptoRow : OpenClaim := { program := "ytlpmapeojecenaa", sum := "e50b48b36a7fd763a406d96717f00aef469f278c5521cb8810722c8a128111f7", func := "fathom/fathomlaw13.ReduceKeeps", spec := "reduceKeeps", unfollowed := true, recurses := true, apart := false, narrowed := true }
def ReduceKeepsUptoSaid : Prop := reduceKeepsUptoRow.holds Try.pinned (OpenSpec.upto reduceKeepsSpec)

/-- 'fathomlaw13.ReduceHalves', WHERE WHAT IT READS IS OF BULK AT MOST 1048576: true; the input reads as it did. -/
def reduceHalvesUptoRow : OpenClaim := { program := "ytlpmapeojecenaa", sum := "e50b48b36a7fd763a406d96717f00aef469f278c5521cb8810722c8a128111f7", func := "fathom/fathomlaw13.ReduceHalves", spec := "reduceHalves", unfollowed := true, recurses := true, apart := false, narrowed := true }
def ReduceHalvesUptoSaid : Prop := reduceHalvesUptoRow.holds Try.pinned (OpenSpec.upto reduceHalvesSpec)

/-- 'fathomlaw13.ReduceQuotas', WHERE WHAT IT READS IS OF BULK AT MOST 1048576: true; the input reads as it did. -/
def reduceQuotasUptoRow : OpenClaim := { program := "ytlpmapeojecenaa", sum := "e50b48b36a7fd763a406d96717f00aef469f278c5521cb8810722c8a128111f7", func := "fathom/fathomlaw13.ReduceQuotas", spec := "reduceQuotas", unfollowed := true, recurses := true, apart := false, narrowed := true }
def ReduceQuotasUptoSaid : Prop := reduceQuotasUptoRow.holds Try.pinned (OpenSpec.upto reduceQuotasSpec)

/-- 'fathomlaw01.LitNorms', WHERE WHAT IT READS IS OF BULK AT MOST 1048576: true; the input reads as it did. -/
def litNormsUptoRow : OpenClaim := { program := "ytlpmapeojecenaa", sum := "e50b48b36a7fd763a406d96717f00aef469f278c5521cb8810722c8a128111f7", func := "fathom/fathomlaw01.LitNorms", spec := "litNorms", unfollowed := true, recurses := true, apart := false, narrowed := true }
def LitNormsUptoSaid : Prop := litNormsUptoRow.holds Try.pinned (OpenSpec.upto litNormsSpec)

/-- 'fathomlaw01.LitValues', WHERE WHAT IT READS IS OF BULK AT MOST 1048576: true; the input reads as it did. -/
def litValuesUptoRow : OpenClaim := { program := "ytlpmapeojecenaa", sum := "e50b48b36a7fd763a406d96717f00aef469f278c5521cb8810722c8a128111f7", func := "fathom/fathomlaw01.LitValues", spec := "litValues", unfollowed := true, recurses := true, apart := false, narrowed := true }
def LitValuesUptoSaid : Prop := litValuesUptoRow.holds Try.pinned (OpenSpec.upto litValuesSpec)

/-- 'fathomlaw01.LitResolves', WHERE WHAT IT READS IS OF BULK AT MOST 1048576: true; the input reads as it did. -/
def litResolvesUptoRow : OpenClaim := { program := "ytlpmapeojecenaa", sum := "e50b48b36a7fd763a406d96717f00aef469f278c5521cb8810722c8a128111f7", func := "fathom/fathomlaw01.LitResolves", spec := "litResolves", unfollowed := true, recurses := true, apart := false, narrowed := true }
def LitResolvesUptoSaid : Prop := litResolvesUptoRow.holds Try.pinned (OpenSpec.upto litResolvesSpec)

/-- 'fathomlaw12.LearnChecks', WHERE WHAT IT READS IS OF BULK AT MOST 1048576: true; the input reads as it did. -/
def learnChecksUptoRow : OpenClaim := { program := "ytlpmapeojecenaa", sum := "e50b48b36a7fd763a406d96717f00aef469f278c5521cb8810722c8a128111f7", func := "fathom/fathomlaw12.LearnChecks", spec := "learnChecks", unfollowed := true, recurses := true, apart := false, narrowed := true }
def LearnChecksUptoSaid : Prop := learnChecksUptoRow.holds Try.pinned (OpenSpec.upto learnChecksSpec)

/-- 'fathomlaw01.LitHolds', WHERE WHAT IT READS IS OF BULK AT MOST 1048576: true; the input reads as it did. -/
def litHoldsUptoRow : OpenClaim := { program := "ytlpmapeojecenaa", sum := "e50b48b36a7fd763a406d96717f00aef469f278c5521cb8810722c8a128111f7", func := "fathom/fathomlaw01.LitHolds", spec := "litHolds", unfollowed := true, recurses := true, apart := false, narrowed := true }
def LitHoldsUptoSaid : Prop := litHoldsUptoRow.holds Try.pinned (OpenSpec.upto litHoldsSpec)

/-- 'fathomlaw01.LitGiven', WHERE WHAT IT READS IS OF BULK AT MOST 1048576: true; the input reads as it did. -/
def litGivenUptoRow : OpenClaim := { program := "ytlpmapeojecenaa", sum := "e50b48b36a7fd763a406d96717f00aef469f278c5521cb8810722c8a128111f7", func := "fathom/fathomlaw01.LitGiven", spec := "litGiven", unfollowed := true, recurses := true, apart := false, narrowed := true }
def LitGivenUptoSaid : Prop := litGivenUptoRow.holds Try.pinned (OpenSpec.upto litGivenSpec)

/-- 'fathomlaw12.LearnLearns', WHERE WHAT IT READS IS OF BULK AT MOST 1048576: true; the input reads as it did. -/
def learnLearnsUptoRow : OpenClaim := { program := "ytlpmapeojecenaa", sum := "e50b48b36a7fd763a406d96717f00aef469f278c5521cb8810722c8a128111f7", func := "fathom/fathomlaw12.LearnLearns", spec := "learnLearns", unfollowed := true, recurses := true, apart := false, narrowed := true }
def LearnLearnsUptoSaid : Prop := learnLearnsUptoRow.holds Try.pinned (OpenSpec.upto learnLearnsSpec)

/-- 'fathomlaw12.LearnTeaches', WHERE WHAT IT READS IS OF BULK AT MOST 1048576: true; the input reads as it did. -/
def learnTeachesUptoRow : OpenClaim := { program := "ytlpmapeojecenaa", sum := "e50b48b36a7fd763a406d96717f00aef469f278c5521cb8810722c8a128111f7", func := "fathom/fathomlaw12.LearnTeaches", spec := "learnTeaches", unfollowed := true, recurses := true, apart := false, narrowed := true }
def LearnTeachesUptoSaid : Prop := learnTeachesUptoRow.holds Try.pinned (OpenSpec.upto learnTeachesSpec)

/-- 'fathomlaw12.LearnAsserts', WHERE WHAT IT READS IS OF BULK AT MOST 1048576: true; the input reads as it did. -/
def learnAssertsUptoRow : OpenClaim := { program := "ytlpmapeojecenaa", sum := "e50b48b36a7fd763a406d96717f00aef469f278c5521cb8810722c8a128111f7", func := "fathom/fathomlaw12.LearnAsserts", spec := "learnAsserts", unfollowed := true, recurses := true, apart := false, narrowed := true }
def LearnAssertsUptoSaid : Prop := learnAssertsUptoRow.holds Try.pinned (OpenSpec.upto learnAssertsSpec)

end Rows
end Go.Proofs.Ytlpmapeojecenaa
