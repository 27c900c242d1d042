/-
  No cell of these rows narrows 'for every input' (looked for: loops, veiled, ifaces, maps, wideKeys, modest, calm, conditions, laid).
  DERIVED. THE GIVEN ROWS OF THIS SEAT. 8 by the template 'for every input the law returns true; each argument reads behind the call as it read before'; 0 by the template 'total and deterministic' (their statements: YtambabpklfeaoaaTotals.lean).
  GIVEN WITH THE SEED: the statements are not yours to turn. If you find one false, say at which input.
  Laid BY PROGRAM, IN A SANDBOX (cutbox-rows.mjs): the forced cells as the released guide's own fill.sh prints them over the translation 5454a0fdd60ff851… (all of the seat's roots in one cut). By AI agents, Wed Nov 11 2026. No macro, syntax, notation, axiom, sorry.
-/
import Derived.Test.YtambabpklfeaoaaChecked
import GoSem.Claim
import GoSem.ClaimJoined
import GoSem.ClaimMapViews
import Derived.JoinedTies
import Derived.KernelRfl
namespace Go.Proofs.Ytambabpklfeaoaa
/- THE CELL 'sum', in the pinned program and in every row, IS THE sha256 OF THE DUMP (.gsa) THAT YtambabpklfeaoaaProg.lean LOADS. Nothing in Lean hashes anything: it is a label: what it is worth is what the hold of that sum in a sandbox is worth. -/
noncomputable def Try.pinned : Pinned := { name := "ytambabpklfeaoaa", sum := "5454a0fdd60ff85133791f1bc53e8b035995c0813a5fcf87cce2fc204d2041bb", checked := Try.checked }
namespace Rows
def none {H : Type} : Left H := { results := [], args := [] }

/-- 'fathomlaw19.RankSorts': WHATEVER THE INPUT: true; the input reads as it did. -/
def rankSortsSpec : ChangeSpec := { name := "rankSorts", fn := fun _ => fun
  | [d] => { results := [.lit (.bool true)], args := [d] }
  | _ => none }
def rankSortsRow : OpenClaim := { program := "ytambabpklfeaoaa", sum := "5454a0fdd60ff85133791f1bc53e8b035995c0813a5fcf87cce2fc204d2041bb", func := "fathom/fathomlaw19.RankSorts", spec := "rankSorts", unfollowed := true, recurses := true, plainKeys := false, apart := false }
def RankSortsSaid : Prop := rankSortsRow.holds Try.pinned (OpenSpec.ofChange rankSortsSpec)

/-- ITS FALSE NEIGHBOUR: 'it returns false'. Refute it at one input. -/
def rankSortsWrong : ChangeSpec := { name := "rankSorts", fn := fun _ => fun
  | [d] => { results := [.lit (.bool false)], args := [d] }
  | _ => none }
def RankSortsWrongFalsely : Prop := rankSortsRow.holds Try.pinned (OpenSpec.ofChange rankSortsWrong)

/-- 'fathomlaw19.RankCloses': WHATEVER THE INPUT: true; the input reads as it did. -/
def rankClosesSpec : ChangeSpec := { name := "rankCloses", fn := fun _ => fun
  | [d1, d2] => { results := [.lit (.bool true)], args := [d1, d2] }
  | _ => none }
def rankClosesRow : OpenClaim := { program := "ytambabpklfeaoaa", sum := "5454a0fdd60ff85133791f1bc53e8b035995c0813a5fcf87cce2fc204d2041bb", func := "fathom/fathomlaw19.RankCloses", spec := "rankCloses", unfollowed := true, recurses := true, plainKeys := false, apart := false }
def RankClosesSaid : Prop := rankClosesRow.holds Try.pinned (OpenSpec.ofChange rankClosesSpec)

/-- ITS FALSE NEIGHBOUR: 'it returns false'. Refute it at one input. -/
def rankClosesWrong : ChangeSpec := { name := "rankCloses", fn := fun _ => fun
  | [d1, d2] => { results := [.lit (.bool false)], args := [d1, d2] }
  | _ => none }
def RankClosesWrongFalsely : Prop := rankClosesRow.holds Try.pinned (OpenSpec.ofChange rankClosesWrong)

/-- 'fathomlaw18.TseitinBuilds': WHATEVER THE INPUT: true; the input reads as it did. -/
def tseitinBuildsSpec : ChangeSpec := { name := "tseitinBuilds", fn := fun _ => fun
  | [d1, d2] => { results := [.lit (.bool true)], args := [d1, d2] }
  | _ => none }
def tseitinBuildsRow : OpenClaim := { program := "ytambabpklfeaoaa", sum := "5454a0fdd60ff85133791f1bc53e8b035995c0813a5fcf87cce2fc204d2041bb", func := "fathom/fathomlaw18.TseitinBuilds", spec := "tseitinBuilds", unfollowed := true, recurses := true, plainKeys := false, apart := false }
def TseitinBuildsSaid : Prop := tseitinBuildsRow.holds Try.pinned (OpenSpec.ofChange tseitinBuildsSpec)

/-- ITS FALSE NEIGHBOUR: 'it returns false'. Refute it at one input. -/
def tseitinBuildsWrong : ChangeSpec := { name := "tseitinBuilds", fn := fun _ => fun
  | [d1, d2] => { results := [.lit (.bool false)], args := [d1, d2] }
  | _ => none }
def TseitinBuildsWrongFalsely : Prop := tseitinBuildsRow.holds Try.pinned (OpenSpec.ofChange tseitinBuildsWrong)

/-- 'fathomlaw19.RankReaches': WHATEVER THE INPUT: true; the input reads as it did. -/
def rankReachesSpec : ChangeSpec := { name := "rankReaches", fn := fun _ => fun
  | [d1, d2, d3] => { results := [.lit (.bool true)], args := [d1, d2, d3] }
  | _ => none }
def rankReachesRow : OpenClaim := { program := "ytambabpklfeaoaa", sum := "5454a0fdd60ff85133791f1bc53e8b035995c0813a5fcf87cce2fc204d2041bb", func := "fathom/fathomlaw19.RankReaches", spec := "rankReaches", unfollowed := true, recurses := true, plainKeys := false, apart := false }
def RankReachesSaid : Prop := rankReachesRow.holds Try.pinned (OpenSpec.ofChange rankReachesSpec)

/-- ITS FALSE NEIGHBOUR: 'it returns false'. Refute it at one input. -/
def rankReachesWrong : ChangeSpec := { name := "rankReaches", fn := fun _ => fun
  | [d1, d2, d3] => { results := [.lit (.bool false)], args := [d1, d2, d3] }
  | _ => none }
def RankReachesWrongFalsely : Prop := rankReachesRow.holds Try.pinned (OpenSpec.ofChange rankReachesWrong)

/-- 'fathomlaw18.TseitinMeans': WHATEVER THE INPUT: true; the input reads as it did. -/
def tseitinMeansSpec : ChangeSpec := { name := "tseitinMeans", fn := fun _ => fun
  | [d1, d2, d3] => { results := [.lit (.bool true)], args := [d1, d2, d3] }
  | _ => none }
def tseitinMeansRow : OpenClaim := { program := "ytambabpklfeaoaa", sum := "5454a0fdd60ff85133791f1bc53e8b035995c0813a5fcf87cce2fc204d2041bb", func := "fathom/fathomlaw18.TseitinMeans", spec := "tseitinMeans", unfollowed := true, recurses := true, plainKeys := false, apart := false }
def TseitinMeansSaid : Prop := tseitinMeansRow.holds Try.pinned (OpenSpec.ofChange tseitinMeansSpec)

/-- ITS FALSE NEIGHBOUR: 'it returns false'. Refute it at one input. -/
def tseitinMeansWrong : ChangeSpec := { name := "tseitinMeans", fn := fun _ => fun
  | [d1, d2, d3] => { results := [.lit (.bool false)], args := [d1, d2, d3] }
  | _ => none }
def TseitinMeansWrongFalsely : Prop := tseitinMeansRow.holds Try.pinned (OpenSpec.ofChange tseitinMeansWrong)

/-- 'fathomlaw18.TseitinReads': WHATEVER THE INPUT: true; the input reads as it did. -/
def tseitinReadsSpec : ChangeSpec := { name := "tseitinReads", fn := fun _ => fun
  | [d1, d2, d3] => { results := [.lit (.bool true)], args := [d1, d2, d3] }
  | _ => none }
def tseitinReadsRow : OpenClaim := { program := "ytambabpklfeaoaa", sum := "5454a0fdd60ff85133791f1bc53e8b035995c0813a5fcf87cce2fc204d2041bb", func := "fathom/fathomlaw18.TseitinReads", spec := "tseitinReads", unfollowed := true, recurses := true, plainKeys := false, apart := false }
def TseitinReadsSaid : Prop := tseitinReadsRow.holds Try.pinned (OpenSpec.ofChange tseitinReadsSpec)

/-- ITS FALSE NEIGHBOUR: 'it returns false'. Refute it at one input. -/
def tseitinReadsWrong : ChangeSpec := { name := "tseitinReads", fn := fun _ => fun
  | [d1, d2, d3] => { results := [.lit (.bool false)], args := [d1, d2, d3] }
  | _ => none }
def TseitinReadsWrongFalsely : Prop := tseitinReadsRow.holds Try.pinned (OpenSpec.ofChange tseitinReadsWrong)

/-- 'fathomlaw19.RankRefuses': WHATEVER THE INPUT: true; the input reads as it did. -/
def rankRefusesSpec : ChangeSpec := { name := "rankRefuses", fn := fun _ => fun
  | [d1, d2] => { results := [.lit (.bool true)], args := [d1, d2] }
  | _ => none }
def rankRefusesRow : OpenClaim := { program := "ytambabpklfeaoaa", sum := "5454a0fdd60ff85133791f1bc53e8b035995c0813a5fcf87cce2fc204d2041bb", func := "fathom/fathomlaw19.RankRefuses", spec := "rankRefuses", unfollowed := true, recurses := true, plainKeys := false, apart := false }
def RankRefusesSaid : Prop := rankRefusesRow.holds Try.pinned (OpenSpec.ofChange rankRefusesSpec)

/-- ITS FALSE NEIGHBOUR: 'it returns false'. Refute it at one input. -/
def rankRefusesWrong : ChangeSpec := { name := "rankRefuses", fn := fun _ => fun
  | [d1, d2] => { results := [.lit (.bool false)], args := [d1, d2] }
  | _ => none }
def RankRefusesWrongFalsely : Prop := rankRefusesRow.holds Try.pinned (OpenSpec.ofChange rankRefusesWrong)

/-- 'fathomlaw19.RankOrders': WHATEVER THE INPUT: true; the input reads as it did. -/
def rankOrdersSpec : ChangeSpec := { name := "rankOrders", fn := fun _ => fun
  | [d1, d2] => { results := [.lit (.bool true)], args := [d1, d2] }
  | _ => none }
def rankOrdersRow : OpenClaim := { program := "ytambabpklfeaoaa", sum := "5454a0fdd60ff85133791f1bc53e8b035995c0813a5fcf87cce2fc204d2041bb", func := "fathom/fathomlaw19.RankOrders", spec := "rankOrders", unfollowed := true, recurses := true, plainKeys := false, apart := false }
def RankOrdersSaid : Prop := rankOrdersRow.holds Try.pinned (OpenSpec.ofChange rankOrdersSpec)

/-- ITS FALSE NEIGHBOUR: 'it returns false'. Refute it at one input. -/
def rankOrdersWrong : ChangeSpec := { name := "rankOrders", fn := fun _ => fun
  | [d1, d2] => { results := [.lit (.bool false)], args := [d1, d2] }
  | _ => none }
def RankOrdersWrongFalsely : Prop := rankOrdersRow.holds Try.pinned (OpenSpec.ofChange rankOrdersWrong)

/- THE SECOND FORM. 'bulk': how many values and letters a reading holds, each counted each time it is reached (what is shared counts as often as it is met; a slice's spare places count too). A statement '..UptoSaid' is the law's where the arguments, and the package variables that the reading takes, are together of bulk at most 1048576: NARROWER than '..Said'. Prove '..Said' where nothing that the law and all that it calls make is longer than what came in: it says more and counts as full. Else prove '..UptoSaid'. A law counts once. -/
mutual
def uptoBulk {H : Type} : DataW H → Nat
  | .lit (.string bytes) => bytes.length + 1
  | .lit _ => 1
  | .nil => 1
  | .ptr d => uptoBulk d + 1
  | .slice elems spare => uptoBulkAll elems + uptoBulkAll spare + 1
  | .agg parts => uptoBulkAll parts + 1
  | .iface _ d => uptoBulk d + 1
  | .map entries => uptoBulkEntries entries + 1
  | .held _ => 1
def uptoBulkAll {H : Type} : List (DataW H) → Nat
  | [] => 0
  | d :: r => uptoBulk d + uptoBulkAll r
def uptoBulkEntries {H : Type} : List (Lit × DataW H) → Nat
  | [] => 0
  | x :: r => uptoBulkEntry x + uptoBulkEntries r
def uptoBulkEntry {H : Type} : Lit × DataW H → Nat
  | (.string bytes, d) => bytes.length + uptoBulk d + 1
  | (_, d) => uptoBulk d + 1
 end
def uptoSmall : (H : Type) → List (DataW H) → Bool := fun _ ds => decide (uptoBulkAll ds ≤ 1048576)
def OpenSpec.upto (s : _root_.Go.ChangeSpec) : _root_.Go.OpenSpec := { _root_.Go.OpenSpec.ofChange s with cond := some uptoSmall }

/-- 'fathomlaw19.RankSorts', WHERE WHAT IT READS IS OF BULK AT MOST 1048576: true; the input reads as it did. -/
def rankSortsUptoRow : OpenClaim := { program := "ytambabpklfeaoaa", sum := "5454a0fdd60ff85133791f1bc53e8b035995c0813a5fcf87cce2fc204d2041bb", func := "fathom/fathomlaw19.RankSorts", spec := "rankSorts", unfollowed := true, recurses := true, plainKeys := false, apart := false, narrowed := true }
def RankSortsUptoSaid : Prop := rankSortsUptoRow.holds Try.pinned (OpenSpec.upto rankSortsSpec)

/-- 'fathomlaw19.RankCloses', WHERE WHAT IT READS IS OF BULK AT MOST 1048576: true; the input reads as it did. -/
def rankClosesUptoRow : OpenClaim := { program := "ytambabpklfeaoaa", sum := "5454a0fdd60ff85133791f1bc53e8b035995c0813a5fcf87cce2fc204d2041bb", func := "fathom/fathomlaw19.RankCloses", spec := "rankCloses", unfollowed := true, recurses := true, plainKeys := false, apart := false, narrowed := true }
def RankClosesUptoSaid : Prop := rankClosesUptoRow.holds Try.pinned (OpenSpec.upto rankClosesSpec)

/-- 'fathomlaw18.TseitinBuilds', WHERE WHAT IT READS IS OF BULK AT MOST 1048576: true; the input reads as it did. -/
def tseitinBuildsUptoRow : OpenClaim := { program := "ytambabpklfeaoaa", sum := "5454a0fdd60ff85133791f1bc53e8b035995c0813a5fcf87cce2fc204d2041bb", func := "fathom/fathomlaw18.TseitinBuilds", spec := "tseitinBuilds", unfollowed := true, recurses := true, plainKeys := false, apart := false, narrowed := true }
def TseitinBuildsUptoSaid : Prop := tseitinBuildsUptoRow.holds Try.pinned (OpenSpec.upto tseitinBuildsSpec)

/-- 'fathomlaw19.RankReaches', WHERE WHAT IT READS IS OF BULK AT MOST 1048576: true; the input reads as it did. -/
def rankReachesUptoRow : OpenClaim := { program := "ytambabpklfeaoaa", sum := "5454a0fdd60ff85133791f1bc53e8b035995c0813a5fcf87cce2fc204d2041bb", func := "fathom/fathomlaw19.RankReaches", spec := "rankReaches", unfollowed := true, recurses := true, plainKeys := false, apart := false, narrowed := true }
def RankReachesUptoSaid : Prop := rankReachesUptoRow.holds Try.pinned (OpenSpec.upto rankReachesSpec)

/-- 'fathomlaw18.TseitinMeans', WHERE WHAT IT READS IS OF BULK AT MOST 1048576: true; the input reads as it did. -/
def tseitinMeansUptoRow : OpenClaim := { program := "ytambabpklfeaoaa", sum := "5454a0fdd60ff85133791f1bc53e8b035995c0813a5fcf87cce2fc204d2041bb", func := "fathom/fathomlaw18.TseitinMeans", spec := "tseitinMeans", unfollowed := true, recurses := true, plainKeys := false, apart := false, narrowed := true }
def TseitinMeansUptoSaid : Prop := tseitinMeansUptoRow.holds Try.pinned (OpenSpec.upto tseitinMeansSpec)

/-- 'fathomlaw18.TseitinReads', WHERE WHAT IT READS IS OF BULK AT MOST 1048576: true; the input reads as it did. -/
def tseitinReadsUptoRow : OpenClaim := { program := "ytambabpklfeaoaa", sum := "5454a0fdd60ff85133791f1bc53e8b035995c0813a5fcf87cce2fc204d2041bb", func := "fathom/fathomlaw18.TseitinReads", spec := "tseitinReads", unfollowed := true, recurses := true, plainKeys := false, apart := false, narrowed := true }
def TseitinReadsUptoSaid : Prop := tseitinReadsUptoRow.holds Try.pinned (OpenSpec.upto tseitinReadsSpec)

/-- 'fathomlaw19.RankRefuses', WHERE WHAT IT READS IS OF BULK AT MOST 1048576: true; the input reads as it did. -/
def rankRefusesUptoRow : OpenClaim := { program := "ytambabpklfeaoaa", sum := "5454a0fdd60ff85133791f1bc53e8b035995c0813a5fcf87cce2fc204d2041bb", func := "fathom/fathomlaw19.RankRefuses", spec := "rankRefuses", unfollowed := true, recurses := true, plainKeys := false, apart := false, narrowed := true }
def RankRefusesUptoSaid : Prop := rankRefusesUptoRow.holds Try.pinned (OpenSpec.upto rankRefusesSpec)

/-- 'fathomlaw19.RankOrders', WHERE WHAT IT READS IS OF BULK AT MOST 1048576: true; the input reads as it did. -/
def rankOrdersUptoRow : OpenClaim := { program := "ytambabpklfeaoaa", sum := "5454a0fdd60ff85133791f1bc53e8b035995c0813a5fcf87cce2fc204d2041bb", func := "fathom/fathomlaw19.RankOrders", spec := "rankOrders", unfollowed := true, recurses := true, plainKeys := false, apart := false, narrowed := true }
def RankOrdersUptoSaid : Prop := rankOrdersUptoRow.holds Try.pinned (OpenSpec.upto rankOrdersSpec)

end Rows
end Go.Proofs.Ytambabpklfeaoaa
