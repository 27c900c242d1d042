/-
  No cell of these rows narrows 'for every input' (looked for: loops, veiled, ifaces, maps, wideKeys, modest, calm, conditions, laid).
  DERIVED. THE GIVEN ROWS OF THIS SEAT. 10 by the template 'for every input the law returns true; each argument reads behind the call as it read before'; 0 by the template 'total and deterministic' (their statements: YtenmibfmhccmiaaGreatTotals.lean).
  GIVEN WITH THE SEED: the statements are not yours to turn. If you find one false, say at which input.
  Laid BY PROGRAM, IN A SANDBOX (cutbox-rows.mjs): the forced cells as the released guide's own fill.sh prints them over the translation 8c720dbeb79abdd3… (all of the seat's roots in one cut). By AI agents, Wed Nov 11 2026. No macro, syntax, notation, axiom, sorry.
-/
import Derived.Test.YtenmibfmhccmiaaGreatChecked
import GoSem.Claim
import GoSem.ClaimJoined
import GoSem.ClaimMapViews
import Derived.JoinedTies
import Derived.KernelRfl
namespace Go.Proofs.YtenmibfmhccmiaaGreat
/- THE CELL 'sum', in the pinned program and in every row, IS THE sha256 OF THE DUMP (.gsa) THAT YtenmibfmhccmiaaGreatProg.lean LOADS. Nothing in Lean hashes anything: it is a label: what it is worth is what the hold of that sum in a sandbox is worth. -/
noncomputable def Tryz.pinned : Pinned := { name := "ytenmibfmhccmiaagreat", sum := "8c720dbeb79abdd35a0892f39154c8e41ef1404280b191a4f6afe342728dc736", checked := Tryz.checked }
namespace Rows
def none {H : Type} : Left H := { results := [], args := [] }

/-- 'fathomlaw08.DratPlain': WHATEVER THE INPUT: true; the input reads as it did. -/
def dratPlainSpec : ChangeSpec := { name := "dratPlain", fn := fun _ => fun
  | [d1, d2] => { results := [.lit (.bool true)], args := [d1, d2] }
  | _ => none }
def dratPlainRow : OpenClaim := { program := "ytenmibfmhccmiaagreat", sum := "8c720dbeb79abdd35a0892f39154c8e41ef1404280b191a4f6afe342728dc736", func := "fathom/fathomlaw08.DratPlain", spec := "dratPlain", unfollowed := true, recurses := true, plainKeys := false, apart := false }
def DratPlainSaid : Prop := dratPlainRow.holds Tryz.pinned (OpenSpec.ofChange dratPlainSpec)

/-- ITS FALSE NEIGHBOUR: 'it returns false'. Refute it at one input. -/
def dratPlainWrong : ChangeSpec := { name := "dratPlain", fn := fun _ => fun
  | [d1, d2] => { results := [.lit (.bool false)], args := [d1, d2] }
  | _ => none }
def DratPlainWrongFalsely : Prop := dratPlainRow.holds Tryz.pinned (OpenSpec.ofChange dratPlainWrong)

/-- 'fathomlaw08.DratFinds': WHATEVER THE INPUT: true; the input reads as it did. -/
def dratFindsSpec : ChangeSpec := { name := "dratFinds", fn := fun _ => fun
  | [d1, d2] => { results := [.lit (.bool true)], args := [d1, d2] }
  | _ => none }
def dratFindsRow : OpenClaim := { program := "ytenmibfmhccmiaagreat", sum := "8c720dbeb79abdd35a0892f39154c8e41ef1404280b191a4f6afe342728dc736", func := "fathom/fathomlaw08.DratFinds", spec := "dratFinds", unfollowed := true, recurses := true, plainKeys := false, apart := false }
def DratFindsSaid : Prop := dratFindsRow.holds Tryz.pinned (OpenSpec.ofChange dratFindsSpec)

/-- ITS FALSE NEIGHBOUR: 'it returns false'. Refute it at one input. -/
def dratFindsWrong : ChangeSpec := { name := "dratFinds", fn := fun _ => fun
  | [d1, d2] => { results := [.lit (.bool false)], args := [d1, d2] }
  | _ => none }
def DratFindsWrongFalsely : Prop := dratFindsRow.holds Tryz.pinned (OpenSpec.ofChange dratFindsWrong)

/-- 'fathomlaw08.DratNeeds': WHATEVER THE INPUT: true; the input reads as it did. -/
def dratNeedsSpec : ChangeSpec := { name := "dratNeeds", fn := fun _ => fun
  | [d1, d2] => { results := [.lit (.bool true)], args := [d1, d2] }
  | _ => none }
def dratNeedsRow : OpenClaim := { program := "ytenmibfmhccmiaagreat", sum := "8c720dbeb79abdd35a0892f39154c8e41ef1404280b191a4f6afe342728dc736", func := "fathom/fathomlaw08.DratNeeds", spec := "dratNeeds", unfollowed := true, recurses := true, plainKeys := false, apart := false }
def DratNeedsSaid : Prop := dratNeedsRow.holds Tryz.pinned (OpenSpec.ofChange dratNeedsSpec)

/-- ITS FALSE NEIGHBOUR: 'it returns false'. Refute it at one input. -/
def dratNeedsWrong : ChangeSpec := { name := "dratNeeds", fn := fun _ => fun
  | [d1, d2] => { results := [.lit (.bool false)], args := [d1, d2] }
  | _ => none }
def DratNeedsWrongFalsely : Prop := dratNeedsRow.holds Tryz.pinned (OpenSpec.ofChange dratNeedsWrong)

/-- 'fathomlaw08.DratChecks': WHATEVER THE INPUT: true; the input reads as it did. -/
def dratChecksSpec : ChangeSpec := { name := "dratChecks", fn := fun _ => fun
  | [d1, d2, d3] => { results := [.lit (.bool true)], args := [d1, d2, d3] }
  | _ => none }
def dratChecksRow : OpenClaim := { program := "ytenmibfmhccmiaagreat", sum := "8c720dbeb79abdd35a0892f39154c8e41ef1404280b191a4f6afe342728dc736", func := "fathom/fathomlaw08.DratChecks", spec := "dratChecks", unfollowed := true, recurses := true, plainKeys := false, apart := false }
def DratChecksSaid : Prop := dratChecksRow.holds Tryz.pinned (OpenSpec.ofChange dratChecksSpec)

/-- ITS FALSE NEIGHBOUR: 'it returns false'. Refute it at one input. -/
def dratChecksWrong : ChangeSpec := { name := "dratChecks", fn := fun _ => fun
  | [d1, d2, d3] => { results := [.lit (.bool false)], args := [d1, d2, d3] }
  | _ => none }
def DratChecksWrongFalsely : Prop := dratChecksRow.holds Tryz.pinned (OpenSpec.ofChange dratChecksWrong)

/-- 'fathomlaw08.DratTrims': WHATEVER THE INPUT: true; the input reads as it did. -/
def dratTrimsSpec : ChangeSpec := { name := "dratTrims", fn := fun _ => fun
  | [d1, d2] => { results := [.lit (.bool true)], args := [d1, d2] }
  | _ => none }
def dratTrimsRow : OpenClaim := { program := "ytenmibfmhccmiaagreat", sum := "8c720dbeb79abdd35a0892f39154c8e41ef1404280b191a4f6afe342728dc736", func := "fathom/fathomlaw08.DratTrims", spec := "dratTrims", unfollowed := true, recurses := true, plainKeys := false, apart := false }
def DratTrimsSaid : Prop := dratTrimsRow.holds Tryz.pinned (OpenSpec.ofChange dratTrimsSpec)

/-- ITS FALSE NEIGHBOUR: 'it returns false'. Refute it at one input. -/
def dratTrimsWrong : ChangeSpec := { name := "dratTrims", fn := fun _ => fun
  | [d1, d2] => { results := [.lit (.bool false)], args := [d1, d2] }
  | _ => none }
def DratTrimsWrongFalsely : Prop := dratTrimsRow.holds Tryz.pinned (OpenSpec.ofChange dratTrimsWrong)

/-- 'fathomlaw14.CdclBudgets': WHATEVER THE INPUT: true; the input reads as it did. -/
def cdclBudgetsSpec : ChangeSpec := { name := "cdclBudgets", fn := fun _ => fun
  | [d1, d2, d3] => { results := [.lit (.bool true)], args := [d1, d2, d3] }
  | _ => none }
def cdclBudgetsRow : OpenClaim := { program := "ytenmibfmhccmiaagreat", sum := "8c720dbeb79abdd35a0892f39154c8e41ef1404280b191a4f6afe342728dc736", func := "fathom/fathomlaw14.CdclBudgets", spec := "cdclBudgets", unfollowed := true, recurses := true, plainKeys := false, apart := false }
def CdclBudgetsSaid : Prop := cdclBudgetsRow.holds Tryz.pinned (OpenSpec.ofChange cdclBudgetsSpec)

/-- ITS FALSE NEIGHBOUR: 'it returns false'. Refute it at one input. -/
def cdclBudgetsWrong : ChangeSpec := { name := "cdclBudgets", fn := fun _ => fun
  | [d1, d2, d3] => { results := [.lit (.bool false)], args := [d1, d2, d3] }
  | _ => none }
def CdclBudgetsWrongFalsely : Prop := cdclBudgetsRow.holds Tryz.pinned (OpenSpec.ofChange cdclBudgetsWrong)

/-- 'fathomlaw14.CdclChecks': WHATEVER THE INPUT: true; the input reads as it did. -/
def cdclChecksSpec : ChangeSpec := { name := "cdclChecks", fn := fun _ => fun
  | [d1, d2] => { results := [.lit (.bool true)], args := [d1, d2] }
  | _ => none }
def cdclChecksRow : OpenClaim := { program := "ytenmibfmhccmiaagreat", sum := "8c720dbeb79abdd35a0892f39154c8e41ef1404280b191a4f6afe342728dc736", func := "fathom/fathomlaw14.CdclChecks", spec := "cdclChecks", unfollowed := true, recurses := true, plainKeys := false, apart := false }
def CdclChecksSaid : Prop := cdclChecksRow.holds Tryz.pinned (OpenSpec.ofChange cdclChecksSpec)

/-- ITS FALSE NEIGHBOUR: 'it returns false'. Refute it at one input. -/
def cdclChecksWrong : ChangeSpec := { name := "cdclChecks", fn := fun _ => fun
  | [d1, d2] => { results := [.lit (.bool false)], args := [d1, d2] }
  | _ => none }
def CdclChecksWrongFalsely : Prop := cdclChecksRow.holds Tryz.pinned (OpenSpec.ofChange cdclChecksWrong)

/-- 'fathomlaw14.CdclCounts': WHATEVER THE INPUT: true; the input reads as it did. -/
def cdclCountsSpec : ChangeSpec := { name := "cdclCounts", fn := fun _ => fun
  | [d1, d2] => { results := [.lit (.bool true)], args := [d1, d2] }
  | _ => none }
def cdclCountsRow : OpenClaim := { program := "ytenmibfmhccmiaagreat", sum := "8c720dbeb79abdd35a0892f39154c8e41ef1404280b191a4f6afe342728dc736", func := "fathom/fathomlaw14.CdclCounts", spec := "cdclCounts", unfollowed := true, recurses := true, plainKeys := false, apart := false }
def CdclCountsSaid : Prop := cdclCountsRow.holds Tryz.pinned (OpenSpec.ofChange cdclCountsSpec)

/-- ITS FALSE NEIGHBOUR: 'it returns false'. Refute it at one input. -/
def cdclCountsWrong : ChangeSpec := { name := "cdclCounts", fn := fun _ => fun
  | [d1, d2] => { results := [.lit (.bool false)], args := [d1, d2] }
  | _ => none }
def CdclCountsWrongFalsely : Prop := cdclCountsRow.holds Tryz.pinned (OpenSpec.ofChange cdclCountsWrong)

/-- 'fathomlaw14.CdclTells': WHATEVER THE INPUT: true; the input reads as it did. -/
def cdclTellsSpec : ChangeSpec := { name := "cdclTells", fn := fun _ => fun
  | [d1, d2] => { results := [.lit (.bool true)], args := [d1, d2] }
  | _ => none }
def cdclTellsRow : OpenClaim := { program := "ytenmibfmhccmiaagreat", sum := "8c720dbeb79abdd35a0892f39154c8e41ef1404280b191a4f6afe342728dc736", func := "fathom/fathomlaw14.CdclTells", spec := "cdclTells", unfollowed := true, recurses := true, plainKeys := false, apart := false }
def CdclTellsSaid : Prop := cdclTellsRow.holds Tryz.pinned (OpenSpec.ofChange cdclTellsSpec)

/-- ITS FALSE NEIGHBOUR: 'it returns false'. Refute it at one input. -/
def cdclTellsWrong : ChangeSpec := { name := "cdclTells", fn := fun _ => fun
  | [d1, d2] => { results := [.lit (.bool false)], args := [d1, d2] }
  | _ => none }
def CdclTellsWrongFalsely : Prop := cdclTellsRow.holds Tryz.pinned (OpenSpec.ofChange cdclTellsWrong)

/-- 'fathomlaw14.CdclProves': WHATEVER THE INPUT: true; the input reads as it did. -/
def cdclProvesSpec : ChangeSpec := { name := "cdclProves", fn := fun _ => fun
  | [d1, d2] => { results := [.lit (.bool true)], args := [d1, d2] }
  | _ => none }
def cdclProvesRow : OpenClaim := { program := "ytenmibfmhccmiaagreat", sum := "8c720dbeb79abdd35a0892f39154c8e41ef1404280b191a4f6afe342728dc736", func := "fathom/fathomlaw14.CdclProves", spec := "cdclProves", unfollowed := true, recurses := true, plainKeys := false, apart := false }
def CdclProvesSaid : Prop := cdclProvesRow.holds Tryz.pinned (OpenSpec.ofChange cdclProvesSpec)

/-- ITS FALSE NEIGHBOUR: 'it returns false'. Refute it at one input. -/
def cdclProvesWrong : ChangeSpec := { name := "cdclProves", fn := fun _ => fun
  | [d1, d2] => { results := [.lit (.bool false)], args := [d1, d2] }
  | _ => none }
def CdclProvesWrongFalsely : Prop := cdclProvesRow.holds Tryz.pinned (OpenSpec.ofChange cdclProvesWrong)

/- THE SECOND FORM. 'bulk': how many values and letters a reading holds, each counted each time it is reached (what is shared counts as often as it is met; a slice's spare places count too). A statement '..UptoSaid' is the law's where the arguments, and the package variables that the reading takes, are together of bulk at most 1048576: NARROWER than '..Said'. Prove '..Said' where nothing that the law and all that it calls make is longer than what came in: it says more and counts as full. Else prove '..UptoSaid'. A law counts once. -/
mutual
def uptoBulk {H : Type} : DataW H → Nat
  | .lit (.string bytes) => bytes.length + 1
  | .lit _ => 1
  | .nil => 1
  | .ptr d => uptoBulk d + 1
  | .slice elems spare => uptoBulkAll elems + uptoBulkAll spare + 1
  | .agg parts => uptoBulkAll parts + 1
  | .iface _ d => uptoBulk d + 1
  | .map entries => uptoBulkEntries entries + 1
  | .held _ => 1
def uptoBulkAll {H : Type} : List (DataW H) → Nat
  | [] => 0
  | d :: r => uptoBulk d + uptoBulkAll r
def uptoBulkEntries {H : Type} : List (Lit × DataW H) → Nat
  | [] => 0
  | x :: r => uptoBulkEntry x + uptoBulkEntries r
def uptoBulkEntry {H : Type} : Lit × DataW H → Nat
  | (.string bytes, d) => bytes.length + uptoBulk d + 1
  | (_, d) => uptoBulk d + 1
 end
def uptoSmall : (H : Type) → List (DataW H) → Bool := fun _ ds => decide (uptoBulkAll ds ≤ 1048576)
def OpenSpec.upto (s : _root_.Go.ChangeSpec) : _root_.Go.OpenSpec := { _root_.Go.OpenSpec.ofChange s with cond := some uptoSmall }

/-- 'fathomlaw08.DratPlain', WHERE WHAT IT READS IS OF BULK AT MOST 1048576: true; the input reads as it did. -/
def dratPlainUptoRow : OpenClaim := { program := "ytenmibfmhccmiaagreat", sum := "8c720dbeb79abdd35a0892f39154c8e41ef1404280b191a4f6afe342728dc736", func := "fathom/fathomlaw08.DratPlain", spec := "dratPlain", unfollowed := true, recurses := true, plainKeys := false, apart := false, narrowed := true }
def DratPlainUptoSaid : Prop := dratPlainUptoRow.holds Tryz.pinned (OpenSpec.upto dratPlainSpec)

/-- 'fathomlaw08.DratFinds', WHERE WHAT IT READS IS OF BULK AT MOST 1048576: true; the input reads as it did. -/
def dratFindsUptoRow : OpenClaim := { program := "ytenmibfmhccmiaagreat", sum := "8c720dbeb79abdd35a0892f39154c8e41ef1404280b191a4f6afe342728dc736", func := "fathom/fathomlaw08.DratFinds", spec := "dratFinds", unfollowed := true, recurses := true, plainKeys := false, apart := false, narrowed := true }
def DratFindsUptoSaid : Prop := dratFindsUptoRow.holds Tryz.pinned (OpenSpec.upto dratFindsSpec)

/-- 'fathomlaw08.DratNeeds', WHERE WHAT IT READS IS OF BULK AT MOST 1048576: true; the input reads as it did. -/
def dratNeedsUptoRow : OpenClaim := { program := "ytenmibfmhccmiaagreat", sum := "8c720dbeb79abdd35a0892f39154c8e41ef1404280b191a4f6afe342728dc736", func := "fathom/fathomlaw08.DratNeeds", spec := "dratNeeds", unfollowed := true, recurses := true, plainKeys := false, apart := false, narrowed := true }
def DratNeedsUptoSaid : Prop := dratNeedsUptoRow.holds Tryz.pinned (OpenSpec.upto dratNeedsSpec)

/-- 'fathomlaw08.DratChecks', WHERE WHAT IT READS IS OF BULK AT MOST 1048576: true; the input reads as it did. -/
def dratChecksUptoRow : OpenClaim := { program := "ytenmibfmhccmiaagreat", sum := "8c720dbeb79abdd35a0892f39154c8e41ef1404280b191a4f6afe342728dc736", func := "fathom/fathomlaw08.DratChecks", spec := "dratChecks", unfollowed := true, recurses := true, plainKeys := false, apart := false, narrowed := true }
def DratChecksUptoSaid : Prop := dratChecksUptoRow.holds Tryz.pinned (OpenSpec.upto dratChecksSpec)

/-- 'fathomlaw08.DratTrims', WHERE WHAT IT READS IS OF BULK AT MOST 1048576: true; the input reads as it did. -/
def dratTrimsUptoRow : OpenClaim := { program := "ytenmibfmhccmiaagreat", sum := "8c720dbeb79abdd35a0892f39154c8e41ef1404280b191a4f6afe342728dc736", func := "fathom/fathomlaw08.DratTrims", spec := "dratTrims", unfollowed := true, recurses := true, plainKeys := false, apart := false, narrowed := true }
def DratTrimsUptoSaid : Prop := dratTrimsUptoRow.holds Tryz.pinned (OpenSpec.upto dratTrimsSpec)

/-- 'fathomlaw14.CdclBudgets', WHERE WHAT IT READS IS OF BULK AT MOST 1048576: true; the input reads as it did. -/
def cdclBudgetsUptoRow : OpenClaim := { program := "ytenmibfmhccmiaagreat", sum := "8c720dbeb79abdd35a0892f39154c8e41ef1404280b191a4f6afe342728dc736", func := "fathom/fathomlaw14.CdclBudgets", spec := "cdclBudgets", unfollowed := true, recurses := true, plainKeys := false, apart := false, narrowed := true }
def CdclBudgetsUptoSaid : Prop := cdclBudgetsUptoRow.holds Tryz.pinned (OpenSpec.upto cdclBudgetsSpec)

/-- 'fathomlaw14.CdclChecks', WHERE WHAT IT READS IS OF BULK AT MOST 1048576: true; the input reads as it did. -/
def cdclChecksUptoRow : OpenClaim := { program := "ytenmibfmhccmiaagreat", sum := "8c720dbeb79abdd35a0892f39154c8e41ef1404280b191a4f6afe342728dc736", func := "fathom/fathomlaw14.CdclChecks", spec := "cdclChecks", unfollowed := true, recurses := true, plainKeys := false, apart := false, narrowed := true }
def CdclChecksUptoSaid : Prop := cdclChecksUptoRow.holds Tryz.pinned (OpenSpec.upto cdclChecksSpec)

/-- 'fathomlaw14.CdclCounts', WHERE WHAT IT READS IS OF BULK AT MOST 1048576: true; the input reads as it did. -/
def cdclCountsUptoRow : OpenClaim := { program := "ytenmibfmhccmiaagreat", sum := "8c720dbeb79abdd35a0892f39154c8e41ef1404280b191a4f6afe342728dc736", func := "fathom/fathomlaw14.CdclCounts", spec := "cdclCounts", unfollowed := true, recurses := true, plainKeys := false, apart := false, narrowed := true }
def CdclCountsUptoSaid : Prop := cdclCountsUptoRow.holds Tryz.pinned (OpenSpec.upto cdclCountsSpec)

/-- 'fathomlaw14.CdclTells', WHERE WHAT IT READS IS OF BULK AT MOST 1048576: true; the input reads as it did. -/
def cdclTellsUptoRow : OpenClaim := { program := "ytenmibfmhccmiaagreat", sum := "8c720dbeb79abdd35a0892f39154c8e41ef1404280b191a4f6afe342728dc736", func := "fathom/fathomlaw14.CdclTells", spec := "cdclTells", unfollowed := true, recurses := true, plainKeys := false, apart := false, narrowed := true }
def CdclTellsUptoSaid : Prop := cdclTellsUptoRow.holds Tryz.pinned (OpenSpec.upto cdclTellsSpec)

/-- 'fathomlaw14.CdclProves', WHERE WHAT IT READS IS OF BULK AT MOST 1048576: true; the input reads as it did. -/
def cdclProvesUptoRow : OpenClaim := { program := "ytenmibfmhccmiaagreat", sum := "8c720dbeb79abdd35a0892f39154c8e41ef1404280b191a4f6afe342728dc736", func := "fathom/fathomlaw14.CdclProves", spec := "cdclProves", unfollowed := true, recurses := true, plainKeys := false, apart := false, narrowed := true }
def CdclProvesUptoSaid : Prop := cdclProvesUptoRow.holds Tryz.pinned (OpenSpec.upto cdclProvesSpec)

end Rows
end Go.Proofs.YtenmibfmhccmiaaGreat
