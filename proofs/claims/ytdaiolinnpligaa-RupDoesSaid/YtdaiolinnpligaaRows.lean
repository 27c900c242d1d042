/-
  No cell of these rows narrows 'for every input' (looked for: loops, veiled, ifaces, maps, wideKeys, modest, calm, conditions, laid).
  DERIVED. THE GIVEN ROWS OF THIS SEAT. 10 by the template 'for every input the law returns true; each argument reads behind the call as it read before'; 0 by the template 'total and deterministic' (their statements: YtdaiolinnpligaaTotals.lean).
  GIVEN WITH THE SEED: the statements are not yours to turn. If you find one false, say at which input.
  Laid BY PROGRAM, IN A SANDBOX (cutbox-rows.mjs): the forced cells as the released guide's own fill.sh prints them over the translation 20bb0bf00754b7f9… (all of the seat's roots in one cut). By AI agents, Wed Nov 11 2026. No macro, syntax, notation, axiom, sorry.
-/
import Derived.Test.YtdaiolinnpligaaChecked
import GoSem.Claim
import GoSem.ClaimJoined
import GoSem.ClaimMapViews
import Derived.JoinedTies
import Derived.KernelRfl
namespace Go.Proofs.Ytdaiolinnpligaa
/- THE CELL 'sum', in the pinned program and in every row, IS THE sha256 OF THE DUMP (.gsa) THAT YtdaiolinnpligaaProg.lean LOADS. Nothing in Lean hashes anything: it is a label: what it is worth is what the hold of that sum in a sandbox is worth. -/
noncomputable def Try.pinned : Pinned := { name := "ytdaiolinnpligaa", sum := "20bb0bf00754b7f954c015d0f9aaa4cae50f6d4eba2a7d0f3b50a651bda2423d", checked := Try.checked }
namespace Rows
def none {H : Type} : Left H := { results := [], args := [] }

/-- 'fathomlaw06.PropOnce': WHATEVER THE INPUT: true; the input reads as it did. -/
def propOnceSpec : ChangeSpec := { name := "propOnce", fn := fun _ => fun
  | [d1, d2] => { results := [.lit (.bool true)], args := [d1, d2] }
  | _ => none }
def propOnceRow : OpenClaim := { program := "ytdaiolinnpligaa", sum := "20bb0bf00754b7f954c015d0f9aaa4cae50f6d4eba2a7d0f3b50a651bda2423d", func := "fathom/fathomlaw06.PropOnce", spec := "propOnce", unfollowed := true, recurses := true, apart := false }
def PropOnceSaid : Prop := propOnceRow.holds Try.pinned (OpenSpec.ofChange propOnceSpec)

/-- ITS FALSE NEIGHBOUR: 'it returns false'. Refute it at one input. -/
def propOnceWrong : ChangeSpec := { name := "propOnce", fn := fun _ => fun
  | [d1, d2] => { results := [.lit (.bool false)], args := [d1, d2] }
  | _ => none }
def PropOnceWrongFalsely : Prop := propOnceRow.holds Try.pinned (OpenSpec.ofChange propOnceWrong)

/-- 'fathomlaw06.PropSound': WHATEVER THE INPUT: true; the input reads as it did. -/
def propSoundSpec : ChangeSpec := { name := "propSound", fn := fun _ => fun
  | [d1, d2, d3] => { results := [.lit (.bool true)], args := [d1, d2, d3] }
  | _ => none }
def propSoundRow : OpenClaim := { program := "ytdaiolinnpligaa", sum := "20bb0bf00754b7f954c015d0f9aaa4cae50f6d4eba2a7d0f3b50a651bda2423d", func := "fathom/fathomlaw06.PropSound", spec := "propSound", unfollowed := true, recurses := true, apart := false }
def PropSoundSaid : Prop := propSoundRow.holds Try.pinned (OpenSpec.ofChange propSoundSpec)

/-- ITS FALSE NEIGHBOUR: 'it returns false'. Refute it at one input. -/
def propSoundWrong : ChangeSpec := { name := "propSound", fn := fun _ => fun
  | [d1, d2, d3] => { results := [.lit (.bool false)], args := [d1, d2, d3] }
  | _ => none }
def PropSoundWrongFalsely : Prop := propSoundRow.holds Try.pinned (OpenSpec.ofChange propSoundWrong)

/-- 'fathomlaw06.PropRuns': WHATEVER THE INPUT: true; the input reads as it did. -/
def propRunsSpec : ChangeSpec := { name := "propRuns", fn := fun _ => fun
  | [d1, d2] => { results := [.lit (.bool true)], args := [d1, d2] }
  | _ => none }
def propRunsRow : OpenClaim := { program := "ytdaiolinnpligaa", sum := "20bb0bf00754b7f954c015d0f9aaa4cae50f6d4eba2a7d0f3b50a651bda2423d", func := "fathom/fathomlaw06.PropRuns", spec := "propRuns", unfollowed := true, recurses := true, apart := false }
def PropRunsSaid : Prop := propRunsRow.holds Try.pinned (OpenSpec.ofChange propRunsSpec)

/-- ITS FALSE NEIGHBOUR: 'it returns false'. Refute it at one input. -/
def propRunsWrong : ChangeSpec := { name := "propRuns", fn := fun _ => fun
  | [d1, d2] => { results := [.lit (.bool false)], args := [d1, d2] }
  | _ => none }
def PropRunsWrongFalsely : Prop := propRunsRow.holds Try.pinned (OpenSpec.ofChange propRunsWrong)

/-- 'fathomlaw06.PropNobody': WHATEVER THE INPUT: true; the input reads as it did. -/
def propNobodySpec : ChangeSpec := { name := "propNobody", fn := fun _ => fun
  | [d] => { results := [.lit (.bool true)], args := [d] }
  | _ => none }
def propNobodyRow : OpenClaim := { program := "ytdaiolinnpligaa", sum := "20bb0bf00754b7f954c015d0f9aaa4cae50f6d4eba2a7d0f3b50a651bda2423d", func := "fathom/fathomlaw06.PropNobody", spec := "propNobody", unfollowed := true, recurses := true, apart := false }
def PropNobodySaid : Prop := propNobodyRow.holds Try.pinned (OpenSpec.ofChange propNobodySpec)

/-- ITS FALSE NEIGHBOUR: 'it returns false'. Refute it at one input. -/
def propNobodyWrong : ChangeSpec := { name := "propNobody", fn := fun _ => fun
  | [d] => { results := [.lit (.bool false)], args := [d] }
  | _ => none }
def PropNobodyWrongFalsely : Prop := propNobodyRow.holds Try.pinned (OpenSpec.ofChange propNobodyWrong)

/-- 'fathomlaw07.RupProves': WHATEVER THE INPUT: true; the input reads as it did. -/
def rupProvesSpec : ChangeSpec := { name := "rupProves", fn := fun _ => fun
  | [d1, d2] => { results := [.lit (.bool true)], args := [d1, d2] }
  | _ => none }
def rupProvesRow : OpenClaim := { program := "ytdaiolinnpligaa", sum := "20bb0bf00754b7f954c015d0f9aaa4cae50f6d4eba2a7d0f3b50a651bda2423d", func := "fathom/fathomlaw07.RupProves", spec := "rupProves", unfollowed := true, recurses := true, apart := false }
def RupProvesSaid : Prop := rupProvesRow.holds Try.pinned (OpenSpec.ofChange rupProvesSpec)

/-- ITS FALSE NEIGHBOUR: 'it returns false'. Refute it at one input. -/
def rupProvesWrong : ChangeSpec := { name := "rupProves", fn := fun _ => fun
  | [d1, d2] => { results := [.lit (.bool false)], args := [d1, d2] }
  | _ => none }
def RupProvesWrongFalsely : Prop := rupProvesRow.holds Try.pinned (OpenSpec.ofChange rupProvesWrong)

/-- 'fathomlaw07.RupImplied': WHATEVER THE INPUT: true; the input reads as it did. -/
def rupImpliedSpec : ChangeSpec := { name := "rupImplied", fn := fun _ => fun
  | [d1, d2, d3] => { results := [.lit (.bool true)], args := [d1, d2, d3] }
  | _ => none }
def rupImpliedRow : OpenClaim := { program := "ytdaiolinnpligaa", sum := "20bb0bf00754b7f954c015d0f9aaa4cae50f6d4eba2a7d0f3b50a651bda2423d", func := "fathom/fathomlaw07.RupImplied", spec := "rupImplied", unfollowed := true, recurses := true, apart := false }
def RupImpliedSaid : Prop := rupImpliedRow.holds Try.pinned (OpenSpec.ofChange rupImpliedSpec)

/-- ITS FALSE NEIGHBOUR: 'it returns false'. Refute it at one input. -/
def rupImpliedWrong : ChangeSpec := { name := "rupImplied", fn := fun _ => fun
  | [d1, d2, d3] => { results := [.lit (.bool false)], args := [d1, d2, d3] }
  | _ => none }
def RupImpliedWrongFalsely : Prop := rupImpliedRow.holds Try.pinned (OpenSpec.ofChange rupImpliedWrong)

/-- 'fathomlaw07.RupTruth': WHATEVER THE INPUT: true; the input reads as it did. -/
def rupTruthSpec : ChangeSpec := { name := "rupTruth", fn := fun _ => fun
  | [d1, d2] => { results := [.lit (.bool true)], args := [d1, d2] }
  | _ => none }
def rupTruthRow : OpenClaim := { program := "ytdaiolinnpligaa", sum := "20bb0bf00754b7f954c015d0f9aaa4cae50f6d4eba2a7d0f3b50a651bda2423d", func := "fathom/fathomlaw07.RupTruth", spec := "rupTruth", unfollowed := true, recurses := true, apart := false }
def RupTruthSaid : Prop := rupTruthRow.holds Try.pinned (OpenSpec.ofChange rupTruthSpec)

/-- ITS FALSE NEIGHBOUR: 'it returns false'. Refute it at one input. -/
def rupTruthWrong : ChangeSpec := { name := "rupTruth", fn := fun _ => fun
  | [d1, d2] => { results := [.lit (.bool false)], args := [d1, d2] }
  | _ => none }
def RupTruthWrongFalsely : Prop := rupTruthRow.holds Try.pinned (OpenSpec.ofChange rupTruthWrong)

/-- 'fathomlaw07.RupUnits': WHATEVER THE INPUT: true; the input reads as it did. -/
def rupUnitsSpec : ChangeSpec := { name := "rupUnits", fn := fun _ => fun
  | [d1, d2] => { results := [.lit (.bool true)], args := [d1, d2] }
  | _ => none }
def rupUnitsRow : OpenClaim := { program := "ytdaiolinnpligaa", sum := "20bb0bf00754b7f954c015d0f9aaa4cae50f6d4eba2a7d0f3b50a651bda2423d", func := "fathom/fathomlaw07.RupUnits", spec := "rupUnits", unfollowed := true, recurses := true, apart := false }
def RupUnitsSaid : Prop := rupUnitsRow.holds Try.pinned (OpenSpec.ofChange rupUnitsSpec)

/-- ITS FALSE NEIGHBOUR: 'it returns false'. Refute it at one input. -/
def rupUnitsWrong : ChangeSpec := { name := "rupUnits", fn := fun _ => fun
  | [d1, d2] => { results := [.lit (.bool false)], args := [d1, d2] }
  | _ => none }
def RupUnitsWrongFalsely : Prop := rupUnitsRow.holds Try.pinned (OpenSpec.ofChange rupUnitsWrong)

/-- 'fathomlaw07.RupKeeps': WHATEVER THE INPUT: true; the input reads as it did. -/
def rupKeepsSpec : ChangeSpec := { name := "rupKeeps", fn := fun _ => fun
  | [d1, d2] => { results := [.lit (.bool true)], args := [d1, d2] }
  | _ => none }
def rupKeepsRow : OpenClaim := { program := "ytdaiolinnpligaa", sum := "20bb0bf00754b7f954c015d0f9aaa4cae50f6d4eba2a7d0f3b50a651bda2423d", func := "fathom/fathomlaw07.RupKeeps", spec := "rupKeeps", unfollowed := true, recurses := true, apart := false }
def RupKeepsSaid : Prop := rupKeepsRow.holds Try.pinned (OpenSpec.ofChange rupKeepsSpec)

/-- ITS FALSE NEIGHBOUR: 'it returns false'. Refute it at one input. -/
def rupKeepsWrong : ChangeSpec := { name := "rupKeeps", fn := fun _ => fun
  | [d1, d2] => { results := [.lit (.bool false)], args := [d1, d2] }
  | _ => none }
def RupKeepsWrongFalsely : Prop := rupKeepsRow.holds Try.pinned (OpenSpec.ofChange rupKeepsWrong)

/-- 'fathomlaw07.RupDoes': WHATEVER THE INPUT: true; the input reads as it did. -/
def rupDoesSpec : ChangeSpec := { name := "rupDoes", fn := fun _ => fun
  | [d1, d2] => { results := [.lit (.bool true)], args := [d1, d2] }
  | _ => none }
def rupDoesRow : OpenClaim := { program := "ytdaiolinnpligaa", sum := "20bb0bf00754b7f954c015d0f9aaa4cae50f6d4eba2a7d0f3b50a651bda2423d", func := "fathom/fathomlaw07.RupDoes", spec := "rupDoes", unfollowed := true, recurses := true, apart := false }
def RupDoesSaid : Prop := rupDoesRow.holds Try.pinned (OpenSpec.ofChange rupDoesSpec)

/-- ITS FALSE NEIGHBOUR: 'it returns false'. Refute it at one input. -/
def rupDoesWrong : ChangeSpec := { name := "rupDoes", fn := fun _ => fun
  | [d1, d2] => { results := [.lit (.bool false)], args := [d1, d2] }
  | _ => none }
def RupDoesWrongFalsely : Prop := rupDoesRow.holds Try.pinned (OpenSpec.ofChange rupDoesWrong)

/- THE SECOND FORM. 'bulk': how many values and letters a reading holds, each counted each time it is reached (what is shared counts as often as it is met; a slice's spare places count too). A statement '..UptoSaid' is the law's where the arguments, and the package variables that the reading takes, are together of bulk at most 1048576: NARROWER than '..Said'. Prove '..Said' where nothing that the law and all that it calls make is longer than what came in: it says more and counts as full. Else prove '..UptoSaid'. A law counts once. -/
mutual
def uptoBulk {H : Type} : DataW H → Nat
  | .lit (.string bytes) => bytes.length + 1
  | .lit _ => 1
  | .nil => 1
  | .ptr d => uptoBulk d + 1
  | .slice elems spare => uptoBulkAll elems + uptoBulkAll spare + 1
  | .agg parts => uptoBulkAll parts + 1
  | .iface _ d => uptoBulk d + 1
  | .map entries => uptoBulkEntries entries + 1
  | .held _ => 1
def uptoBulkAll {H : Type} : List (DataW H) → Nat
  | [] => 0
  | d :: r => uptoBulk d + uptoBulkAll r
def uptoBulkEntries {H : Type} : List (Lit × DataW H) → Nat
  | [] => 0
  | x :: r => uptoBulkEntry x + uptoBulkEntries r
def uptoBulkEntry {H : Type} : Lit × DataW H → Nat
  | (.string bytes, d) => bytes.length + uptoBulk d + 1
  | (_, d) => uptoBulk d + 1
 end
def uptoSmall : (H : Type) → List (DataW H) → Bool := fun _ ds => decide (uptoBulkAll ds ≤ 1048576)
def OpenSpec.upto (s : _root_.Go.ChangeSpec) : _root_.Go.OpenSpec := { _root_.Go.OpenSpec.ofChange s with cond := some uptoSmall }

/-- 'fathomlaw06.PropOnce', WHERE WHAT IT READS IS OF BULK AT MOST 1048576: true; the input reads as it did. -/
def propOnceUptoRow : OpenClaim := { program := "ytdaiolinnpligaa", sum := "20bb0bf00754b7f954c015d0f9aaa4cae50f6d4eba2a7d0f3b50a651bda2423d", func := "fathom/fathomlaw06.PropOnce", spec := "propOnce", unfollowed := true, recurses := true, apart := false, narrowed := true }
def PropOnceUptoSaid : Prop := propOnceUptoRow.holds Try.pinned (OpenSpec.upto propOnceSpec)

/-- 'fathomlaw06.PropSound', WHERE WHAT IT READS IS OF BULK AT MOST 1048576: true; the input reads as it did. -/
def propSoundUptoRow : OpenClaim := { program := "ytdaiolinnpligaa", sum := "20bb0bf00754b7f954c015d0f9aaa4cae50f6d4eba2a7d0f3b50a651bda2423d", func := "fathom/fathomlaw06.PropSound", spec := "propSound", unfollowed := true, recurses := true, apart := false, narrowed := true }
def PropSoundUptoSaid : Prop := propSoundUptoRow.holds Try.pinned (OpenSpec.upto propSoundSpec)

/-- 'fathomlaw06.PropRuns', WHERE WHAT IT READS IS OF BULK AT MOST 1048576: true; the input reads as it did. -/
def propRunsUptoRow : OpenClaim := { program := "ytdaiolinnpligaa", sum := "20bb0bf00754b7f954c015d0f9aaa4cae50f6d4eba2a7d0f3b50a651bda2423d", func := "fathom/fathomlaw06.PropRuns", spec := "propRuns", unfollowed := true, recurses := true, apart := false, narrowed := true }
def PropRunsUptoSaid : Prop := propRunsUptoRow.holds Try.pinned (OpenSpec.upto propRunsSpec)

/-- 'fathomlaw06.PropNobody', WHERE WHAT IT READS IS OF BULK AT MOST 1048576: true; the input reads as it did. -/
def propNobodyUptoRow : OpenClaim := { program := "ytdaiolinnpligaa", sum := "20bb0bf00754b7f954c015d0f9aaa4cae50f6d4eba2a7d0f3b50a651bda2423d", func := "fathom/fathomlaw06.PropNobody", spec := "propNobody", unfollowed := true, recurses := true, apart := false, narrowed := true }
def PropNobodyUptoSaid : Prop := propNobodyUptoRow.holds Try.pinned (OpenSpec.upto propNobodySpec)

/-- 'fathomlaw07.RupProves', WHERE WHAT IT READS IS OF BULK AT MOST 1048576: true; the input reads as it did. -/
def rupProvesUptoRow : OpenClaim := { program := "ytdaiolinnpligaa", sum := "20bb0bf00754b7f954c015d0f9aaa4cae50f6d4eba2a7d0f3b50a651bda2423d", func := "fathom/fathomlaw07.RupProves", spec := "rupProves", unfollowed := true, recurses := true, apart := false, narrowed := true }
def RupProvesUptoSaid : Prop := rupProvesUptoRow.holds Try.pinned (OpenSpec.upto rupProvesSpec)

/-- 'fathomlaw07.RupImplied', WHERE WHAT IT READS IS OF BULK AT MOST 1048576: true; the input reads as it did. -/
def rupImpliedUptoRow : OpenClaim := { program := "ytdaiolinnpligaa", sum := "20bb0bf00754b7f954c015d0f9aaa4cae50f6d4eba2a7d0f3b50a651bda2423d", func := "fathom/fathomlaw07.RupImplied", spec := "rupImplied", unfollowed := true, recurses := true, apart := false, narrowed := true }
def RupImpliedUptoSaid : Prop := rupImpliedUptoRow.holds Try.pinned (OpenSpec.upto rupImpliedSpec)

/-- 'fathomlaw07.RupTruth', WHERE WHAT IT READS IS OF BULK AT MOST 1048576: true; the input reads as it did. -/
def rupTruthUptoRow : OpenClaim := { program := "ytdaiolinnpligaa", sum := "20bb0bf00754b7f954c015d0f9aaa4cae50f6d4eba2a7d0f3b50a651bda2423d", func := "fathom/fathomlaw07.RupTruth", spec := "rupTruth", unfollowed := true, recurses := true, apart := false, narrowed := true }
def RupTruthUptoSaid : Prop := rupTruthUptoRow.holds Try.pinned (OpenSpec.upto rupTruthSpec)

/-- 'fathomlaw07.RupUnits', WHERE WHAT IT READS IS OF BULK AT MOST 1048576: true; the input reads as it did. -/
def rupUnitsUptoRow : OpenClaim := { program := "ytdaiolinnpligaa", sum := "20bb0bf00754b7f954c015d0f9aaa4cae50f6d4eba2a7d0f3b50a651bda2423d", func := "fathom/fathomlaw07.RupUnits", spec := "rupUnits", unfollowed := true, recurses := true, apart := false, narrowed := true }
def RupUnitsUptoSaid : Prop := rupUnitsUptoRow.holds Try.pinned (OpenSpec.upto rupUnitsSpec)

/-- 'fathomlaw07.RupKeeps', WHERE WHAT IT READS IS OF BULK AT MOST 1048576: true; the input reads as it did. -/
def rupKeepsUptoRow : OpenClaim := { program := "ytdaiolinnpligaa", sum := "20bb0bf00754b7f954c015d0f9aaa4cae50f6d4eba2a7d0f3b50a651bda2423d", func := "fathom/fathomlaw07.RupKeeps", spec := "rupKeeps", unfollowed := true, recurses := true, apart := false, narrowed := true }
def RupKeepsUptoSaid : Prop := rupKeepsUptoRow.holds Try.pinned (OpenSpec.upto rupKeepsSpec)

/-- 'fathomlaw07.RupDoes', WHERE WHAT IT READS IS OF BULK AT MOST 1048576: true; the input reads as it did. -/
def rupDoesUptoRow : OpenClaim := { program := "ytdaiolinnpligaa", sum := "20bb0bf00754b7f954c015d0f9aaa4cae50f6d4eba2a7d0f3b50a651bda2423d", func := "fathom/fathomlaw07.RupDoes", spec := "rupDoes", unfollowed := true, recurses := true, apart := false, narrowed := true }
def RupDoesUptoSaid : Prop := rupDoesUptoRow.holds Try.pinned (OpenSpec.upto rupDoesSpec)

end Rows
end Go.Proofs.Ytdaiolinnpligaa
