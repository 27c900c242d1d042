/-
  No cell of these rows narrows 'for every input' (looked for: loops, veiled, ifaces, maps, wideKeys, modest, calm, conditions, laid).
  DERIVED. THE GIVEN ROWS OF THIS SEAT. 4 by the template 'for every input the law returns true; each argument reads behind the call as it read before'; 0 by the template 'total and deterministic' (their statements: YtbdghpjnifjlmaaGreatTotals.lean).
  GIVEN WITH THE SEED: the statements are not yours to turn. If you find one false, say at which input.
  Laid BY PROGRAM, IN A SANDBOX (cutbox-rows.mjs): the forced cells as the released guide's own fill.sh prints them over the translation faef2477e7d5fcb4… (all of the seat's roots in one cut). By AI agents, Wed Nov 11 2026. No macro, syntax, notation, axiom, sorry.
-/
import Derived.Test.YtbdghpjnifjlmaaGreatChecked
import GoSem.Claim
import GoSem.ClaimJoined
import GoSem.ClaimMapViews
import Derived.JoinedTies
import Derived.KernelRfl
namespace Go.Proofs.YtbdghpjnifjlmaaGreat
/- THE CELL 'sum', in the pinned program and in every row, IS THE sha256 OF THE DUMP (.gsa) THAT YtbdghpjnifjlmaaGreatProg.lean LOADS. Nothing in Lean hashes anything: it is a label: what it is worth is what the hold of that sum in a sandbox is worth. -/
noncomputable def Tryz.pinned : Pinned := { name := "ytbdghpjnifjlmaagreat", sum := "faef2477e7d5fcb44c5c8011d76a04b5c7488e1fb56b5714356a3f1329548462", checked := Tryz.checked }
namespace Rows
def none {H : Type} : Left H := { results := [], args := [] }

/-- 'fathomlaw37.CertifyChecks': WHATEVER THE INPUT: true; the input reads as it did. -/
def certifyChecksSpec : ChangeSpec := { name := "certifyChecks", fn := fun _ => fun
  | [d1, d2] => { results := [.lit (.bool true)], args := [d1, d2] }
  | _ => none }
def certifyChecksRow : OpenClaim := { program := "ytbdghpjnifjlmaagreat", sum := "faef2477e7d5fcb44c5c8011d76a04b5c7488e1fb56b5714356a3f1329548462", func := "fathom/fathomlaw37.CertifyChecks", spec := "certifyChecks", unfollowed := true, recurses := true, plainKeys := false, apart := false }
def CertifyChecksSaid : Prop := certifyChecksRow.holds Tryz.pinned (OpenSpec.ofChange certifyChecksSpec)

/-- ITS FALSE NEIGHBOUR: 'it returns false'. Refute it at one input. -/
def certifyChecksWrong : ChangeSpec := { name := "certifyChecks", fn := fun _ => fun
  | [d1, d2] => { results := [.lit (.bool false)], args := [d1, d2] }
  | _ => none }
def CertifyChecksWrongFalsely : Prop := certifyChecksRow.holds Tryz.pinned (OpenSpec.ofChange certifyChecksWrong)

/-- 'fathomlaw37.CertifySolves': WHATEVER THE INPUT: true; the input reads as it did. -/
def certifySolvesSpec : ChangeSpec := { name := "certifySolves", fn := fun _ => fun
  | [d1, d2] => { results := [.lit (.bool true)], args := [d1, d2] }
  | _ => none }
def certifySolvesRow : OpenClaim := { program := "ytbdghpjnifjlmaagreat", sum := "faef2477e7d5fcb44c5c8011d76a04b5c7488e1fb56b5714356a3f1329548462", func := "fathom/fathomlaw37.CertifySolves", spec := "certifySolves", unfollowed := true, recurses := true, plainKeys := false, apart := false }
def CertifySolvesSaid : Prop := certifySolvesRow.holds Tryz.pinned (OpenSpec.ofChange certifySolvesSpec)

/-- ITS FALSE NEIGHBOUR: 'it returns false'. Refute it at one input. -/
def certifySolvesWrong : ChangeSpec := { name := "certifySolves", fn := fun _ => fun
  | [d1, d2] => { results := [.lit (.bool false)], args := [d1, d2] }
  | _ => none }
def CertifySolvesWrongFalsely : Prop := certifySolvesRow.holds Tryz.pinned (OpenSpec.ofChange certifySolvesWrong)

/-- 'fathomlaw37.CertifyCores': WHATEVER THE INPUT: true; the input reads as it did. -/
def certifyCoresSpec : ChangeSpec := { name := "certifyCores", fn := fun _ => fun
  | [d1, d2] => { results := [.lit (.bool true)], args := [d1, d2] }
  | _ => none }
def certifyCoresRow : OpenClaim := { program := "ytbdghpjnifjlmaagreat", sum := "faef2477e7d5fcb44c5c8011d76a04b5c7488e1fb56b5714356a3f1329548462", func := "fathom/fathomlaw37.CertifyCores", spec := "certifyCores", unfollowed := true, recurses := true, plainKeys := false, apart := false }
def CertifyCoresSaid : Prop := certifyCoresRow.holds Tryz.pinned (OpenSpec.ofChange certifyCoresSpec)

/-- ITS FALSE NEIGHBOUR: 'it returns false'. Refute it at one input. -/
def certifyCoresWrong : ChangeSpec := { name := "certifyCores", fn := fun _ => fun
  | [d1, d2] => { results := [.lit (.bool false)], args := [d1, d2] }
  | _ => none }
def CertifyCoresWrongFalsely : Prop := certifyCoresRow.holds Tryz.pinned (OpenSpec.ofChange certifyCoresWrong)

/-- 'fathomlaw37.CertifyGraphs': WHATEVER THE INPUT: true; the input reads as it did. -/
def certifyGraphsSpec : ChangeSpec := { name := "certifyGraphs", fn := fun _ => fun
  | [d1, d2] => { results := [.lit (.bool true)], args := [d1, d2] }
  | _ => none }
def certifyGraphsRow : OpenClaim := { program := "ytbdghpjnifjlmaagreat", sum := "faef2477e7d5fcb44c5c8011d76a04b5c7488e1fb56b5714356a3f1329548462", func := "fathom/fathomlaw37.CertifyGraphs", spec := "certifyGraphs", unfollowed := true, recurses := true, plainKeys := false, apart := false }
def CertifyGraphsSaid : Prop := certifyGraphsRow.holds Tryz.pinned (OpenSpec.ofChange certifyGraphsSpec)

/-- ITS FALSE NEIGHBOUR: 'it returns false'. Refute it at one input. -/
def certifyGraphsWrong : ChangeSpec := { name := "certifyGraphs", fn := fun _ => fun
  | [d1, d2] => { results := [.lit (.bool false)], args := [d1, d2] }
  | _ => none }
def CertifyGraphsWrongFalsely : Prop := certifyGraphsRow.holds Tryz.pinned (OpenSpec.ofChange certifyGraphsWrong)

/- THE SECOND FORM. 'bulk': how many values and letters a reading holds, each counted each time it is reached (what is shared counts as often as it is met; a slice's spare places count too). A statement '..UptoSaid' is the law's where the arguments, and the package variables that the reading takes, are together of bulk at most 1048576: NARROWER than '..Said'. Prove '..Said' where nothing that the law and all that it calls make is longer than what came in: it says more and counts as full. Else prove '..UptoSaid'. A law counts once. -/
mutual
def uptoBulk {H : Type} : DataW H → Nat
  | .lit (.string bytes) => bytes.length + 1
  | .lit _ => 1
  | .nil => 1
  | .ptr d => uptoBulk d + 1
  | .slice elems spare => uptoBulkAll elems + uptoBulkAll spare + 1
  | .agg parts => uptoBulkAll parts + 1
  | .iface _ d => uptoBulk d + 1
  | .map entries => uptoBulkEntries entries + 1
  | .held _ => 1
def uptoBulkAll {H : Type} : List (DataW H) → Nat
  | [] => 0
  | d :: r => uptoBulk d + uptoBulkAll r
def uptoBulkEntries {H : Type} : List (Lit × DataW H) → Nat
  | [] => 0
  | x :: r => uptoBulkEntry x + uptoBulkEntries r
def uptoBulkEntry {H : Type} : Lit × DataW H → Nat
  | (.string bytes, d) => bytes.length + uptoBulk d + 1
  | (_, d) => uptoBulk d + 1
 end
def uptoSmall : (H : Type) → List (DataW H) → Bool := fun _ ds => decide (uptoBulkAll ds ≤ 1048576)
def OpenSpec.upto (s : _root_.Go.ChangeSpec) : _root_.Go.OpenSpec := { _root_.Go.OpenSpec.ofChange s with cond := some uptoSmall }

/-- 'fathomlaw37.CertifyChecks', WHERE WHAT IT READS IS OF BULK AT MOST 1048576: true; the input reads as it did. -/
def certifyChecksUptoRow : OpenClaim := { program := "ytbdghpjnifjlmaagreat", sum := "faef2477e7d5fcb44c5c8011d76a04b5c7488e1fb56b5714356a3f1329548462", func := "fathom/fathomlaw37.CertifyChecks", spec := "certifyChecks", unfollowed := true, recurses := true, plainKeys := false, apart := false, narrowed := true }
def CertifyChecksUptoSaid : Prop := certifyChecksUptoRow.holds Tryz.pinned (OpenSpec.upto certifyChecksSpec)

/-- 'fathomlaw37.CertifySolves', WHERE WHAT IT READS IS OF BULK AT MOST 1048576: true; the input reads as it did. -/
def certifySolvesUptoRow : OpenClaim := { program := "ytbdghpjnifjlmaagreat", sum := "faef2477e7d5fcb44c5c8011d76a04b5c7488e1fb56b5714356a3f1329548462", func := "fathom/fathomlaw37.CertifySolves", spec := "certifySolves", unfollowed := true, recurses := true, plainKeys := false, apart := false, narrowed := true }
def CertifySolvesUptoSaid : Prop := certifySolvesUptoRow.holds Tryz.pinned (OpenSpec.upto certifySolvesSpec)

/-- 'fathomlaw37.CertifyCores', WHERE WHAT IT READS IS OF BULK AT MOST 1048576: true; the input reads as it did. -/
def certifyCoresUptoRow : OpenClaim := { program := "ytbdghpjnifjlmaagreat", sum := "faef2477e7d5fcb44c5c8011d76a04b5c7488e1fb56b5714356a3f1329548462", func := "fathom/fathomlaw37.CertifyCores", spec := "certifyCores", unfollowed := true, recurses := true, plainKeys := false, apart := false, narrowed := true }
def CertifyCoresUptoSaid : Prop := certifyCoresUptoRow.holds Tryz.pinned (OpenSpec.upto certifyCoresSpec)

/-- 'fathomlaw37.CertifyGraphs', WHERE WHAT IT READS IS OF BULK AT MOST 1048576: true; the input reads as it did. -/
def certifyGraphsUptoRow : OpenClaim := { program := "ytbdghpjnifjlmaagreat", sum := "faef2477e7d5fcb44c5c8011d76a04b5c7488e1fb56b5714356a3f1329548462", func := "fathom/fathomlaw37.CertifyGraphs", spec := "certifyGraphs", unfollowed := true, recurses := true, plainKeys := false, apart := false, narrowed := true }
def CertifyGraphsUptoSaid : Prop := certifyGraphsUptoRow.holds Tryz.pinned (OpenSpec.upto certifyGraphsSpec)

end Rows
end Go.Proofs.YtbdghpjnifjlmaaGreat
