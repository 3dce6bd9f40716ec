/-
  No cell of these rows narrows 'for every input' (looked for: loops, veiled, ifaces, maps, wideKeys, modest, calm, conditions, laid).
  DERIVED. THE GIVEN ROWS OF THIS SEAT. 5 by the template 'for every input the law returns true; each argument reads behind the call as it read before'; 0 by the template 'total and deterministic' (their statements: YtpffjagdefkfkaaTotals.lean).
  GIVEN WITH THE SEED: the statements are not yours to turn. If you find one false, say at which input.
  Laid BY PROGRAM, IN A SANDBOX (cutbox-rows.mjs): the forced cells as the released guide's own fill.sh prints them over the translation 97e50714d62d4d4c… (all of the seat's roots in one cut). By AI agents, Wed Nov 11 2026. No macro, syntax, notation, axiom, sorry.
-/
import Derived.Test.YtpffjagdefkfkaaChecked
import GoSem.Claim
import GoSem.ClaimJoined
import GoSem.ClaimMapViews
import Derived.JoinedTies
import Derived.KernelRfl
namespace Go.Proofs.Ytpffjagdefkfkaa
/- THE CELL 'sum', in the pinned program and in every row, IS THE sha256 OF THE DUMP (.gsa) THAT YtpffjagdefkfkaaProg.lean LOADS. Nothing in Lean hashes anything: it is a label: what it is worth is what the hold of that sum in a sandbox is worth. -/
noncomputable def Try.pinned : Pinned := { name := "ytpffjagdefkfkaa", sum := "97e50714d62d4d4c36ebbc0a21dacac088dc1a321b122155b7b068bd0ff7063d", checked := Try.checked }
namespace Rows
def none {H : Type} : Left H := { results := [], args := [] }

/-- 'laws.FnManifests': WHATEVER THE INPUT: true; the input reads as it did. -/
def fnManifestsSpec : ChangeSpec := { name := "fnManifests", fn := fun _ => fun
  | [d] => { results := [.lit (.bool true)], args := [d] }
  | _ => none }
def fnManifestsRow : OpenClaim := { program := "ytpffjagdefkfkaa", sum := "97e50714d62d4d4c36ebbc0a21dacac088dc1a321b122155b7b068bd0ff7063d", func := "loop.example/g00513/laws.FnManifests", spec := "fnManifests", unfollowed := true, recurses := true, apart := false }
def FnManifestsSaid : Prop := fnManifestsRow.holds Try.pinned (OpenSpec.ofChange fnManifestsSpec)

/-- ITS FALSE NEIGHBOUR: 'it returns false'. Refute it at one input. -/
def fnManifestsWrong : ChangeSpec := { name := "fnManifests", fn := fun _ => fun
  | [d] => { results := [.lit (.bool false)], args := [d] }
  | _ => none }
def FnManifestsWrongFalsely : Prop := fnManifestsRow.holds Try.pinned (OpenSpec.ofChange fnManifestsWrong)

/-- 'laws.FnPollutionDetected': WHATEVER THE INPUT: true; the input reads as it did. -/
def fnPollutionDetectedSpec : ChangeSpec := { name := "fnPollutionDetected", fn := fun _ => fun
  | [d] => { results := [.lit (.bool true)], args := [d] }
  | _ => none }
def fnPollutionDetectedRow : OpenClaim := { program := "ytpffjagdefkfkaa", sum := "97e50714d62d4d4c36ebbc0a21dacac088dc1a321b122155b7b068bd0ff7063d", func := "loop.example/g00513/laws.FnPollutionDetected", spec := "fnPollutionDetected", unfollowed := true, recurses := true, apart := false }
def FnPollutionDetectedSaid : Prop := fnPollutionDetectedRow.holds Try.pinned (OpenSpec.ofChange fnPollutionDetectedSpec)

/-- ITS FALSE NEIGHBOUR: 'it returns false'. Refute it at one input. -/
def fnPollutionDetectedWrong : ChangeSpec := { name := "fnPollutionDetected", fn := fun _ => fun
  | [d] => { results := [.lit (.bool false)], args := [d] }
  | _ => none }
def FnPollutionDetectedWrongFalsely : Prop := fnPollutionDetectedRow.holds Try.pinned (OpenSpec.ofChange fnPollutionDetectedWrong)

/-- 'laws.FnNoFalseProofs': WHATEVER THE INPUT: true; the input reads as it did. -/
def fnNoFalseProofsSpec : ChangeSpec := { name := "fnNoFalseProofs", fn := fun _ => fun
  | [d] => { results := [.lit (.bool true)], args := [d] }
  | _ => none }
def fnNoFalseProofsRow : OpenClaim := { program := "ytpffjagdefkfkaa", sum := "97e50714d62d4d4c36ebbc0a21dacac088dc1a321b122155b7b068bd0ff7063d", func := "loop.example/g00513/laws.FnNoFalseProofs", spec := "fnNoFalseProofs", unfollowed := true, recurses := true, apart := false }
def FnNoFalseProofsSaid : Prop := fnNoFalseProofsRow.holds Try.pinned (OpenSpec.ofChange fnNoFalseProofsSpec)

/-- ITS FALSE NEIGHBOUR: 'it returns false'. Refute it at one input. -/
def fnNoFalseProofsWrong : ChangeSpec := { name := "fnNoFalseProofs", fn := fun _ => fun
  | [d] => { results := [.lit (.bool false)], args := [d] }
  | _ => none }
def FnNoFalseProofsWrongFalsely : Prop := fnNoFalseProofsRow.holds Try.pinned (OpenSpec.ofChange fnNoFalseProofsWrong)

/-- 'laws.FnBases': WHATEVER THE INPUT: true; the input reads as it did. -/
def fnBasesSpec : ChangeSpec := { name := "fnBases", fn := fun _ => fun
  | [d] => { results := [.lit (.bool true)], args := [d] }
  | _ => none }
def fnBasesRow : OpenClaim := { program := "ytpffjagdefkfkaa", sum := "97e50714d62d4d4c36ebbc0a21dacac088dc1a321b122155b7b068bd0ff7063d", func := "loop.example/g00513/laws.FnBases", spec := "fnBases", inPlace := ["slices.overlaps[[]int]"], unfollowed := true, recurses := true, apart := false }
def FnBasesSaid : Prop := fnBasesRow.holds Try.pinned (OpenSpec.ofChange fnBasesSpec)

/-- ITS FALSE NEIGHBOUR: 'it returns false'. Refute it at one input. -/
def fnBasesWrong : ChangeSpec := { name := "fnBases", fn := fun _ => fun
  | [d] => { results := [.lit (.bool false)], args := [d] }
  | _ => none }
def FnBasesWrongFalsely : Prop := fnBasesRow.holds Try.pinned (OpenSpec.ofChange fnBasesWrong)

/-- 'laws.FnSubspaces': WHATEVER THE INPUT: true; the input reads as it did. -/
def fnSubspacesSpec : ChangeSpec := { name := "fnSubspaces", fn := fun _ => fun
  | [d] => { results := [.lit (.bool true)], args := [d] }
  | _ => none }
def fnSubspacesRow : OpenClaim := { program := "ytpffjagdefkfkaa", sum := "97e50714d62d4d4c36ebbc0a21dacac088dc1a321b122155b7b068bd0ff7063d", func := "loop.example/g00513/laws.FnSubspaces", spec := "fnSubspaces", inPlace := ["slices.overlaps[[]int]"], unfollowed := true, recurses := true, apart := false }
def FnSubspacesSaid : Prop := fnSubspacesRow.holds Try.pinned (OpenSpec.ofChange fnSubspacesSpec)

/-- ITS FALSE NEIGHBOUR: 'it returns false'. Refute it at one input. -/
def fnSubspacesWrong : ChangeSpec := { name := "fnSubspaces", fn := fun _ => fun
  | [d] => { results := [.lit (.bool false)], args := [d] }
  | _ => none }
def FnSubspacesWrongFalsely : Prop := fnSubspacesRow.holds Try.pinned (OpenSpec.ofChange fnSubspacesWrong)

/- THE SECOND FORM. 'bulk': how many values and letters a reading holds, each counted each time it is reached (what is shared counts as often as it is met; a slice's spare places count too). A statement '..UptoSaid' is the law's where the arguments, and the package variables that the reading takes, are together of bulk at most 1048576: NARROWER than '..Said'. Prove '..Said' where nothing that the law and all that it calls make is longer than what came in: it says more and counts as full. Else prove '..UptoSaid'. A law counts once. -/
mutual
def uptoBulk {H : Type} : DataW H → Nat
  | .lit (.string bytes) => bytes.length + 1
  | .lit _ => 1
  | .nil => 1
  | .ptr d => uptoBulk d + 1
  | .slice elems spare => uptoBulkAll elems + uptoBulkAll spare + 1
  | .agg parts => uptoBulkAll parts + 1
  | .iface _ d => uptoBulk d + 1
  | .map entries => uptoBulkEntries entries + 1
  | .held _ => 1
def uptoBulkAll {H : Type} : List (DataW H) → Nat
  | [] => 0
  | d :: r => uptoBulk d + uptoBulkAll r
def uptoBulkEntries {H : Type} : List (Lit × DataW H) → Nat
  | [] => 0
  | x :: r => uptoBulkEntry x + uptoBulkEntries r
def uptoBulkEntry {H : Type} : Lit × DataW H → Nat
  | (.string bytes, d) => bytes.length + uptoBulk d + 1
  | (_, d) => uptoBulk d + 1
 end
def uptoSmall : (H : Type) → List (DataW H) → Bool := fun _ ds => decide (uptoBulkAll ds ≤ 1048576)
def OpenSpec.upto (s : _root_.Go.ChangeSpec) : _root_.Go.OpenSpec := { _root_.Go.OpenSpec.ofChange s with cond := some uptoSmall }

/-- 'laws.FnManifests', WHERE WHAT IT READS IS OF BULK AT MOST 1048576: true; the input reads as it did. -/
def fnManifestsUptoRow : OpenClaim := { program := "ytpffjagdefkfkaa", sum := "97e50714d62d4d4c36ebbc0a21dacac088dc1a321b122155b7b068bd0ff7063d", func := "loop.example/g00513/laws.FnManifests", spec := "fnManifests", unfollowed := true, recurses := true, apart := false, narrowed := true }
def FnManifestsUptoSaid : Prop := fnManifestsUptoRow.holds Try.pinned (OpenSpec.upto fnManifestsSpec)

/-- 'laws.FnPollutionDetected', WHERE WHAT IT READS IS OF BULK AT MOST 1048576: true; the input reads as it did. -/
def fnPollutionDetectedUptoRow : OpenClaim := { program := "ytpffjagdefkfkaa", sum := "97e50714d62d4d4c36ebbc0a21dacac088dc1a321b122155b7b068bd0ff7063d", func := "loop.example/g00513/laws.FnPollutionDetected", spec := "fnPollutionDetected", unfollowed := true, recurses := true, apart := false, narrowed := true }
def FnPollutionDetectedUptoSaid : Prop := fnPollutionDetectedUptoRow.holds Try.pinned (OpenSpec.upto fnPollutionDetectedSpec)

/-- 'laws.FnNoFalseProofs', WHERE WHAT IT READS IS OF BULK AT MOST 1048576: true; the input reads as it did. -/
def fnNoFalseProofsUptoRow : OpenClaim := { program := "ytpffjagdefkfkaa", sum := "97e50714d62d4d4c36ebbc0a21dacac088dc1a321b122155b7b068bd0ff7063d", func := "loop.example/g00513/laws.FnNoFalseProofs", spec := "fnNoFalseProofs", unfollowed := true, recurses := true, apart := false, narrowed := true }
def FnNoFalseProofsUptoSaid : Prop := fnNoFalseProofsUptoRow.holds Try.pinned (OpenSpec.upto fnNoFalseProofsSpec)

/-- 'laws.FnBases', WHERE WHAT IT READS IS OF BULK AT MOST 1048576: true; the input reads as it did. -/
def fnBasesUptoRow : OpenClaim := { program := "ytpffjagdefkfkaa", sum := "97e50714d62d4d4c36ebbc0a21dacac088dc1a321b122155b7b068bd0ff7063d", func := "loop.example/g00513/laws.FnBases", spec := "fnBases", inPlace := ["slices.overlaps[[]int]"], unfollowed := true, recurses := true, apart := false, narrowed := true }
def FnBasesUptoSaid : Prop := fnBasesUptoRow.holds Try.pinned (OpenSpec.upto fnBasesSpec)

/-- 'laws.FnSubspaces', WHERE WHAT IT READS IS OF BULK AT MOST 1048576: true; the input reads as it did. -/
def fnSubspacesUptoRow : OpenClaim := { program := "ytpffjagdefkfkaa", sum := "97e50714d62d4d4c36ebbc0a21dacac088dc1a321b122155b7b068bd0ff7063d", func := "loop.example/g00513/laws.FnSubspaces", spec := "fnSubspaces", inPlace := ["slices.overlaps[[]int]"], unfollowed := true, recurses := true, apart := false, narrowed := true }
def FnSubspacesUptoSaid : Prop := fnSubspacesUptoRow.holds Try.pinned (OpenSpec.upto fnSubspacesSpec)

end Rows
end Go.Proofs.Ytpffjagdefkfkaa
