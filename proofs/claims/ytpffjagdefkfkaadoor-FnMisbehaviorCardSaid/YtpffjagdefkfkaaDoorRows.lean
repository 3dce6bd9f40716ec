/-
  NARROWER THAN 'FOR EVERY INPUT', by the rows' own cells (each row's printed sentence says how): FnMisbehavior: laid.
  DERIVED. THE GIVEN ROWS OF THIS SEAT. 1 by the template 'for every input the law returns true; each argument reads behind the call as it read before'; 0 by the template 'total and deterministic' (their statements: YtpffjagdefkfkaaDoorTotals.lean).
  GIVEN WITH THE SEED: the statements are not yours to turn. If you find one false, say at which input.
  Laid BY PROGRAM, IN A SANDBOX (cutbox-rows.mjs): the forced cells as the released guide's own fill.sh prints them over the translation d2a4da137b50d61a… (all of the seat's roots in one cut). By AI agents, Wed Nov 11 2026. No macro, syntax, notation, axiom, sorry.
-/
import Derived.Test.YtpffjagdefkfkaaDoorChecked
import GoSem.Claim
import GoSem.ClaimJoined
import GoSem.ClaimMapViews
import Derived.JoinedTies
import Derived.KernelRfl
namespace Go.Proofs.YtpffjagdefkfkaaDoor
/- THE CELL 'sum', in the pinned program and in every row, IS THE sha256 OF THE DUMP (.gsa) THAT YtpffjagdefkfkaaDoorProg.lean LOADS. Nothing in Lean hashes anything: it is a label: what it is worth is what the hold of that sum in a sandbox is worth. -/
noncomputable def Tryd.pinned : Pinned := { name := "ytpffjagdefkfkaadoor", sum := "d2a4da137b50d61aba8aa9e9544f2856887cb7177791bbdb637b47d59ace65d4", checked := Tryd.checked }
namespace Rows
def none {H : Type} : Left H := { results := [], args := [] }

/- WHAT THE LISTED PACKAGE-LEVEL VARIABLES READ AS WHEN THE CALL BEGINS. Each datum BY PROGRAM (the guide's laid-datum.mjs) off the statement by which the dump's own 'gosem.cut.vars' lays the variable. In a bare row this is a premise. The card (YtpffjagdefkfkaaDoorCards.lean) ties it to the program's text. -/
def laid_loop_example_g00513_impl_behaviorNames {H : Type} : DataW H := .agg [.lit (.string [104, 111, 110, 101, 115, 116]), .lit (.string [112, 111, 108, 108, 117, 116, 101]), .lit (.string [115, 105, 108, 101, 110, 116]), .lit (.string [114, 101, 112, 101, 97, 116]), .lit (.string [112, 111, 108, 108, 117, 116, 101, 45, 115, 111, 109, 101])]

/-- 'laws.FnMisbehavior': WHATEVER THE INPUT: true; the input reads as it did. -/
def fnMisbehaviorSpec : ChangeSpec := { name := "fnMisbehavior", vars := ["loop.example/g00513/impl.behaviorNames"], fn := fun _ => fun
  | [d, g1] => { results := [.lit (.bool true)], args := [d], vars := [g1] }
  | _ => none }
def fnMisbehaviorRow : OpenClaim := { program := "ytpffjagdefkfkaadoor", sum := "d2a4da137b50d61aba8aa9e9544f2856887cb7177791bbdb637b47d59ace65d4", func := "loop.example/g00513/laws.FnMisbehavior", spec := "fnMisbehavior", unfollowed := true, recurses := true, named := ["loop.example/g00513/impl.behaviorNames"], apart := false, laid := [("loop.example/g00513/impl.behaviorNames", laid_loop_example_g00513_impl_behaviorNames)] }
def FnMisbehaviorSaid : Prop := fnMisbehaviorRow.holds Tryd.pinned (OpenSpec.ofChange fnMisbehaviorSpec)

/-- ITS FALSE NEIGHBOUR: 'it returns false'. Refute it at one input. -/
def fnMisbehaviorWrong : ChangeSpec := { name := "fnMisbehavior", vars := ["loop.example/g00513/impl.behaviorNames"], fn := fun _ => fun
  | [d, g1] => { results := [.lit (.bool false)], args := [d], vars := [g1] }
  | _ => none }
def FnMisbehaviorWrongFalsely : Prop := fnMisbehaviorRow.holds Tryd.pinned (OpenSpec.ofChange fnMisbehaviorWrong)

/- THE SECOND FORM. 'bulk': how many values and letters a reading holds, each counted each time it is reached (what is shared counts as often as it is met; a slice's spare places count too). A statement '..UptoSaid' is the law's where the arguments, and the package variables that the reading takes, are together of bulk at most 1048576: NARROWER than '..Said'. Prove '..Said' where nothing that the law and all that it calls make is longer than what came in: it says more and counts as full. Else prove '..UptoSaid'. A law counts once. -/
mutual
def uptoBulk {H : Type} : DataW H → Nat
  | .lit (.string bytes) => bytes.length + 1
  | .lit _ => 1
  | .nil => 1
  | .ptr d => uptoBulk d + 1
  | .slice elems spare => uptoBulkAll elems + uptoBulkAll spare + 1
  | .agg parts => uptoBulkAll parts + 1
  | .iface _ d => uptoBulk d + 1
  | .map entries => uptoBulkEntries entries + 1
  | .held _ => 1
def uptoBulkAll {H : Type} : List (DataW H) → Nat
  | [] => 0
  | d :: r => uptoBulk d + uptoBulkAll r
def uptoBulkEntries {H : Type} : List (Lit × DataW H) → Nat
  | [] => 0
  | x :: r => uptoBulkEntry x + uptoBulkEntries r
def uptoBulkEntry {H : Type} : Lit × DataW H → Nat
  | (.string bytes, d) => bytes.length + uptoBulk d + 1
  | (_, d) => uptoBulk d + 1
 end
def uptoSmall : (H : Type) → List (DataW H) → Bool := fun _ ds => decide (uptoBulkAll ds ≤ 1048576)
def OpenSpec.upto (s : _root_.Go.ChangeSpec) : _root_.Go.OpenSpec := { _root_.Go.OpenSpec.ofChange s with cond := some uptoSmall }

/-- 'laws.FnMisbehavior', WHERE WHAT IT READS IS OF BULK AT MOST 1048576: true; the input reads as it did. -/
def fnMisbehaviorUptoRow : OpenClaim := { program := "ytpffjagdefkfkaadoor", sum := "d2a4da137b50d61aba8aa9e9544f2856887cb7177791bbdb637b47d59ace65d4", func := "loop.example/g00513/laws.FnMisbehavior", spec := "fnMisbehavior", unfollowed := true, recurses := true, named := ["loop.example/g00513/impl.behaviorNames"], apart := false, laid := [("loop.example/g00513/impl.behaviorNames", laid_loop_example_g00513_impl_behaviorNames)], narrowed := true }
def FnMisbehaviorUptoSaid : Prop := fnMisbehaviorUptoRow.holds Tryd.pinned (OpenSpec.upto fnMisbehaviorSpec)

end Rows
end Go.Proofs.YtpffjagdefkfkaaDoor
