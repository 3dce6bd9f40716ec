/-
  No cell of these rows narrows 'for every input' (looked for: loops, veiled, ifaces, maps, wideKeys, modest, calm, conditions, laid).
  DERIVED. THE GIVEN ROWS OF THIS SEAT. 6 by the template 'for every input the law returns true; each argument reads behind the call as it read before'; 0 by the template 'total and deterministic' (their statements: YtpjflcllpmjjiaaTotals.lean).
  GIVEN WITH THE SEED: the statements are not yours to turn. If you find one false, say at which input.
  Laid BY PROGRAM, IN A SANDBOX (cutbox-rows.mjs): the forced cells as the released guide's own fill.sh prints them over the translation c2a11180a6af647c… (all of the seat's roots in one cut). By AI agents, Wed Nov 11 2026. No macro, syntax, notation, axiom, sorry.
-/
import Derived.Test.YtpjflcllpmjjiaaChecked
import GoSem.Claim
import GoSem.ClaimJoined
import GoSem.ClaimMapViews
import Derived.JoinedTies
import Derived.KernelRfl
namespace Go.Proofs.Ytpjflcllpmjjiaa
/- THE CELL 'sum', in the pinned program and in every row, IS THE sha256 OF THE DUMP (.gsa) THAT YtpjflcllpmjjiaaProg.lean LOADS. Nothing in Lean hashes anything: it is a label: what it is worth is what the hold of that sum in a sandbox is worth. -/
noncomputable def Try.pinned : Pinned := { name := "ytpjflcllpmjjiaa", sum := "c2a11180a6af647c25d61927a427de530887f5360039e1be37d958e696a09915", checked := Try.checked }
namespace Rows
def none {H : Type} : Left H := { results := [], args := [] }

/-- 'laws.FnExactIsBehavior': WHATEVER THE INPUT: true; the input reads as it did. -/
def fnExactIsBehaviorSpec : ChangeSpec := { name := "fnExactIsBehavior", fn := fun _ => fun
  | [d] => { results := [.lit (.bool true)], args := [d] }
  | _ => none }
def fnExactIsBehaviorRow : OpenClaim := { program := "ytpjflcllpmjjiaa", sum := "c2a11180a6af647c25d61927a427de530887f5360039e1be37d958e696a09915", func := "loop.example/g00513/laws.FnExactIsBehavior", spec := "fnExactIsBehavior", apart := false }
def FnExactIsBehaviorSaid : Prop := fnExactIsBehaviorRow.holds Try.pinned (OpenSpec.ofChange fnExactIsBehaviorSpec)

/-- ITS FALSE NEIGHBOUR: 'it returns false'. Refute it at one input. -/
def fnExactIsBehaviorWrong : ChangeSpec := { name := "fnExactIsBehavior", fn := fun _ => fun
  | [d] => { results := [.lit (.bool false)], args := [d] }
  | _ => none }
def FnExactIsBehaviorWrongFalsely : Prop := fnExactIsBehaviorRow.holds Try.pinned (OpenSpec.ofChange fnExactIsBehaviorWrong)

/-- 'laws.FnExactHonestNodes': WHATEVER THE INPUT: true; the input reads as it did. -/
def fnExactHonestNodesSpec : ChangeSpec := { name := "fnExactHonestNodes", fn := fun _ => fun
  | [d] => { results := [.lit (.bool true)], args := [d] }
  | _ => none }
def fnExactHonestNodesRow : OpenClaim := { program := "ytpjflcllpmjjiaa", sum := "c2a11180a6af647c25d61927a427de530887f5360039e1be37d958e696a09915", func := "loop.example/g00513/laws.FnExactHonestNodes", spec := "fnExactHonestNodes", apart := false }
def FnExactHonestNodesSaid : Prop := fnExactHonestNodesRow.holds Try.pinned (OpenSpec.ofChange fnExactHonestNodesSpec)

/-- ITS FALSE NEIGHBOUR: 'it returns false'. Refute it at one input. -/
def fnExactHonestNodesWrong : ChangeSpec := { name := "fnExactHonestNodes", fn := fun _ => fun
  | [d] => { results := [.lit (.bool false)], args := [d] }
  | _ => none }
def FnExactHonestNodesWrongFalsely : Prop := fnExactHonestNodesRow.holds Try.pinned (OpenSpec.ofChange fnExactHonestNodesWrong)

/-- 'laws.FnExactIsValidLedger': WHATEVER THE INPUT: true; the input reads as it did. -/
def fnExactIsValidLedgerSpec : ChangeSpec := { name := "fnExactIsValidLedger", fn := fun _ => fun
  | [d] => { results := [.lit (.bool true)], args := [d] }
  | _ => none }
def fnExactIsValidLedgerRow : OpenClaim := { program := "ytpjflcllpmjjiaa", sum := "c2a11180a6af647c25d61927a427de530887f5360039e1be37d958e696a09915", func := "loop.example/g00513/laws.FnExactIsValidLedger", spec := "fnExactIsValidLedger", apart := false }
def FnExactIsValidLedgerSaid : Prop := fnExactIsValidLedgerRow.holds Try.pinned (OpenSpec.ofChange fnExactIsValidLedgerSpec)

/-- ITS FALSE NEIGHBOUR: 'it returns false'. Refute it at one input. -/
def fnExactIsValidLedgerWrong : ChangeSpec := { name := "fnExactIsValidLedger", fn := fun _ => fun
  | [d] => { results := [.lit (.bool false)], args := [d] }
  | _ => none }
def FnExactIsValidLedgerWrongFalsely : Prop := fnExactIsValidLedgerRow.holds Try.pinned (OpenSpec.ofChange fnExactIsValidLedgerWrong)

/-- 'laws.FnExactUnitGraph': WHATEVER THE INPUT: true; the input reads as it did. -/
def fnExactUnitGraphSpec : ChangeSpec := { name := "fnExactUnitGraph", fn := fun _ => fun
  | [d] => { results := [.lit (.bool true)], args := [d] }
  | _ => none }
def fnExactUnitGraphRow : OpenClaim := { program := "ytpjflcllpmjjiaa", sum := "c2a11180a6af647c25d61927a427de530887f5360039e1be37d958e696a09915", func := "loop.example/g00513/laws.FnExactUnitGraph", spec := "fnExactUnitGraph", apart := false }
def FnExactUnitGraphSaid : Prop := fnExactUnitGraphRow.holds Try.pinned (OpenSpec.ofChange fnExactUnitGraphSpec)

/-- ITS FALSE NEIGHBOUR: 'it returns false'. Refute it at one input. -/
def fnExactUnitGraphWrong : ChangeSpec := { name := "fnExactUnitGraph", fn := fun _ => fun
  | [d] => { results := [.lit (.bool false)], args := [d] }
  | _ => none }
def FnExactUnitGraphWrongFalsely : Prop := fnExactUnitGraphRow.holds Try.pinned (OpenSpec.ofChange fnExactUnitGraphWrong)

/-- 'laws.FnExactExpelledNodes': WHATEVER THE INPUT: true; the input reads as it did. -/
def fnExactExpelledNodesSpec : ChangeSpec := { name := "fnExactExpelledNodes", fn := fun _ => fun
  | [d] => { results := [.lit (.bool true)], args := [d] }
  | _ => none }
def fnExactExpelledNodesRow : OpenClaim := { program := "ytpjflcllpmjjiaa", sum := "c2a11180a6af647c25d61927a427de530887f5360039e1be37d958e696a09915", func := "loop.example/g00513/laws.FnExactExpelledNodes", spec := "fnExactExpelledNodes", apart := false }
def FnExactExpelledNodesSaid : Prop := fnExactExpelledNodesRow.holds Try.pinned (OpenSpec.ofChange fnExactExpelledNodesSpec)

/-- ITS FALSE NEIGHBOUR: 'it returns false'. Refute it at one input. -/
def fnExactExpelledNodesWrong : ChangeSpec := { name := "fnExactExpelledNodes", fn := fun _ => fun
  | [d] => { results := [.lit (.bool false)], args := [d] }
  | _ => none }
def FnExactExpelledNodesWrongFalsely : Prop := fnExactExpelledNodesRow.holds Try.pinned (OpenSpec.ofChange fnExactExpelledNodesWrong)

/-- 'laws.FnExactMergeLedgers': WHATEVER THE INPUT: true; the input reads as it did. -/
def fnExactMergeLedgersSpec : ChangeSpec := { name := "fnExactMergeLedgers", fn := fun _ => fun
  | [d1, d2] => { results := [.lit (.bool true)], args := [d1, d2] }
  | _ => none }
def fnExactMergeLedgersRow : OpenClaim := { program := "ytpjflcllpmjjiaa", sum := "c2a11180a6af647c25d61927a427de530887f5360039e1be37d958e696a09915", func := "loop.example/g00513/laws.FnExactMergeLedgers", spec := "fnExactMergeLedgers", apart := false }
def FnExactMergeLedgersSaid : Prop := fnExactMergeLedgersRow.holds Try.pinned (OpenSpec.ofChange fnExactMergeLedgersSpec)

/-- ITS FALSE NEIGHBOUR: 'it returns false'. Refute it at one input. -/
def fnExactMergeLedgersWrong : ChangeSpec := { name := "fnExactMergeLedgers", fn := fun _ => fun
  | [d1, d2] => { results := [.lit (.bool false)], args := [d1, d2] }
  | _ => none }
def FnExactMergeLedgersWrongFalsely : Prop := fnExactMergeLedgersRow.holds Try.pinned (OpenSpec.ofChange fnExactMergeLedgersWrong)

/- THE SECOND FORM. 'bulk': how many values and letters a reading holds, each counted each time it is reached (what is shared counts as often as it is met; a slice's spare places count too). A statement '..UptoSaid' is the law's where the arguments, and the package variables that the reading takes, are together of bulk at most 1048576: NARROWER than '..Said'. Prove '..Said' where nothing that the law and all that it calls make is longer than what came in: it says more and counts as full. Else prove '..UptoSaid'. A law counts once. -/
mutual
def uptoBulk {H : Type} : DataW H → Nat
  | .lit (.string bytes) => bytes.length + 1
  | .lit _ => 1
  | .nil => 1
  | .ptr d => uptoBulk d + 1
  | .slice elems spare => uptoBulkAll elems + uptoBulkAll spare + 1
  | .agg parts => uptoBulkAll parts + 1
  | .iface _ d => uptoBulk d + 1
  | .map entries => uptoBulkEntries entries + 1
  | .held _ => 1
def uptoBulkAll {H : Type} : List (DataW H) → Nat
  | [] => 0
  | d :: r => uptoBulk d + uptoBulkAll r
def uptoBulkEntries {H : Type} : List (Lit × DataW H) → Nat
  | [] => 0
  | x :: r => uptoBulkEntry x + uptoBulkEntries r
def uptoBulkEntry {H : Type} : Lit × DataW H → Nat
  | (.string bytes, d) => bytes.length + uptoBulk d + 1
  | (_, d) => uptoBulk d + 1
 end
def uptoSmall : (H : Type) → List (DataW H) → Bool := fun _ ds => decide (uptoBulkAll ds ≤ 1048576)
def OpenSpec.upto (s : _root_.Go.ChangeSpec) : _root_.Go.OpenSpec := { _root_.Go.OpenSpec.ofChange s with cond := some uptoSmall }

/-- 'laws.FnExactIsBehavior', WHERE WHAT IT READS IS OF BULK AT MOST 1048576: true; the input reads as it did. -/
def fnExactIsBehaviorUptoRow : OpenClaim := { program := "ytpjflcllpmjjiaa", sum := "c2a11180a6af647c25d61927a427de530887f5360039e1be37d958e696a09915", func := "loop.example/g00513/laws.FnExactIsBehavior", spec := "fnExactIsBehavior", apart := false, narrowed := true }
def FnExactIsBehaviorUptoSaid : Prop := fnExactIsBehaviorUptoRow.holds Try.pinned (OpenSpec.upto fnExactIsBehaviorSpec)

/-- 'laws.FnExactHonestNodes', WHERE WHAT IT READS IS OF BULK AT MOST 1048576: true; the input reads as it did. -/
def fnExactHonestNodesUptoRow : OpenClaim := { program := "ytpjflcllpmjjiaa", sum := "c2a11180a6af647c25d61927a427de530887f5360039e1be37d958e696a09915", func := "loop.example/g00513/laws.FnExactHonestNodes", spec := "fnExactHonestNodes", apart := false, narrowed := true }
def FnExactHonestNodesUptoSaid : Prop := fnExactHonestNodesUptoRow.holds Try.pinned (OpenSpec.upto fnExactHonestNodesSpec)

/-- 'laws.FnExactIsValidLedger', WHERE WHAT IT READS IS OF BULK AT MOST 1048576: true; the input reads as it did. -/
def fnExactIsValidLedgerUptoRow : OpenClaim := { program := "ytpjflcllpmjjiaa", sum := "c2a11180a6af647c25d61927a427de530887f5360039e1be37d958e696a09915", func := "loop.example/g00513/laws.FnExactIsValidLedger", spec := "fnExactIsValidLedger", apart := false, narrowed := true }
def FnExactIsValidLedgerUptoSaid : Prop := fnExactIsValidLedgerUptoRow.holds Try.pinned (OpenSpec.upto fnExactIsValidLedgerSpec)

/-- 'laws.FnExactUnitGraph', WHERE WHAT IT READS IS OF BULK AT MOST 1048576: true; the input reads as it did. -/
def fnExactUnitGraphUptoRow : OpenClaim := { program := "ytpjflcllpmjjiaa", sum := "c2a11180a6af647c25d61927a427de530887f5360039e1be37d958e696a09915", func := "loop.example/g00513/laws.FnExactUnitGraph", spec := "fnExactUnitGraph", apart := false, narrowed := true }
def FnExactUnitGraphUptoSaid : Prop := fnExactUnitGraphUptoRow.holds Try.pinned (OpenSpec.upto fnExactUnitGraphSpec)

/-- 'laws.FnExactExpelledNodes', WHERE WHAT IT READS IS OF BULK AT MOST 1048576: true; the input reads as it did. -/
def fnExactExpelledNodesUptoRow : OpenClaim := { program := "ytpjflcllpmjjiaa", sum := "c2a11180a6af647c25d61927a427de530887f5360039e1be37d958e696a09915", func := "loop.example/g00513/laws.FnExactExpelledNodes", spec := "fnExactExpelledNodes", apart := false, narrowed := true }
def FnExactExpelledNodesUptoSaid : Prop := fnExactExpelledNodesUptoRow.holds Try.pinned (OpenSpec.upto fnExactExpelledNodesSpec)

/-- 'laws.FnExactMergeLedgers', WHERE WHAT IT READS IS OF BULK AT MOST 1048576: true; the input reads as it did. -/
def fnExactMergeLedgersUptoRow : OpenClaim := { program := "ytpjflcllpmjjiaa", sum := "c2a11180a6af647c25d61927a427de530887f5360039e1be37d958e696a09915", func := "loop.example/g00513/laws.FnExactMergeLedgers", spec := "fnExactMergeLedgers", apart := false, narrowed := true }
def FnExactMergeLedgersUptoSaid : Prop := fnExactMergeLedgersUptoRow.holds Try.pinned (OpenSpec.upto fnExactMergeLedgersSpec)

end Rows
end Go.Proofs.Ytpjflcllpmjjiaa
