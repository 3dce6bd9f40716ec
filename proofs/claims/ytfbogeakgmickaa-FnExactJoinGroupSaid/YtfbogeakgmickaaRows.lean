/-
  No cell of these rows narrows 'for every input' (looked for: loops, veiled, ifaces, maps, wideKeys, modest, calm, conditions, laid).
  DERIVED. THE GIVEN ROWS OF THIS SEAT. 12 by the template 'for every input the law returns true; each argument reads behind the call as it read before'; 0 by the template 'total and deterministic' (their statements: YtfbogeakgmickaaTotals.lean).
  GIVEN WITH THE SEED: the statements are not yours to turn. If you find one false, say at which input.
  Laid BY PROGRAM, IN A SANDBOX (cutbox-rows.mjs): the forced cells as the released guide's own fill.sh prints them over the translation 5aa37098e40e8e72… (all of the seat's roots in one cut). By AI agents, Wed Nov 11 2026. No macro, syntax, notation, axiom, sorry.
-/
import Derived.Test.YtfbogeakgmickaaChecked
import GoSem.Claim
import GoSem.ClaimJoined
import GoSem.ClaimMapViews
import Derived.JoinedTies
import Derived.KernelRfl
namespace Go.Proofs.Ytfbogeakgmickaa
/- THE CELL 'sum', in the pinned program and in every row, IS THE sha256 OF THE DUMP (.gsa) THAT YtfbogeakgmickaaProg.lean LOADS. Nothing in Lean hashes anything: it is a label: what it is worth is what the hold of that sum in a sandbox is worth. -/
noncomputable def Try.pinned : Pinned := { name := "ytfbogeakgmickaa", sum := "5aa37098e40e8e725078264cf98e36037d041b90d431e03124ce70dc1c0b4d8b", checked := Try.checked }
namespace Rows
def none {H : Type} : Left H := { results := [], args := [] }

/-- 'laws.FnExactMergeLedgers': WHATEVER THE INPUT: true; the input reads as it did. -/
def fnExactMergeLedgersSpec : ChangeSpec := { name := "fnExactMergeLedgers", fn := fun _ => fun
  | [d1, d2] => { results := [.lit (.bool true)], args := [d1, d2] }
  | _ => none }
def fnExactMergeLedgersRow : OpenClaim := { program := "ytfbogeakgmickaa", sum := "5aa37098e40e8e725078264cf98e36037d041b90d431e03124ce70dc1c0b4d8b", func := "loop.example/g00513/laws.FnExactMergeLedgers", spec := "fnExactMergeLedgers", apart := false }
def FnExactMergeLedgersSaid : Prop := fnExactMergeLedgersRow.holds Try.pinned (OpenSpec.ofChange fnExactMergeLedgersSpec)

/-- ITS FALSE NEIGHBOUR: 'it returns false'. Refute it at one input. -/
def fnExactMergeLedgersWrong : ChangeSpec := { name := "fnExactMergeLedgers", fn := fun _ => fun
  | [d1, d2] => { results := [.lit (.bool false)], args := [d1, d2] }
  | _ => none }
def FnExactMergeLedgersWrongFalsely : Prop := fnExactMergeLedgersRow.holds Try.pinned (OpenSpec.ofChange fnExactMergeLedgersWrong)

/-- 'laws.FnExactPolluteComponent': WHATEVER THE INPUT: true; the input reads as it did. -/
def fnExactPolluteComponentSpec : ChangeSpec := { name := "fnExactPolluteComponent", fn := fun _ => fun
  | [d1, d2, d3] => { results := [.lit (.bool true)], args := [d1, d2, d3] }
  | _ => none }
def fnExactPolluteComponentRow : OpenClaim := { program := "ytfbogeakgmickaa", sum := "5aa37098e40e8e725078264cf98e36037d041b90d431e03124ce70dc1c0b4d8b", func := "loop.example/g00513/laws.FnExactPolluteComponent", spec := "fnExactPolluteComponent", unfollowed := true, recurses := true, apart := false }
def FnExactPolluteComponentSaid : Prop := fnExactPolluteComponentRow.holds Try.pinned (OpenSpec.ofChange fnExactPolluteComponentSpec)

/-- ITS FALSE NEIGHBOUR: 'it returns false'. Refute it at one input. -/
def fnExactPolluteComponentWrong : ChangeSpec := { name := "fnExactPolluteComponent", fn := fun _ => fun
  | [d1, d2, d3] => { results := [.lit (.bool false)], args := [d1, d2, d3] }
  | _ => none }
def FnExactPolluteComponentWrongFalsely : Prop := fnExactPolluteComponentRow.holds Try.pinned (OpenSpec.ofChange fnExactPolluteComponentWrong)

/-- 'laws.FnExactWithoutHostile': WHATEVER THE INPUT: true; the input reads as it did. -/
def fnExactWithoutHostileSpec : ChangeSpec := { name := "fnExactWithoutHostile", fn := fun _ => fun
  | [d1, d2] => { results := [.lit (.bool true)], args := [d1, d2] }
  | _ => none }
def fnExactWithoutHostileRow : OpenClaim := { program := "ytfbogeakgmickaa", sum := "5aa37098e40e8e725078264cf98e36037d041b90d431e03124ce70dc1c0b4d8b", func := "loop.example/g00513/laws.FnExactWithoutHostile", spec := "fnExactWithoutHostile", unfollowed := true, recurses := true, apart := false }
def FnExactWithoutHostileSaid : Prop := fnExactWithoutHostileRow.holds Try.pinned (OpenSpec.ofChange fnExactWithoutHostileSpec)

/-- ITS FALSE NEIGHBOUR: 'it returns false'. Refute it at one input. -/
def fnExactWithoutHostileWrong : ChangeSpec := { name := "fnExactWithoutHostile", fn := fun _ => fun
  | [d1, d2] => { results := [.lit (.bool false)], args := [d1, d2] }
  | _ => none }
def FnExactWithoutHostileWrongFalsely : Prop := fnExactWithoutHostileRow.holds Try.pinned (OpenSpec.ofChange fnExactWithoutHostileWrong)

/-- 'laws.FnExactSignManifest': WHATEVER THE INPUT: true; the input reads as it did. -/
def fnExactSignManifestSpec : ChangeSpec := { name := "fnExactSignManifest", fn := fun _ => fun
  | [d1, d2] => { results := [.lit (.bool true)], args := [d1, d2] }
  | _ => none }
def fnExactSignManifestRow : OpenClaim := { program := "ytfbogeakgmickaa", sum := "5aa37098e40e8e725078264cf98e36037d041b90d431e03124ce70dc1c0b4d8b", func := "loop.example/g00513/laws.FnExactSignManifest", spec := "fnExactSignManifest", apart := false }
def FnExactSignManifestSaid : Prop := fnExactSignManifestRow.holds Try.pinned (OpenSpec.ofChange fnExactSignManifestSpec)

/-- ITS FALSE NEIGHBOUR: 'it returns false'. Refute it at one input. -/
def fnExactSignManifestWrong : ChangeSpec := { name := "fnExactSignManifest", fn := fun _ => fun
  | [d1, d2] => { results := [.lit (.bool false)], args := [d1, d2] }
  | _ => none }
def FnExactSignManifestWrongFalsely : Prop := fnExactSignManifestRow.holds Try.pinned (OpenSpec.ofChange fnExactSignManifestWrong)

/-- 'laws.FnExactLeaveGroup': WHATEVER THE INPUT: true; the input reads as it did. -/
def fnExactLeaveGroupSpec : ChangeSpec := { name := "fnExactLeaveGroup", fn := fun _ => fun
  | [d1, d2] => { results := [.lit (.bool true)], args := [d1, d2] }
  | _ => none }
def fnExactLeaveGroupRow : OpenClaim := { program := "ytfbogeakgmickaa", sum := "5aa37098e40e8e725078264cf98e36037d041b90d431e03124ce70dc1c0b4d8b", func := "loop.example/g00513/laws.FnExactLeaveGroup", spec := "fnExactLeaveGroup", apart := false }
def FnExactLeaveGroupSaid : Prop := fnExactLeaveGroupRow.holds Try.pinned (OpenSpec.ofChange fnExactLeaveGroupSpec)

/-- ITS FALSE NEIGHBOUR: 'it returns false'. Refute it at one input. -/
def fnExactLeaveGroupWrong : ChangeSpec := { name := "fnExactLeaveGroup", fn := fun _ => fun
  | [d1, d2] => { results := [.lit (.bool false)], args := [d1, d2] }
  | _ => none }
def FnExactLeaveGroupWrongFalsely : Prop := fnExactLeaveGroupRow.holds Try.pinned (OpenSpec.ofChange fnExactLeaveGroupWrong)

/-- 'laws.FnExactSendOnLink': WHATEVER THE INPUT: true; the input reads as it did. -/
def fnExactSendOnLinkSpec : ChangeSpec := { name := "fnExactSendOnLink", fn := fun _ => fun
  | [d1, d2, d3, d4, d5] => { results := [.lit (.bool true)], args := [d1, d2, d3, d4, d5] }
  | _ => none }
def fnExactSendOnLinkRow : OpenClaim := { program := "ytfbogeakgmickaa", sum := "5aa37098e40e8e725078264cf98e36037d041b90d431e03124ce70dc1c0b4d8b", func := "loop.example/g00513/laws.FnExactSendOnLink", spec := "fnExactSendOnLink", apart := false }
def FnExactSendOnLinkSaid : Prop := fnExactSendOnLinkRow.holds Try.pinned (OpenSpec.ofChange fnExactSendOnLinkSpec)

/-- ITS FALSE NEIGHBOUR: 'it returns false'. Refute it at one input. -/
def fnExactSendOnLinkWrong : ChangeSpec := { name := "fnExactSendOnLink", fn := fun _ => fun
  | [d1, d2, d3, d4, d5] => { results := [.lit (.bool false)], args := [d1, d2, d3, d4, d5] }
  | _ => none }
def FnExactSendOnLinkWrongFalsely : Prop := fnExactSendOnLinkRow.holds Try.pinned (OpenSpec.ofChange fnExactSendOnLinkWrong)

/-- 'laws.FnExactRelayGenerations': WHATEVER THE INPUT: true; the input reads as it did. -/
def fnExactRelayGenerationsSpec : ChangeSpec := { name := "fnExactRelayGenerations", fn := fun _ => fun
  | [d] => { results := [.lit (.bool true)], args := [d] }
  | _ => none }
def fnExactRelayGenerationsRow : OpenClaim := { program := "ytfbogeakgmickaa", sum := "5aa37098e40e8e725078264cf98e36037d041b90d431e03124ce70dc1c0b4d8b", func := "loop.example/g00513/laws.FnExactRelayGenerations", spec := "fnExactRelayGenerations", apart := false }
def FnExactRelayGenerationsSaid : Prop := fnExactRelayGenerationsRow.holds Try.pinned (OpenSpec.ofChange fnExactRelayGenerationsSpec)

/-- ITS FALSE NEIGHBOUR: 'it returns false'. Refute it at one input. -/
def fnExactRelayGenerationsWrong : ChangeSpec := { name := "fnExactRelayGenerations", fn := fun _ => fun
  | [d] => { results := [.lit (.bool false)], args := [d] }
  | _ => none }
def FnExactRelayGenerationsWrongFalsely : Prop := fnExactRelayGenerationsRow.holds Try.pinned (OpenSpec.ofChange fnExactRelayGenerationsWrong)

/-- 'laws.FnExactEqualRelays': WHATEVER THE INPUT: true; the input reads as it did. -/
def fnExactEqualRelaysSpec : ChangeSpec := { name := "fnExactEqualRelays", fn := fun _ => fun
  | [d1, d2] => { results := [.lit (.bool true)], args := [d1, d2] }
  | _ => none }
def fnExactEqualRelaysRow : OpenClaim := { program := "ytfbogeakgmickaa", sum := "5aa37098e40e8e725078264cf98e36037d041b90d431e03124ce70dc1c0b4d8b", func := "loop.example/g00513/laws.FnExactEqualRelays", spec := "fnExactEqualRelays", unfollowed := true, recurses := true, apart := false }
def FnExactEqualRelaysSaid : Prop := fnExactEqualRelaysRow.holds Try.pinned (OpenSpec.ofChange fnExactEqualRelaysSpec)

/-- ITS FALSE NEIGHBOUR: 'it returns false'. Refute it at one input. -/
def fnExactEqualRelaysWrong : ChangeSpec := { name := "fnExactEqualRelays", fn := fun _ => fun
  | [d1, d2] => { results := [.lit (.bool false)], args := [d1, d2] }
  | _ => none }
def FnExactEqualRelaysWrongFalsely : Prop := fnExactEqualRelaysRow.holds Try.pinned (OpenSpec.ofChange fnExactEqualRelaysWrong)

/-- 'laws.FnExactHonestGraph': WHATEVER THE INPUT: true; the input reads as it did. -/
def fnExactHonestGraphSpec : ChangeSpec := { name := "fnExactHonestGraph", fn := fun _ => fun
  | [d1, d2] => { results := [.lit (.bool true)], args := [d1, d2] }
  | _ => none }
def fnExactHonestGraphRow : OpenClaim := { program := "ytfbogeakgmickaa", sum := "5aa37098e40e8e725078264cf98e36037d041b90d431e03124ce70dc1c0b4d8b", func := "loop.example/g00513/laws.FnExactHonestGraph", spec := "fnExactHonestGraph", unfollowed := true, recurses := true, apart := false }
def FnExactHonestGraphSaid : Prop := fnExactHonestGraphRow.holds Try.pinned (OpenSpec.ofChange fnExactHonestGraphSpec)

/-- ITS FALSE NEIGHBOUR: 'it returns false'. Refute it at one input. -/
def fnExactHonestGraphWrong : ChangeSpec := { name := "fnExactHonestGraph", fn := fun _ => fun
  | [d1, d2] => { results := [.lit (.bool false)], args := [d1, d2] }
  | _ => none }
def FnExactHonestGraphWrongFalsely : Prop := fnExactHonestGraphRow.holds Try.pinned (OpenSpec.ofChange fnExactHonestGraphWrong)

/-- 'laws.FnExactNewSink': WHATEVER THE INPUT: true; the input reads as it did. -/
def fnExactNewSinkSpec : ChangeSpec := { name := "fnExactNewSink", fn := fun _ => fun
  | [d1, d2, d3] => { results := [.lit (.bool true)], args := [d1, d2, d3] }
  | _ => none }
def fnExactNewSinkRow : OpenClaim := { program := "ytfbogeakgmickaa", sum := "5aa37098e40e8e725078264cf98e36037d041b90d431e03124ce70dc1c0b4d8b", func := "loop.example/g00513/laws.FnExactNewSink", spec := "fnExactNewSink", unfollowed := true, recurses := true, apart := false }
def FnExactNewSinkSaid : Prop := fnExactNewSinkRow.holds Try.pinned (OpenSpec.ofChange fnExactNewSinkSpec)

/-- ITS FALSE NEIGHBOUR: 'it returns false'. Refute it at one input. -/
def fnExactNewSinkWrong : ChangeSpec := { name := "fnExactNewSink", fn := fun _ => fun
  | [d1, d2, d3] => { results := [.lit (.bool false)], args := [d1, d2, d3] }
  | _ => none }
def FnExactNewSinkWrongFalsely : Prop := fnExactNewSinkRow.holds Try.pinned (OpenSpec.ofChange fnExactNewSinkWrong)

/-- 'laws.FnExactJoinGroup': WHATEVER THE INPUT: true; the input reads as it did. -/
def fnExactJoinGroupSpec : ChangeSpec := { name := "fnExactJoinGroup", fn := fun _ => fun
  | [d1, d2] => { results := [.lit (.bool true)], args := [d1, d2] }
  | _ => none }
def fnExactJoinGroupRow : OpenClaim := { program := "ytfbogeakgmickaa", sum := "5aa37098e40e8e725078264cf98e36037d041b90d431e03124ce70dc1c0b4d8b", func := "loop.example/g00513/laws.FnExactJoinGroup", spec := "fnExactJoinGroup", inPlace := ["slices.overlaps[int]"], apart := false }
def FnExactJoinGroupSaid : Prop := fnExactJoinGroupRow.holds Try.pinned (OpenSpec.ofChange fnExactJoinGroupSpec)

/-- ITS FALSE NEIGHBOUR: 'it returns false'. Refute it at one input. -/
def fnExactJoinGroupWrong : ChangeSpec := { name := "fnExactJoinGroup", fn := fun _ => fun
  | [d1, d2] => { results := [.lit (.bool false)], args := [d1, d2] }
  | _ => none }
def FnExactJoinGroupWrongFalsely : Prop := fnExactJoinGroupRow.holds Try.pinned (OpenSpec.ofChange fnExactJoinGroupWrong)

/-- 'laws.FnExactDropGenerations': WHATEVER THE INPUT: true; the input reads as it did. -/
def fnExactDropGenerationsSpec : ChangeSpec := { name := "fnExactDropGenerations", fn := fun _ => fun
  | [d1, d2] => { results := [.lit (.bool true)], args := [d1, d2] }
  | _ => none }
def fnExactDropGenerationsRow : OpenClaim := { program := "ytfbogeakgmickaa", sum := "5aa37098e40e8e725078264cf98e36037d041b90d431e03124ce70dc1c0b4d8b", func := "loop.example/g00513/laws.FnExactDropGenerations", spec := "fnExactDropGenerations", apart := false }
def FnExactDropGenerationsSaid : Prop := fnExactDropGenerationsRow.holds Try.pinned (OpenSpec.ofChange fnExactDropGenerationsSpec)

/-- ITS FALSE NEIGHBOUR: 'it returns false'. Refute it at one input. -/
def fnExactDropGenerationsWrong : ChangeSpec := { name := "fnExactDropGenerations", fn := fun _ => fun
  | [d1, d2] => { results := [.lit (.bool false)], args := [d1, d2] }
  | _ => none }
def FnExactDropGenerationsWrongFalsely : Prop := fnExactDropGenerationsRow.holds Try.pinned (OpenSpec.ofChange fnExactDropGenerationsWrong)

/- THE SECOND FORM. 'bulk': how many values and letters a reading holds, each counted each time it is reached (what is shared counts as often as it is met; a slice's spare places count too). A statement '..UptoSaid' is the law's where the arguments, and the package variables that the reading takes, are together of bulk at most 1048576: NARROWER than '..Said'. Prove '..Said' where nothing that the law and all that it calls make is longer than what came in: it says more and counts as full. Else prove '..UptoSaid'. A law counts once. -/
mutual
def uptoBulk {H : Type} : DataW H → Nat
  | .lit (.string bytes) => bytes.length + 1
  | .lit _ => 1
  | .nil => 1
  | .ptr d => uptoBulk d + 1
  | .slice elems spare => uptoBulkAll elems + uptoBulkAll spare + 1
  | .agg parts => uptoBulkAll parts + 1
  | .iface _ d => uptoBulk d + 1
  | .map entries => uptoBulkEntries entries + 1
  | .held _ => 1
def uptoBulkAll {H : Type} : List (DataW H) → Nat
  | [] => 0
  | d :: r => uptoBulk d + uptoBulkAll r
def uptoBulkEntries {H : Type} : List (Lit × DataW H) → Nat
  | [] => 0
  | x :: r => uptoBulkEntry x + uptoBulkEntries r
def uptoBulkEntry {H : Type} : Lit × DataW H → Nat
  | (.string bytes, d) => bytes.length + uptoBulk d + 1
  | (_, d) => uptoBulk d + 1
 end
def uptoSmall : (H : Type) → List (DataW H) → Bool := fun _ ds => decide (uptoBulkAll ds ≤ 1048576)
def OpenSpec.upto (s : _root_.Go.ChangeSpec) : _root_.Go.OpenSpec := { _root_.Go.OpenSpec.ofChange s with cond := some uptoSmall }

/-- 'laws.FnExactMergeLedgers', WHERE WHAT IT READS IS OF BULK AT MOST 1048576: true; the input reads as it did. -/
def fnExactMergeLedgersUptoRow : OpenClaim := { program := "ytfbogeakgmickaa", sum := "5aa37098e40e8e725078264cf98e36037d041b90d431e03124ce70dc1c0b4d8b", func := "loop.example/g00513/laws.FnExactMergeLedgers", spec := "fnExactMergeLedgers", apart := false, narrowed := true }
def FnExactMergeLedgersUptoSaid : Prop := fnExactMergeLedgersUptoRow.holds Try.pinned (OpenSpec.upto fnExactMergeLedgersSpec)

/-- 'laws.FnExactPolluteComponent', WHERE WHAT IT READS IS OF BULK AT MOST 1048576: true; the input reads as it did. -/
def fnExactPolluteComponentUptoRow : OpenClaim := { program := "ytfbogeakgmickaa", sum := "5aa37098e40e8e725078264cf98e36037d041b90d431e03124ce70dc1c0b4d8b", func := "loop.example/g00513/laws.FnExactPolluteComponent", spec := "fnExactPolluteComponent", unfollowed := true, recurses := true, apart := false, narrowed := true }
def FnExactPolluteComponentUptoSaid : Prop := fnExactPolluteComponentUptoRow.holds Try.pinned (OpenSpec.upto fnExactPolluteComponentSpec)

/-- 'laws.FnExactWithoutHostile', WHERE WHAT IT READS IS OF BULK AT MOST 1048576: true; the input reads as it did. -/
def fnExactWithoutHostileUptoRow : OpenClaim := { program := "ytfbogeakgmickaa", sum := "5aa37098e40e8e725078264cf98e36037d041b90d431e03124ce70dc1c0b4d8b", func := "loop.example/g00513/laws.FnExactWithoutHostile", spec := "fnExactWithoutHostile", unfollowed := true, recurses := true, apart := false, narrowed := true }
def FnExactWithoutHostileUptoSaid : Prop := fnExactWithoutHostileUptoRow.holds Try.pinned (OpenSpec.upto fnExactWithoutHostileSpec)

/-- 'laws.FnExactSignManifest', WHERE WHAT IT READS IS OF BULK AT MOST 1048576: true; the input reads as it did. -/
def fnExactSignManifestUptoRow : OpenClaim := { program := "ytfbogeakgmickaa", sum := "5aa37098e40e8e725078264cf98e36037d041b90d431e03124ce70dc1c0b4d8b", func := "loop.example/g00513/laws.FnExactSignManifest", spec := "fnExactSignManifest", apart := false, narrowed := true }
def FnExactSignManifestUptoSaid : Prop := fnExactSignManifestUptoRow.holds Try.pinned (OpenSpec.upto fnExactSignManifestSpec)

/-- 'laws.FnExactLeaveGroup', WHERE WHAT IT READS IS OF BULK AT MOST 1048576: true; the input reads as it did. -/
def fnExactLeaveGroupUptoRow : OpenClaim := { program := "ytfbogeakgmickaa", sum := "5aa37098e40e8e725078264cf98e36037d041b90d431e03124ce70dc1c0b4d8b", func := "loop.example/g00513/laws.FnExactLeaveGroup", spec := "fnExactLeaveGroup", apart := false, narrowed := true }
def FnExactLeaveGroupUptoSaid : Prop := fnExactLeaveGroupUptoRow.holds Try.pinned (OpenSpec.upto fnExactLeaveGroupSpec)

/-- 'laws.FnExactSendOnLink', WHERE WHAT IT READS IS OF BULK AT MOST 1048576: true; the input reads as it did. -/
def fnExactSendOnLinkUptoRow : OpenClaim := { program := "ytfbogeakgmickaa", sum := "5aa37098e40e8e725078264cf98e36037d041b90d431e03124ce70dc1c0b4d8b", func := "loop.example/g00513/laws.FnExactSendOnLink", spec := "fnExactSendOnLink", apart := false, narrowed := true }
def FnExactSendOnLinkUptoSaid : Prop := fnExactSendOnLinkUptoRow.holds Try.pinned (OpenSpec.upto fnExactSendOnLinkSpec)

/-- 'laws.FnExactRelayGenerations', WHERE WHAT IT READS IS OF BULK AT MOST 1048576: true; the input reads as it did. -/
def fnExactRelayGenerationsUptoRow : OpenClaim := { program := "ytfbogeakgmickaa", sum := "5aa37098e40e8e725078264cf98e36037d041b90d431e03124ce70dc1c0b4d8b", func := "loop.example/g00513/laws.FnExactRelayGenerations", spec := "fnExactRelayGenerations", apart := false, narrowed := true }
def FnExactRelayGenerationsUptoSaid : Prop := fnExactRelayGenerationsUptoRow.holds Try.pinned (OpenSpec.upto fnExactRelayGenerationsSpec)

/-- 'laws.FnExactEqualRelays', WHERE WHAT IT READS IS OF BULK AT MOST 1048576: true; the input reads as it did. -/
def fnExactEqualRelaysUptoRow : OpenClaim := { program := "ytfbogeakgmickaa", sum := "5aa37098e40e8e725078264cf98e36037d041b90d431e03124ce70dc1c0b4d8b", func := "loop.example/g00513/laws.FnExactEqualRelays", spec := "fnExactEqualRelays", unfollowed := true, recurses := true, apart := false, narrowed := true }
def FnExactEqualRelaysUptoSaid : Prop := fnExactEqualRelaysUptoRow.holds Try.pinned (OpenSpec.upto fnExactEqualRelaysSpec)

/-- 'laws.FnExactHonestGraph', WHERE WHAT IT READS IS OF BULK AT MOST 1048576: true; the input reads as it did. -/
def fnExactHonestGraphUptoRow : OpenClaim := { program := "ytfbogeakgmickaa", sum := "5aa37098e40e8e725078264cf98e36037d041b90d431e03124ce70dc1c0b4d8b", func := "loop.example/g00513/laws.FnExactHonestGraph", spec := "fnExactHonestGraph", unfollowed := true, recurses := true, apart := false, narrowed := true }
def FnExactHonestGraphUptoSaid : Prop := fnExactHonestGraphUptoRow.holds Try.pinned (OpenSpec.upto fnExactHonestGraphSpec)

/-- 'laws.FnExactNewSink', WHERE WHAT IT READS IS OF BULK AT MOST 1048576: true; the input reads as it did. -/
def fnExactNewSinkUptoRow : OpenClaim := { program := "ytfbogeakgmickaa", sum := "5aa37098e40e8e725078264cf98e36037d041b90d431e03124ce70dc1c0b4d8b", func := "loop.example/g00513/laws.FnExactNewSink", spec := "fnExactNewSink", unfollowed := true, recurses := true, apart := false, narrowed := true }
def FnExactNewSinkUptoSaid : Prop := fnExactNewSinkUptoRow.holds Try.pinned (OpenSpec.upto fnExactNewSinkSpec)

/-- 'laws.FnExactJoinGroup', WHERE WHAT IT READS IS OF BULK AT MOST 1048576: true; the input reads as it did. -/
def fnExactJoinGroupUptoRow : OpenClaim := { program := "ytfbogeakgmickaa", sum := "5aa37098e40e8e725078264cf98e36037d041b90d431e03124ce70dc1c0b4d8b", func := "loop.example/g00513/laws.FnExactJoinGroup", spec := "fnExactJoinGroup", inPlace := ["slices.overlaps[int]"], apart := false, narrowed := true }
def FnExactJoinGroupUptoSaid : Prop := fnExactJoinGroupUptoRow.holds Try.pinned (OpenSpec.upto fnExactJoinGroupSpec)

/-- 'laws.FnExactDropGenerations', WHERE WHAT IT READS IS OF BULK AT MOST 1048576: true; the input reads as it did. -/
def fnExactDropGenerationsUptoRow : OpenClaim := { program := "ytfbogeakgmickaa", sum := "5aa37098e40e8e725078264cf98e36037d041b90d431e03124ce70dc1c0b4d8b", func := "loop.example/g00513/laws.FnExactDropGenerations", spec := "fnExactDropGenerations", apart := false, narrowed := true }
def FnExactDropGenerationsUptoSaid : Prop := fnExactDropGenerationsUptoRow.holds Try.pinned (OpenSpec.upto fnExactDropGenerationsSpec)

end Rows
end Go.Proofs.Ytfbogeakgmickaa
