/-
  No cell of these rows narrows 'for every input' (looked for: loops, veiled, ifaces, maps, wideKeys, modest, calm, conditions, laid).
  DERIVED. THE GIVEN ROWS OF THIS SEAT. 9 by the template 'for every input the law returns true; each argument reads behind the call as it read before'; 0 by the template 'total and deterministic' (their statements: YtdmkjcnppgfeoaaTotals.lean).
  GIVEN WITH THE SEED: the statements are not yours to turn. If you find one false, say at which input.
  Laid BY PROGRAM, IN A SANDBOX (cutbox-rows.mjs): the forced cells as the released guide's own fill.sh prints them over the translation c5ef79a93c2379c7… (all of the seat's roots in one cut). By AI agents, Wed Nov 11 2026. No macro, syntax, notation, axiom, sorry.
-/
import Derived.Test.YtdmkjcnppgfeoaaChecked
import GoSem.Claim
import GoSem.ClaimJoined
import GoSem.ClaimMapViews
import Derived.JoinedTies
import Derived.KernelRfl
namespace Go.Proofs.Ytdmkjcnppgfeoaa
/- THE CELL 'sum', in the pinned program and in every row, IS THE sha256 OF THE DUMP (.gsa) THAT YtdmkjcnppgfeoaaProg.lean LOADS. Nothing in Lean hashes anything: it is a label: what it is worth is what the hold of that sum in a sandbox is worth. -/
noncomputable def Try.pinned : Pinned := { name := "ytdmkjcnppgfeoaa", sum := "c5ef79a93c2379c7fc8f3293300700b5bdd4057e5f700b19343b88a6dfc13d02", checked := Try.checked }
namespace Rows
def none {H : Type} : Left H := { results := [], args := [] }

/-- 'laws.FnExactSinkComplete': WHATEVER THE INPUT: true; the input reads as it did. -/
def fnExactSinkCompleteSpec : ChangeSpec := { name := "fnExactSinkComplete", fn := fun _ => fun
  | [d] => { results := [.lit (.bool true)], args := [d] }
  | _ => none }
def fnExactSinkCompleteRow : OpenClaim := { program := "ytdmkjcnppgfeoaa", sum := "c5ef79a93c2379c7fc8f3293300700b5bdd4057e5f700b19343b88a6dfc13d02", func := "loop.example/g00513/laws.FnExactSinkComplete", spec := "fnExactSinkComplete", unfollowed := true, recurses := true, apart := false }
def FnExactSinkCompleteSaid : Prop := fnExactSinkCompleteRow.holds Try.pinned (OpenSpec.ofChange fnExactSinkCompleteSpec)

/-- ITS FALSE NEIGHBOUR: 'it returns false'. Refute it at one input. -/
def fnExactSinkCompleteWrong : ChangeSpec := { name := "fnExactSinkComplete", fn := fun _ => fun
  | [d] => { results := [.lit (.bool false)], args := [d] }
  | _ => none }
def FnExactSinkCompleteWrongFalsely : Prop := fnExactSinkCompleteRow.holds Try.pinned (OpenSpec.ofChange fnExactSinkCompleteWrong)

/-- 'laws.FnExactRecordProof': WHATEVER THE INPUT: true; the input reads as it did. -/
def fnExactRecordProofSpec : ChangeSpec := { name := "fnExactRecordProof", fn := fun _ => fun
  | [d1, d2, d3, d4, d5] => { results := [.lit (.bool true)], args := [d1, d2, d3, d4, d5] }
  | _ => none }
def fnExactRecordProofRow : OpenClaim := { program := "ytdmkjcnppgfeoaa", sum := "c5ef79a93c2379c7fc8f3293300700b5bdd4057e5f700b19343b88a6dfc13d02", func := "loop.example/g00513/laws.FnExactRecordProof", spec := "fnExactRecordProof", unfollowed := true, recurses := true, apart := false }
def FnExactRecordProofSaid : Prop := fnExactRecordProofRow.holds Try.pinned (OpenSpec.ofChange fnExactRecordProofSpec)

/-- ITS FALSE NEIGHBOUR: 'it returns false'. Refute it at one input. -/
def fnExactRecordProofWrong : ChangeSpec := { name := "fnExactRecordProof", fn := fun _ => fun
  | [d1, d2, d3, d4, d5] => { results := [.lit (.bool false)], args := [d1, d2, d3, d4, d5] }
  | _ => none }
def FnExactRecordProofWrongFalsely : Prop := fnExactRecordProofRow.holds Try.pinned (OpenSpec.ofChange fnExactRecordProofWrong)

/-- 'laws.FnExactMissingOf': WHATEVER THE INPUT: true; the input reads as it did. -/
def fnExactMissingOfSpec : ChangeSpec := { name := "fnExactMissingOf", fn := fun _ => fun
  | [d1, d2] => { results := [.lit (.bool true)], args := [d1, d2] }
  | _ => none }
def fnExactMissingOfRow : OpenClaim := { program := "ytdmkjcnppgfeoaa", sum := "c5ef79a93c2379c7fc8f3293300700b5bdd4057e5f700b19343b88a6dfc13d02", func := "loop.example/g00513/laws.FnExactMissingOf", spec := "fnExactMissingOf", unfollowed := true, recurses := true, apart := false }
def FnExactMissingOfSaid : Prop := fnExactMissingOfRow.holds Try.pinned (OpenSpec.ofChange fnExactMissingOfSpec)

/-- ITS FALSE NEIGHBOUR: 'it returns false'. Refute it at one input. -/
def fnExactMissingOfWrong : ChangeSpec := { name := "fnExactMissingOf", fn := fun _ => fun
  | [d1, d2] => { results := [.lit (.bool false)], args := [d1, d2] }
  | _ => none }
def FnExactMissingOfWrongFalsely : Prop := fnExactMissingOfRow.holds Try.pinned (OpenSpec.ofChange fnExactMissingOfWrong)

/-- 'laws.FnExactFillWindow': WHATEVER THE INPUT: true; the input reads as it did. -/
def fnExactFillWindowSpec : ChangeSpec := { name := "fnExactFillWindow", fn := fun _ => fun
  | [d] => { results := [.lit (.bool true)], args := [d] }
  | _ => none }
def fnExactFillWindowRow : OpenClaim := { program := "ytdmkjcnppgfeoaa", sum := "c5ef79a93c2379c7fc8f3293300700b5bdd4057e5f700b19343b88a6dfc13d02", func := "loop.example/g00513/laws.FnExactFillWindow", spec := "fnExactFillWindow", apart := false }
def FnExactFillWindowSaid : Prop := fnExactFillWindowRow.holds Try.pinned (OpenSpec.ofChange fnExactFillWindowSpec)

/-- ITS FALSE NEIGHBOUR: 'it returns false'. Refute it at one input. -/
def fnExactFillWindowWrong : ChangeSpec := { name := "fnExactFillWindow", fn := fun _ => fun
  | [d] => { results := [.lit (.bool false)], args := [d] }
  | _ => none }
def FnExactFillWindowWrongFalsely : Prop := fnExactFillWindowRow.holds Try.pinned (OpenSpec.ofChange fnExactFillWindowWrong)

/-- 'laws.FnExactIntersectionOf': WHATEVER THE INPUT: true; the input reads as it did. -/
def fnExactIntersectionOfSpec : ChangeSpec := { name := "fnExactIntersectionOf", fn := fun _ => fun
  | [d1, d2] => { results := [.lit (.bool true)], args := [d1, d2] }
  | _ => none }
def fnExactIntersectionOfRow : OpenClaim := { program := "ytdmkjcnppgfeoaa", sum := "c5ef79a93c2379c7fc8f3293300700b5bdd4057e5f700b19343b88a6dfc13d02", func := "loop.example/g00513/laws.FnExactIntersectionOf", spec := "fnExactIntersectionOf", inPlace := ["slices.overlaps[[]int]"], unfollowed := true, recurses := true, apart := false }
def FnExactIntersectionOfSaid : Prop := fnExactIntersectionOfRow.holds Try.pinned (OpenSpec.ofChange fnExactIntersectionOfSpec)

/-- ITS FALSE NEIGHBOUR: 'it returns false'. Refute it at one input. -/
def fnExactIntersectionOfWrong : ChangeSpec := { name := "fnExactIntersectionOf", fn := fun _ => fun
  | [d1, d2] => { results := [.lit (.bool false)], args := [d1, d2] }
  | _ => none }
def FnExactIntersectionOfWrongFalsely : Prop := fnExactIntersectionOfRow.holds Try.pinned (OpenSpec.ofChange fnExactIntersectionOfWrong)

/-- 'laws.FnExactAddPacket': WHATEVER THE INPUT: true; the input reads as it did. -/
def fnExactAddPacketSpec : ChangeSpec := { name := "fnExactAddPacket", fn := fun _ => fun
  | [d1, d2] => { results := [.lit (.bool true)], args := [d1, d2] }
  | _ => none }
def fnExactAddPacketRow : OpenClaim := { program := "ytdmkjcnppgfeoaa", sum := "c5ef79a93c2379c7fc8f3293300700b5bdd4057e5f700b19343b88a6dfc13d02", func := "loop.example/g00513/laws.FnExactAddPacket", spec := "fnExactAddPacket", inPlace := ["slices.overlaps[[]int]"], unfollowed := true, recurses := true, apart := false }
def FnExactAddPacketSaid : Prop := fnExactAddPacketRow.holds Try.pinned (OpenSpec.ofChange fnExactAddPacketSpec)

/-- ITS FALSE NEIGHBOUR: 'it returns false'. Refute it at one input. -/
def fnExactAddPacketWrong : ChangeSpec := { name := "fnExactAddPacket", fn := fun _ => fun
  | [d1, d2] => { results := [.lit (.bool false)], args := [d1, d2] }
  | _ => none }
def FnExactAddPacketWrongFalsely : Prop := fnExactAddPacketRow.holds Try.pinned (OpenSpec.ofChange fnExactAddPacketWrong)

/-- 'laws.FnExactRecode': WHATEVER THE INPUT: true; the input reads as it did. -/
def fnExactRecodeSpec : ChangeSpec := { name := "fnExactRecode", fn := fun _ => fun
  | [d1, d2] => { results := [.lit (.bool true)], args := [d1, d2] }
  | _ => none }
def fnExactRecodeRow : OpenClaim := { program := "ytdmkjcnppgfeoaa", sum := "c5ef79a93c2379c7fc8f3293300700b5bdd4057e5f700b19343b88a6dfc13d02", func := "loop.example/g00513/laws.FnExactRecode", spec := "fnExactRecode", inPlace := ["slices.overlaps[[]int]"], unfollowed := true, recurses := true, apart := false }
def FnExactRecodeSaid : Prop := fnExactRecodeRow.holds Try.pinned (OpenSpec.ofChange fnExactRecodeSpec)

/-- ITS FALSE NEIGHBOUR: 'it returns false'. Refute it at one input. -/
def fnExactRecodeWrong : ChangeSpec := { name := "fnExactRecode", fn := fun _ => fun
  | [d1, d2] => { results := [.lit (.bool false)], args := [d1, d2] }
  | _ => none }
def FnExactRecodeWrongFalsely : Prop := fnExactRecodeRow.holds Try.pinned (OpenSpec.ofChange fnExactRecodeWrong)

/-- 'laws.FnExactRelayReceive': WHATEVER THE INPUT: true; the input reads as it did. -/
def fnExactRelayReceiveSpec : ChangeSpec := { name := "fnExactRelayReceive", fn := fun _ => fun
  | [d1, d2] => { results := [.lit (.bool true)], args := [d1, d2] }
  | _ => none }
def fnExactRelayReceiveRow : OpenClaim := { program := "ytdmkjcnppgfeoaa", sum := "c5ef79a93c2379c7fc8f3293300700b5bdd4057e5f700b19343b88a6dfc13d02", func := "loop.example/g00513/laws.FnExactRelayReceive", spec := "fnExactRelayReceive", inPlace := ["slices.overlaps[[]int]", "slices.overlaps[loop.example/g00513/impl.Recoder]"], unfollowed := true, recurses := true, apart := false }
def FnExactRelayReceiveSaid : Prop := fnExactRelayReceiveRow.holds Try.pinned (OpenSpec.ofChange fnExactRelayReceiveSpec)

/-- ITS FALSE NEIGHBOUR: 'it returns false'. Refute it at one input. -/
def fnExactRelayReceiveWrong : ChangeSpec := { name := "fnExactRelayReceive", fn := fun _ => fun
  | [d1, d2] => { results := [.lit (.bool false)], args := [d1, d2] }
  | _ => none }
def FnExactRelayReceiveWrongFalsely : Prop := fnExactRelayReceiveRow.holds Try.pinned (OpenSpec.ofChange fnExactRelayReceiveWrong)

/-- 'laws.FnExactIsValidSource': WHATEVER THE INPUT: true; the input reads as it did. -/
def fnExactIsValidSourceSpec : ChangeSpec := { name := "fnExactIsValidSource", fn := fun _ => fun
  | [d] => { results := [.lit (.bool true)], args := [d] }
  | _ => none }
def fnExactIsValidSourceRow : OpenClaim := { program := "ytdmkjcnppgfeoaa", sum := "c5ef79a93c2379c7fc8f3293300700b5bdd4057e5f700b19343b88a6dfc13d02", func := "loop.example/g00513/laws.FnExactIsValidSource", spec := "fnExactIsValidSource", inPlace := ["slices.overlaps[[]int]"], unfollowed := true, recurses := true, apart := false }
def FnExactIsValidSourceSaid : Prop := fnExactIsValidSourceRow.holds Try.pinned (OpenSpec.ofChange fnExactIsValidSourceSpec)

/-- ITS FALSE NEIGHBOUR: 'it returns false'. Refute it at one input. -/
def fnExactIsValidSourceWrong : ChangeSpec := { name := "fnExactIsValidSource", fn := fun _ => fun
  | [d] => { results := [.lit (.bool false)], args := [d] }
  | _ => none }
def FnExactIsValidSourceWrongFalsely : Prop := fnExactIsValidSourceRow.holds Try.pinned (OpenSpec.ofChange fnExactIsValidSourceWrong)

/- THE SECOND FORM. 'bulk': how many values and letters a reading holds, each counted each time it is reached (what is shared counts as often as it is met; a slice's spare places count too). A statement '..UptoSaid' is the law's where the arguments, and the package variables that the reading takes, are together of bulk at most 1048576: NARROWER than '..Said'. Prove '..Said' where nothing that the law and all that it calls make is longer than what came in: it says more and counts as full. Else prove '..UptoSaid'. A law counts once. -/
mutual
def uptoBulk {H : Type} : DataW H → Nat
  | .lit (.string bytes) => bytes.length + 1
  | .lit _ => 1
  | .nil => 1
  | .ptr d => uptoBulk d + 1
  | .slice elems spare => uptoBulkAll elems + uptoBulkAll spare + 1
  | .agg parts => uptoBulkAll parts + 1
  | .iface _ d => uptoBulk d + 1
  | .map entries => uptoBulkEntries entries + 1
  | .held _ => 1
def uptoBulkAll {H : Type} : List (DataW H) → Nat
  | [] => 0
  | d :: r => uptoBulk d + uptoBulkAll r
def uptoBulkEntries {H : Type} : List (Lit × DataW H) → Nat
  | [] => 0
  | x :: r => uptoBulkEntry x + uptoBulkEntries r
def uptoBulkEntry {H : Type} : Lit × DataW H → Nat
  | (.string bytes, d) => bytes.length + uptoBulk d + 1
  | (_, d) => uptoBulk d + 1
 end
def uptoSmall : (H : Type) → List (DataW H) → Bool := fun _ ds => decide (uptoBulkAll ds ≤ 1048576)
def OpenSpec.upto (s : _root_.Go.ChangeSpec) : _root_.Go.OpenSpec := { _root_.Go.OpenSpec.ofChange s with cond := some uptoSmall }

/-- 'laws.FnExactSinkComplete', WHERE WHAT IT READS IS OF BULK AT MOST 1048576: true; the input reads as it did. -/
def fnExactSinkCompleteUptoRow : OpenClaim := { program := "ytdmkjcnppgfeoaa", sum := "c5ef79a93c2379c7fc8f3293300700b5bdd4057e5f700b19343b88a6dfc13d02", func := "loop.example/g00513/laws.FnExactSinkComplete", spec := "fnExactSinkComplete", unfollowed := true, recurses := true, apart := false, narrowed := true }
def FnExactSinkCompleteUptoSaid : Prop := fnExactSinkCompleteUptoRow.holds Try.pinned (OpenSpec.upto fnExactSinkCompleteSpec)

/-- 'laws.FnExactRecordProof', WHERE WHAT IT READS IS OF BULK AT MOST 1048576: true; the input reads as it did. -/
def fnExactRecordProofUptoRow : OpenClaim := { program := "ytdmkjcnppgfeoaa", sum := "c5ef79a93c2379c7fc8f3293300700b5bdd4057e5f700b19343b88a6dfc13d02", func := "loop.example/g00513/laws.FnExactRecordProof", spec := "fnExactRecordProof", unfollowed := true, recurses := true, apart := false, narrowed := true }
def FnExactRecordProofUptoSaid : Prop := fnExactRecordProofUptoRow.holds Try.pinned (OpenSpec.upto fnExactRecordProofSpec)

/-- 'laws.FnExactMissingOf', WHERE WHAT IT READS IS OF BULK AT MOST 1048576: true; the input reads as it did. -/
def fnExactMissingOfUptoRow : OpenClaim := { program := "ytdmkjcnppgfeoaa", sum := "c5ef79a93c2379c7fc8f3293300700b5bdd4057e5f700b19343b88a6dfc13d02", func := "loop.example/g00513/laws.FnExactMissingOf", spec := "fnExactMissingOf", unfollowed := true, recurses := true, apart := false, narrowed := true }
def FnExactMissingOfUptoSaid : Prop := fnExactMissingOfUptoRow.holds Try.pinned (OpenSpec.upto fnExactMissingOfSpec)

/-- 'laws.FnExactFillWindow', WHERE WHAT IT READS IS OF BULK AT MOST 1048576: true; the input reads as it did. -/
def fnExactFillWindowUptoRow : OpenClaim := { program := "ytdmkjcnppgfeoaa", sum := "c5ef79a93c2379c7fc8f3293300700b5bdd4057e5f700b19343b88a6dfc13d02", func := "loop.example/g00513/laws.FnExactFillWindow", spec := "fnExactFillWindow", apart := false, narrowed := true }
def FnExactFillWindowUptoSaid : Prop := fnExactFillWindowUptoRow.holds Try.pinned (OpenSpec.upto fnExactFillWindowSpec)

/-- 'laws.FnExactIntersectionOf', WHERE WHAT IT READS IS OF BULK AT MOST 1048576: true; the input reads as it did. -/
def fnExactIntersectionOfUptoRow : OpenClaim := { program := "ytdmkjcnppgfeoaa", sum := "c5ef79a93c2379c7fc8f3293300700b5bdd4057e5f700b19343b88a6dfc13d02", func := "loop.example/g00513/laws.FnExactIntersectionOf", spec := "fnExactIntersectionOf", inPlace := ["slices.overlaps[[]int]"], unfollowed := true, recurses := true, apart := false, narrowed := true }
def FnExactIntersectionOfUptoSaid : Prop := fnExactIntersectionOfUptoRow.holds Try.pinned (OpenSpec.upto fnExactIntersectionOfSpec)

/-- 'laws.FnExactAddPacket', WHERE WHAT IT READS IS OF BULK AT MOST 1048576: true; the input reads as it did. -/
def fnExactAddPacketUptoRow : OpenClaim := { program := "ytdmkjcnppgfeoaa", sum := "c5ef79a93c2379c7fc8f3293300700b5bdd4057e5f700b19343b88a6dfc13d02", func := "loop.example/g00513/laws.FnExactAddPacket", spec := "fnExactAddPacket", inPlace := ["slices.overlaps[[]int]"], unfollowed := true, recurses := true, apart := false, narrowed := true }
def FnExactAddPacketUptoSaid : Prop := fnExactAddPacketUptoRow.holds Try.pinned (OpenSpec.upto fnExactAddPacketSpec)

/-- 'laws.FnExactRecode', WHERE WHAT IT READS IS OF BULK AT MOST 1048576: true; the input reads as it did. -/
def fnExactRecodeUptoRow : OpenClaim := { program := "ytdmkjcnppgfeoaa", sum := "c5ef79a93c2379c7fc8f3293300700b5bdd4057e5f700b19343b88a6dfc13d02", func := "loop.example/g00513/laws.FnExactRecode", spec := "fnExactRecode", inPlace := ["slices.overlaps[[]int]"], unfollowed := true, recurses := true, apart := false, narrowed := true }
def FnExactRecodeUptoSaid : Prop := fnExactRecodeUptoRow.holds Try.pinned (OpenSpec.upto fnExactRecodeSpec)

/-- 'laws.FnExactRelayReceive', WHERE WHAT IT READS IS OF BULK AT MOST 1048576: true; the input reads as it did. -/
def fnExactRelayReceiveUptoRow : OpenClaim := { program := "ytdmkjcnppgfeoaa", sum := "c5ef79a93c2379c7fc8f3293300700b5bdd4057e5f700b19343b88a6dfc13d02", func := "loop.example/g00513/laws.FnExactRelayReceive", spec := "fnExactRelayReceive", inPlace := ["slices.overlaps[[]int]", "slices.overlaps[loop.example/g00513/impl.Recoder]"], unfollowed := true, recurses := true, apart := false, narrowed := true }
def FnExactRelayReceiveUptoSaid : Prop := fnExactRelayReceiveUptoRow.holds Try.pinned (OpenSpec.upto fnExactRelayReceiveSpec)

/-- 'laws.FnExactIsValidSource', WHERE WHAT IT READS IS OF BULK AT MOST 1048576: true; the input reads as it did. -/
def fnExactIsValidSourceUptoRow : OpenClaim := { program := "ytdmkjcnppgfeoaa", sum := "c5ef79a93c2379c7fc8f3293300700b5bdd4057e5f700b19343b88a6dfc13d02", func := "loop.example/g00513/laws.FnExactIsValidSource", spec := "fnExactIsValidSource", inPlace := ["slices.overlaps[[]int]"], unfollowed := true, recurses := true, apart := false, narrowed := true }
def FnExactIsValidSourceUptoSaid : Prop := fnExactIsValidSourceUptoRow.holds Try.pinned (OpenSpec.upto fnExactIsValidSourceSpec)

end Rows
end Go.Proofs.Ytdmkjcnppgfeoaa
