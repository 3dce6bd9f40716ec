/-
  No cell of these rows narrows 'for every input' (looked for: loops, veiled, ifaces, maps, wideKeys, modest, calm, conditions, laid).
  DERIVED. THE GIVEN ROWS OF THIS SEAT. 12 by the template 'for every input the law returns true; each argument reads behind the call as it read before'; 0 by the template 'total and deterministic' (their statements: YtkialoggpcdhkaaTotals.lean).
  GIVEN WITH THE SEED: the statements are not yours to turn. If you find one false, say at which input.
  Laid BY PROGRAM, IN A SANDBOX (cutbox-rows.mjs): the forced cells as the released guide's own fill.sh prints them over the translation ac3d72ea0d2a44e9… (all of the seat's roots in one cut). By AI agents, Wed Nov 11 2026. No macro, syntax, notation, axiom, sorry.
-/
import Derived.Test.YtkialoggpcdhkaaChecked
import GoSem.Claim
import GoSem.ClaimJoined
import GoSem.ClaimMapViews
import Derived.JoinedTies
import Derived.KernelRfl
namespace Go.Proofs.Ytkialoggpcdhkaa
/- THE CELL 'sum', in the pinned program and in every row, IS THE sha256 OF THE DUMP (.gsa) THAT YtkialoggpcdhkaaProg.lean LOADS. Nothing in Lean hashes anything: it is a label: what it is worth is what the hold of that sum in a sandbox is worth. -/
noncomputable def Try.pinned : Pinned := { name := "ytkialoggpcdhkaa", sum := "ac3d72ea0d2a44e9972459a2fb2b181d65fe9ab75800329d75b9ae54752537f0", checked := Try.checked }
namespace Rows
def none {H : Type} : Left H := { results := [], args := [] }

/-- 'laws.FnExactEqualSinks': WHATEVER THE INPUT: true; the input reads as it did. -/
def fnExactEqualSinksSpec : ChangeSpec := { name := "fnExactEqualSinks", fn := fun _ => fun
  | [d1, d2] => { results := [.lit (.bool true)], args := [d1, d2] }
  | _ => none }
def fnExactEqualSinksRow : OpenClaim := { program := "ytkialoggpcdhkaa", sum := "ac3d72ea0d2a44e9972459a2fb2b181d65fe9ab75800329d75b9ae54752537f0", func := "loop.example/g00513/laws.FnExactEqualSinks", spec := "fnExactEqualSinks", unfollowed := true, recurses := true, apart := false }
def FnExactEqualSinksSaid : Prop := fnExactEqualSinksRow.holds Try.pinned (OpenSpec.ofChange fnExactEqualSinksSpec)

/-- ITS FALSE NEIGHBOUR: 'it returns false'. Refute it at one input. -/
def fnExactEqualSinksWrong : ChangeSpec := { name := "fnExactEqualSinks", fn := fun _ => fun
  | [d1, d2] => { results := [.lit (.bool false)], args := [d1, d2] }
  | _ => none }
def FnExactEqualSinksWrongFalsely : Prop := fnExactEqualSinksRow.holds Try.pinned (OpenSpec.ofChange fnExactEqualSinksWrong)

/-- 'laws.FnExactFilterPackets': WHATEVER THE INPUT: true; the input reads as it did. -/
def fnExactFilterPacketsSpec : ChangeSpec := { name := "fnExactFilterPackets", fn := fun _ => fun
  | [d1, d2, d3] => { results := [.lit (.bool true)], args := [d1, d2, d3] }
  | _ => none }
def fnExactFilterPacketsRow : OpenClaim := { program := "ytkialoggpcdhkaa", sum := "ac3d72ea0d2a44e9972459a2fb2b181d65fe9ab75800329d75b9ae54752537f0", func := "loop.example/g00513/laws.FnExactFilterPackets", spec := "fnExactFilterPackets", unfollowed := true, recurses := true, apart := false }
def FnExactFilterPacketsSaid : Prop := fnExactFilterPacketsRow.holds Try.pinned (OpenSpec.ofChange fnExactFilterPacketsSpec)

/-- ITS FALSE NEIGHBOUR: 'it returns false'. Refute it at one input. -/
def fnExactFilterPacketsWrong : ChangeSpec := { name := "fnExactFilterPackets", fn := fun _ => fun
  | [d1, d2, d3] => { results := [.lit (.bool false)], args := [d1, d2, d3] }
  | _ => none }
def FnExactFilterPacketsWrongFalsely : Prop := fnExactFilterPacketsRow.holds Try.pinned (OpenSpec.ofChange fnExactFilterPacketsWrong)

/-- 'laws.FnExactSourceSizes': WHATEVER THE INPUT: true; the input reads as it did. -/
def fnExactSourceSizesSpec : ChangeSpec := { name := "fnExactSourceSizes", fn := fun _ => fun
  | [d] => { results := [.lit (.bool true)], args := [d] }
  | _ => none }
def fnExactSourceSizesRow : OpenClaim := { program := "ytkialoggpcdhkaa", sum := "ac3d72ea0d2a44e9972459a2fb2b181d65fe9ab75800329d75b9ae54752537f0", func := "loop.example/g00513/laws.FnExactSourceSizes", spec := "fnExactSourceSizes", apart := false }
def FnExactSourceSizesSaid : Prop := fnExactSourceSizesRow.holds Try.pinned (OpenSpec.ofChange fnExactSourceSizesSpec)

/-- ITS FALSE NEIGHBOUR: 'it returns false'. Refute it at one input. -/
def fnExactSourceSizesWrong : ChangeSpec := { name := "fnExactSourceSizes", fn := fun _ => fun
  | [d] => { results := [.lit (.bool false)], args := [d] }
  | _ => none }
def FnExactSourceSizesWrongFalsely : Prop := fnExactSourceSizesRow.holds Try.pinned (OpenSpec.ofChange fnExactSourceSizesWrong)

/-- 'laws.FnExactMakeManifest': WHATEVER THE INPUT: true; the input reads as it did. -/
def fnExactMakeManifestSpec : ChangeSpec := { name := "fnExactMakeManifest", fn := fun _ => fun
  | [d1, d2, d3, d4] => { results := [.lit (.bool true)], args := [d1, d2, d3, d4] }
  | _ => none }
def fnExactMakeManifestRow : OpenClaim := { program := "ytkialoggpcdhkaa", sum := "ac3d72ea0d2a44e9972459a2fb2b181d65fe9ab75800329d75b9ae54752537f0", func := "loop.example/g00513/laws.FnExactMakeManifest", spec := "fnExactMakeManifest", unfollowed := true, recurses := true, apart := false }
def FnExactMakeManifestSaid : Prop := fnExactMakeManifestRow.holds Try.pinned (OpenSpec.ofChange fnExactMakeManifestSpec)

/-- ITS FALSE NEIGHBOUR: 'it returns false'. Refute it at one input. -/
def fnExactMakeManifestWrong : ChangeSpec := { name := "fnExactMakeManifest", fn := fun _ => fun
  | [d1, d2, d3, d4] => { results := [.lit (.bool false)], args := [d1, d2, d3, d4] }
  | _ => none }
def FnExactMakeManifestWrongFalsely : Prop := fnExactMakeManifestRow.holds Try.pinned (OpenSpec.ofChange fnExactMakeManifestWrong)

/-- 'laws.FnExactEqualSources': WHATEVER THE INPUT: true; the input reads as it did. -/
def fnExactEqualSourcesSpec : ChangeSpec := { name := "fnExactEqualSources", fn := fun _ => fun
  | [d1, d2] => { results := [.lit (.bool true)], args := [d1, d2] }
  | _ => none }
def fnExactEqualSourcesRow : OpenClaim := { program := "ytkialoggpcdhkaa", sum := "ac3d72ea0d2a44e9972459a2fb2b181d65fe9ab75800329d75b9ae54752537f0", func := "loop.example/g00513/laws.FnExactEqualSources", spec := "fnExactEqualSources", unfollowed := true, recurses := true, apart := false }
def FnExactEqualSourcesSaid : Prop := fnExactEqualSourcesRow.holds Try.pinned (OpenSpec.ofChange fnExactEqualSourcesSpec)

/-- ITS FALSE NEIGHBOUR: 'it returns false'. Refute it at one input. -/
def fnExactEqualSourcesWrong : ChangeSpec := { name := "fnExactEqualSources", fn := fun _ => fun
  | [d1, d2] => { results := [.lit (.bool false)], args := [d1, d2] }
  | _ => none }
def FnExactEqualSourcesWrongFalsely : Prop := fnExactEqualSourcesRow.holds Try.pinned (OpenSpec.ofChange fnExactEqualSourcesWrong)

/-- 'laws.FnExactIsValidRelay': WHATEVER THE INPUT: true; the input reads as it did. -/
def fnExactIsValidRelaySpec : ChangeSpec := { name := "fnExactIsValidRelay", fn := fun _ => fun
  | [d] => { results := [.lit (.bool true)], args := [d] }
  | _ => none }
def fnExactIsValidRelayRow : OpenClaim := { program := "ytkialoggpcdhkaa", sum := "ac3d72ea0d2a44e9972459a2fb2b181d65fe9ab75800329d75b9ae54752537f0", func := "loop.example/g00513/laws.FnExactIsValidRelay", spec := "fnExactIsValidRelay", inPlace := ["slices.overlaps[[]int]"], unfollowed := true, recurses := true, apart := false }
def FnExactIsValidRelaySaid : Prop := fnExactIsValidRelayRow.holds Try.pinned (OpenSpec.ofChange fnExactIsValidRelaySpec)

/-- ITS FALSE NEIGHBOUR: 'it returns false'. Refute it at one input. -/
def fnExactIsValidRelayWrong : ChangeSpec := { name := "fnExactIsValidRelay", fn := fun _ => fun
  | [d] => { results := [.lit (.bool false)], args := [d] }
  | _ => none }
def FnExactIsValidRelayWrongFalsely : Prop := fnExactIsValidRelayRow.holds Try.pinned (OpenSpec.ofChange fnExactIsValidRelayWrong)

/-- 'laws.FnExactInnovationOf': WHATEVER THE INPUT: true; the input reads as it did. -/
def fnExactInnovationOfSpec : ChangeSpec := { name := "fnExactInnovationOf", fn := fun _ => fun
  | [d1, d2] => { results := [.lit (.bool true)], args := [d1, d2] }
  | _ => none }
def fnExactInnovationOfRow : OpenClaim := { program := "ytkialoggpcdhkaa", sum := "ac3d72ea0d2a44e9972459a2fb2b181d65fe9ab75800329d75b9ae54752537f0", func := "loop.example/g00513/laws.FnExactInnovationOf", spec := "fnExactInnovationOf", inPlace := ["slices.overlaps[[]int]"], unfollowed := true, recurses := true, apart := false }
def FnExactInnovationOfSaid : Prop := fnExactInnovationOfRow.holds Try.pinned (OpenSpec.ofChange fnExactInnovationOfSpec)

/-- ITS FALSE NEIGHBOUR: 'it returns false'. Refute it at one input. -/
def fnExactInnovationOfWrong : ChangeSpec := { name := "fnExactInnovationOf", fn := fun _ => fun
  | [d1, d2] => { results := [.lit (.bool false)], args := [d1, d2] }
  | _ => none }
def FnExactInnovationOfWrongFalsely : Prop := fnExactInnovationOfRow.holds Try.pinned (OpenSpec.ofChange fnExactInnovationOfWrong)

/-- 'laws.FnExactInsertVector': WHATEVER THE INPUT: true; the input reads as it did. -/
def fnExactInsertVectorSpec : ChangeSpec := { name := "fnExactInsertVector", fn := fun _ => fun
  | [d1, d2] => { results := [.lit (.bool true)], args := [d1, d2] }
  | _ => none }
def fnExactInsertVectorRow : OpenClaim := { program := "ytkialoggpcdhkaa", sum := "ac3d72ea0d2a44e9972459a2fb2b181d65fe9ab75800329d75b9ae54752537f0", func := "loop.example/g00513/laws.FnExactInsertVector", spec := "fnExactInsertVector", inPlace := ["slices.overlaps[[]int]"], unfollowed := true, recurses := true, apart := false }
def FnExactInsertVectorSaid : Prop := fnExactInsertVectorRow.holds Try.pinned (OpenSpec.ofChange fnExactInsertVectorSpec)

/-- ITS FALSE NEIGHBOUR: 'it returns false'. Refute it at one input. -/
def fnExactInsertVectorWrong : ChangeSpec := { name := "fnExactInsertVector", fn := fun _ => fun
  | [d1, d2] => { results := [.lit (.bool false)], args := [d1, d2] }
  | _ => none }
def FnExactInsertVectorWrongFalsely : Prop := fnExactInsertVectorRow.holds Try.pinned (OpenSpec.ofChange fnExactInsertVectorWrong)

/-- 'laws.FnExactSumOf': WHATEVER THE INPUT: true; the input reads as it did. -/
def fnExactSumOfSpec : ChangeSpec := { name := "fnExactSumOf", fn := fun _ => fun
  | [d1, d2] => { results := [.lit (.bool true)], args := [d1, d2] }
  | _ => none }
def fnExactSumOfRow : OpenClaim := { program := "ytkialoggpcdhkaa", sum := "ac3d72ea0d2a44e9972459a2fb2b181d65fe9ab75800329d75b9ae54752537f0", func := "loop.example/g00513/laws.FnExactSumOf", spec := "fnExactSumOf", inPlace := ["slices.overlaps[[]int]"], unfollowed := true, recurses := true, apart := false }
def FnExactSumOfSaid : Prop := fnExactSumOfRow.holds Try.pinned (OpenSpec.ofChange fnExactSumOfSpec)

/-- ITS FALSE NEIGHBOUR: 'it returns false'. Refute it at one input. -/
def fnExactSumOfWrong : ChangeSpec := { name := "fnExactSumOf", fn := fun _ => fun
  | [d1, d2] => { results := [.lit (.bool false)], args := [d1, d2] }
  | _ => none }
def FnExactSumOfWrongFalsely : Prop := fnExactSumOfRow.holds Try.pinned (OpenSpec.ofChange fnExactSumOfWrong)

/-- 'laws.FnExactAcceptPacket': WHATEVER THE INPUT: true; the input reads as it did. -/
def fnExactAcceptPacketSpec : ChangeSpec := { name := "fnExactAcceptPacket", fn := fun _ => fun
  | [d1, d2] => { results := [.lit (.bool true)], args := [d1, d2] }
  | _ => none }
def fnExactAcceptPacketRow : OpenClaim := { program := "ytkialoggpcdhkaa", sum := "ac3d72ea0d2a44e9972459a2fb2b181d65fe9ab75800329d75b9ae54752537f0", func := "loop.example/g00513/laws.FnExactAcceptPacket", spec := "fnExactAcceptPacket", inPlace := ["slices.overlaps[[]int]"], unfollowed := true, recurses := true, apart := false }
def FnExactAcceptPacketSaid : Prop := fnExactAcceptPacketRow.holds Try.pinned (OpenSpec.ofChange fnExactAcceptPacketSpec)

/-- ITS FALSE NEIGHBOUR: 'it returns false'. Refute it at one input. -/
def fnExactAcceptPacketWrong : ChangeSpec := { name := "fnExactAcceptPacket", fn := fun _ => fun
  | [d1, d2] => { results := [.lit (.bool false)], args := [d1, d2] }
  | _ => none }
def FnExactAcceptPacketWrongFalsely : Prop := fnExactAcceptPacketRow.holds Try.pinned (OpenSpec.ofChange fnExactAcceptPacketWrong)

/-- 'laws.FnExactRelayRank': WHATEVER THE INPUT: true; the input reads as it did. -/
def fnExactRelayRankSpec : ChangeSpec := { name := "fnExactRelayRank", fn := fun _ => fun
  | [d1, d2] => { results := [.lit (.bool true)], args := [d1, d2] }
  | _ => none }
def fnExactRelayRankRow : OpenClaim := { program := "ytkialoggpcdhkaa", sum := "ac3d72ea0d2a44e9972459a2fb2b181d65fe9ab75800329d75b9ae54752537f0", func := "loop.example/g00513/laws.FnExactRelayRank", spec := "fnExactRelayRank", inPlace := ["slices.overlaps[[]int]"], unfollowed := true, recurses := true, apart := false }
def FnExactRelayRankSaid : Prop := fnExactRelayRankRow.holds Try.pinned (OpenSpec.ofChange fnExactRelayRankSpec)

/-- ITS FALSE NEIGHBOUR: 'it returns false'. Refute it at one input. -/
def fnExactRelayRankWrong : ChangeSpec := { name := "fnExactRelayRank", fn := fun _ => fun
  | [d1, d2] => { results := [.lit (.bool false)], args := [d1, d2] }
  | _ => none }
def FnExactRelayRankWrongFalsely : Prop := fnExactRelayRankRow.holds Try.pinned (OpenSpec.ofChange fnExactRelayRankWrong)

/-- 'laws.FnExactIsValidSink': WHATEVER THE INPUT: true; the input reads as it did. -/
def fnExactIsValidSinkSpec : ChangeSpec := { name := "fnExactIsValidSink", fn := fun _ => fun
  | [d] => { results := [.lit (.bool true)], args := [d] }
  | _ => none }
def fnExactIsValidSinkRow : OpenClaim := { program := "ytkialoggpcdhkaa", sum := "ac3d72ea0d2a44e9972459a2fb2b181d65fe9ab75800329d75b9ae54752537f0", func := "loop.example/g00513/laws.FnExactIsValidSink", spec := "fnExactIsValidSink", unfollowed := true, recurses := true, apart := false }
def FnExactIsValidSinkSaid : Prop := fnExactIsValidSinkRow.holds Try.pinned (OpenSpec.ofChange fnExactIsValidSinkSpec)

/-- ITS FALSE NEIGHBOUR: 'it returns false'. Refute it at one input. -/
def fnExactIsValidSinkWrong : ChangeSpec := { name := "fnExactIsValidSink", fn := fun _ => fun
  | [d] => { results := [.lit (.bool false)], args := [d] }
  | _ => none }
def FnExactIsValidSinkWrongFalsely : Prop := fnExactIsValidSinkRow.holds Try.pinned (OpenSpec.ofChange fnExactIsValidSinkWrong)

/- THE SECOND FORM. 'bulk': how many values and letters a reading holds, each counted each time it is reached (what is shared counts as often as it is met; a slice's spare places count too). A statement '..UptoSaid' is the law's where the arguments, and the package variables that the reading takes, are together of bulk at most 1048576: NARROWER than '..Said'. Prove '..Said' where nothing that the law and all that it calls make is longer than what came in: it says more and counts as full. Else prove '..UptoSaid'. A law counts once. -/
mutual
def uptoBulk {H : Type} : DataW H → Nat
  | .lit (.string bytes) => bytes.length + 1
  | .lit _ => 1
  | .nil => 1
  | .ptr d => uptoBulk d + 1
  | .slice elems spare => uptoBulkAll elems + uptoBulkAll spare + 1
  | .agg parts => uptoBulkAll parts + 1
  | .iface _ d => uptoBulk d + 1
  | .map entries => uptoBulkEntries entries + 1
  | .held _ => 1
def uptoBulkAll {H : Type} : List (DataW H) → Nat
  | [] => 0
  | d :: r => uptoBulk d + uptoBulkAll r
def uptoBulkEntries {H : Type} : List (Lit × DataW H) → Nat
  | [] => 0
  | x :: r => uptoBulkEntry x + uptoBulkEntries r
def uptoBulkEntry {H : Type} : Lit × DataW H → Nat
  | (.string bytes, d) => bytes.length + uptoBulk d + 1
  | (_, d) => uptoBulk d + 1
 end
def uptoSmall : (H : Type) → List (DataW H) → Bool := fun _ ds => decide (uptoBulkAll ds ≤ 1048576)
def OpenSpec.upto (s : _root_.Go.ChangeSpec) : _root_.Go.OpenSpec := { _root_.Go.OpenSpec.ofChange s with cond := some uptoSmall }

/-- 'laws.FnExactEqualSinks', WHERE WHAT IT READS IS OF BULK AT MOST 1048576: true; the input reads as it did. -/
def fnExactEqualSinksUptoRow : OpenClaim := { program := "ytkialoggpcdhkaa", sum := "ac3d72ea0d2a44e9972459a2fb2b181d65fe9ab75800329d75b9ae54752537f0", func := "loop.example/g00513/laws.FnExactEqualSinks", spec := "fnExactEqualSinks", unfollowed := true, recurses := true, apart := false, narrowed := true }
def FnExactEqualSinksUptoSaid : Prop := fnExactEqualSinksUptoRow.holds Try.pinned (OpenSpec.upto fnExactEqualSinksSpec)

/-- 'laws.FnExactFilterPackets', WHERE WHAT IT READS IS OF BULK AT MOST 1048576: true; the input reads as it did. -/
def fnExactFilterPacketsUptoRow : OpenClaim := { program := "ytkialoggpcdhkaa", sum := "ac3d72ea0d2a44e9972459a2fb2b181d65fe9ab75800329d75b9ae54752537f0", func := "loop.example/g00513/laws.FnExactFilterPackets", spec := "fnExactFilterPackets", unfollowed := true, recurses := true, apart := false, narrowed := true }
def FnExactFilterPacketsUptoSaid : Prop := fnExactFilterPacketsUptoRow.holds Try.pinned (OpenSpec.upto fnExactFilterPacketsSpec)

/-- 'laws.FnExactSourceSizes', WHERE WHAT IT READS IS OF BULK AT MOST 1048576: true; the input reads as it did. -/
def fnExactSourceSizesUptoRow : OpenClaim := { program := "ytkialoggpcdhkaa", sum := "ac3d72ea0d2a44e9972459a2fb2b181d65fe9ab75800329d75b9ae54752537f0", func := "loop.example/g00513/laws.FnExactSourceSizes", spec := "fnExactSourceSizes", apart := false, narrowed := true }
def FnExactSourceSizesUptoSaid : Prop := fnExactSourceSizesUptoRow.holds Try.pinned (OpenSpec.upto fnExactSourceSizesSpec)

/-- 'laws.FnExactMakeManifest', WHERE WHAT IT READS IS OF BULK AT MOST 1048576: true; the input reads as it did. -/
def fnExactMakeManifestUptoRow : OpenClaim := { program := "ytkialoggpcdhkaa", sum := "ac3d72ea0d2a44e9972459a2fb2b181d65fe9ab75800329d75b9ae54752537f0", func := "loop.example/g00513/laws.FnExactMakeManifest", spec := "fnExactMakeManifest", unfollowed := true, recurses := true, apart := false, narrowed := true }
def FnExactMakeManifestUptoSaid : Prop := fnExactMakeManifestUptoRow.holds Try.pinned (OpenSpec.upto fnExactMakeManifestSpec)

/-- 'laws.FnExactEqualSources', WHERE WHAT IT READS IS OF BULK AT MOST 1048576: true; the input reads as it did. -/
def fnExactEqualSourcesUptoRow : OpenClaim := { program := "ytkialoggpcdhkaa", sum := "ac3d72ea0d2a44e9972459a2fb2b181d65fe9ab75800329d75b9ae54752537f0", func := "loop.example/g00513/laws.FnExactEqualSources", spec := "fnExactEqualSources", unfollowed := true, recurses := true, apart := false, narrowed := true }
def FnExactEqualSourcesUptoSaid : Prop := fnExactEqualSourcesUptoRow.holds Try.pinned (OpenSpec.upto fnExactEqualSourcesSpec)

/-- 'laws.FnExactIsValidRelay', WHERE WHAT IT READS IS OF BULK AT MOST 1048576: true; the input reads as it did. -/
def fnExactIsValidRelayUptoRow : OpenClaim := { program := "ytkialoggpcdhkaa", sum := "ac3d72ea0d2a44e9972459a2fb2b181d65fe9ab75800329d75b9ae54752537f0", func := "loop.example/g00513/laws.FnExactIsValidRelay", spec := "fnExactIsValidRelay", inPlace := ["slices.overlaps[[]int]"], unfollowed := true, recurses := true, apart := false, narrowed := true }
def FnExactIsValidRelayUptoSaid : Prop := fnExactIsValidRelayUptoRow.holds Try.pinned (OpenSpec.upto fnExactIsValidRelaySpec)

/-- 'laws.FnExactInnovationOf', WHERE WHAT IT READS IS OF BULK AT MOST 1048576: true; the input reads as it did. -/
def fnExactInnovationOfUptoRow : OpenClaim := { program := "ytkialoggpcdhkaa", sum := "ac3d72ea0d2a44e9972459a2fb2b181d65fe9ab75800329d75b9ae54752537f0", func := "loop.example/g00513/laws.FnExactInnovationOf", spec := "fnExactInnovationOf", inPlace := ["slices.overlaps[[]int]"], unfollowed := true, recurses := true, apart := false, narrowed := true }
def FnExactInnovationOfUptoSaid : Prop := fnExactInnovationOfUptoRow.holds Try.pinned (OpenSpec.upto fnExactInnovationOfSpec)

/-- 'laws.FnExactInsertVector', WHERE WHAT IT READS IS OF BULK AT MOST 1048576: true; the input reads as it did. -/
def fnExactInsertVectorUptoRow : OpenClaim := { program := "ytkialoggpcdhkaa", sum := "ac3d72ea0d2a44e9972459a2fb2b181d65fe9ab75800329d75b9ae54752537f0", func := "loop.example/g00513/laws.FnExactInsertVector", spec := "fnExactInsertVector", inPlace := ["slices.overlaps[[]int]"], unfollowed := true, recurses := true, apart := false, narrowed := true }
def FnExactInsertVectorUptoSaid : Prop := fnExactInsertVectorUptoRow.holds Try.pinned (OpenSpec.upto fnExactInsertVectorSpec)

/-- 'laws.FnExactSumOf', WHERE WHAT IT READS IS OF BULK AT MOST 1048576: true; the input reads as it did. -/
def fnExactSumOfUptoRow : OpenClaim := { program := "ytkialoggpcdhkaa", sum := "ac3d72ea0d2a44e9972459a2fb2b181d65fe9ab75800329d75b9ae54752537f0", func := "loop.example/g00513/laws.FnExactSumOf", spec := "fnExactSumOf", inPlace := ["slices.overlaps[[]int]"], unfollowed := true, recurses := true, apart := false, narrowed := true }
def FnExactSumOfUptoSaid : Prop := fnExactSumOfUptoRow.holds Try.pinned (OpenSpec.upto fnExactSumOfSpec)

/-- 'laws.FnExactAcceptPacket', WHERE WHAT IT READS IS OF BULK AT MOST 1048576: true; the input reads as it did. -/
def fnExactAcceptPacketUptoRow : OpenClaim := { program := "ytkialoggpcdhkaa", sum := "ac3d72ea0d2a44e9972459a2fb2b181d65fe9ab75800329d75b9ae54752537f0", func := "loop.example/g00513/laws.FnExactAcceptPacket", spec := "fnExactAcceptPacket", inPlace := ["slices.overlaps[[]int]"], unfollowed := true, recurses := true, apart := false, narrowed := true }
def FnExactAcceptPacketUptoSaid : Prop := fnExactAcceptPacketUptoRow.holds Try.pinned (OpenSpec.upto fnExactAcceptPacketSpec)

/-- 'laws.FnExactRelayRank', WHERE WHAT IT READS IS OF BULK AT MOST 1048576: true; the input reads as it did. -/
def fnExactRelayRankUptoRow : OpenClaim := { program := "ytkialoggpcdhkaa", sum := "ac3d72ea0d2a44e9972459a2fb2b181d65fe9ab75800329d75b9ae54752537f0", func := "loop.example/g00513/laws.FnExactRelayRank", spec := "fnExactRelayRank", inPlace := ["slices.overlaps[[]int]"], unfollowed := true, recurses := true, apart := false, narrowed := true }
def FnExactRelayRankUptoSaid : Prop := fnExactRelayRankUptoRow.holds Try.pinned (OpenSpec.upto fnExactRelayRankSpec)

/-- 'laws.FnExactIsValidSink', WHERE WHAT IT READS IS OF BULK AT MOST 1048576: true; the input reads as it did. -/
def fnExactIsValidSinkUptoRow : OpenClaim := { program := "ytkialoggpcdhkaa", sum := "ac3d72ea0d2a44e9972459a2fb2b181d65fe9ab75800329d75b9ae54752537f0", func := "loop.example/g00513/laws.FnExactIsValidSink", spec := "fnExactIsValidSink", unfollowed := true, recurses := true, apart := false, narrowed := true }
def FnExactIsValidSinkUptoSaid : Prop := fnExactIsValidSinkUptoRow.holds Try.pinned (OpenSpec.upto fnExactIsValidSinkSpec)

end Rows
end Go.Proofs.Ytkialoggpcdhkaa
