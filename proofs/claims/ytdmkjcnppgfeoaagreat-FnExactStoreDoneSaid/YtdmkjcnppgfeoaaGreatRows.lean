/-
  No cell of these rows narrows 'for every input' (looked for: loops, veiled, ifaces, maps, wideKeys, modest, calm, conditions, laid).
  DERIVED. THE GIVEN ROWS OF THIS SEAT. 3 by the template 'for every input the law returns true; each argument reads behind the call as it read before'; 0 by the template 'total and deterministic' (their statements: YtdmkjcnppgfeoaaGreatTotals.lean).
  GIVEN WITH THE SEED: the statements are not yours to turn. If you find one false, say at which input.
  Laid BY PROGRAM, IN A SANDBOX (cutbox-rows.mjs): the forced cells as the released guide's own fill.sh prints them over the translation bbbade46376dd55d… (all of the seat's roots in one cut). By AI agents, Wed Nov 11 2026. No macro, syntax, notation, axiom, sorry.
-/
import Derived.Test.YtdmkjcnppgfeoaaGreatChecked
import GoSem.Claim
import GoSem.ClaimJoined
import GoSem.ClaimMapViews
import Derived.JoinedTies
import Derived.KernelRfl
namespace Go.Proofs.YtdmkjcnppgfeoaaGreat
/- THE CELL 'sum', in the pinned program and in every row, IS THE sha256 OF THE DUMP (.gsa) THAT YtdmkjcnppgfeoaaGreatProg.lean LOADS. Nothing in Lean hashes anything: it is a label: what it is worth is what the hold of that sum in a sandbox is worth. -/
noncomputable def Tryz.pinned : Pinned := { name := "ytdmkjcnppgfeoaagreat", sum := "bbbade46376dd55d893ebad24f9e37484bfaee444708d1620d74228be3bdd52c", checked := Tryz.checked }
namespace Rows
def none {H : Type} : Left H := { results := [], args := [] }

/-- 'laws.FnExactStoreDone': WHATEVER THE INPUT: true; the input reads as it did. -/
def fnExactStoreDoneSpec : ChangeSpec := { name := "fnExactStoreDone", fn := fun _ => fun
  | [d] => { results := [.lit (.bool true)], args := [d] }
  | _ => none }
def fnExactStoreDoneRow : OpenClaim := { program := "ytdmkjcnppgfeoaagreat", sum := "bbbade46376dd55d893ebad24f9e37484bfaee444708d1620d74228be3bdd52c", func := "loop.example/g00513/laws.FnExactStoreDone", spec := "fnExactStoreDone", unfollowed := true, recurses := true, apart := false }
def FnExactStoreDoneSaid : Prop := fnExactStoreDoneRow.holds Tryz.pinned (OpenSpec.ofChange fnExactStoreDoneSpec)

/-- ITS FALSE NEIGHBOUR: 'it returns false'. Refute it at one input. -/
def fnExactStoreDoneWrong : ChangeSpec := { name := "fnExactStoreDone", fn := fun _ => fun
  | [d] => { results := [.lit (.bool false)], args := [d] }
  | _ => none }
def FnExactStoreDoneWrongFalsely : Prop := fnExactStoreDoneRow.holds Tryz.pinned (OpenSpec.ofChange fnExactStoreDoneWrong)

/-- 'laws.FnExactSystematicPacket': WHATEVER THE INPUT: true; the input reads as it did. -/
def fnExactSystematicPacketSpec : ChangeSpec := { name := "fnExactSystematicPacket", fn := fun _ => fun
  | [d1, d2, d3] => { results := [.lit (.bool true)], args := [d1, d2, d3] }
  | _ => none }
def fnExactSystematicPacketRow : OpenClaim := { program := "ytdmkjcnppgfeoaagreat", sum := "bbbade46376dd55d893ebad24f9e37484bfaee444708d1620d74228be3bdd52c", func := "loop.example/g00513/laws.FnExactSystematicPacket", spec := "fnExactSystematicPacket", inPlace := ["slices.overlaps[[]int]"], unfollowed := true, recurses := true, apart := false }
def FnExactSystematicPacketSaid : Prop := fnExactSystematicPacketRow.holds Tryz.pinned (OpenSpec.ofChange fnExactSystematicPacketSpec)

/-- ITS FALSE NEIGHBOUR: 'it returns false'. Refute it at one input. -/
def fnExactSystematicPacketWrong : ChangeSpec := { name := "fnExactSystematicPacket", fn := fun _ => fun
  | [d1, d2, d3] => { results := [.lit (.bool false)], args := [d1, d2, d3] }
  | _ => none }
def FnExactSystematicPacketWrongFalsely : Prop := fnExactSystematicPacketRow.holds Tryz.pinned (OpenSpec.ofChange fnExactSystematicPacketWrong)

/-- 'laws.FnExactSourceDone': WHATEVER THE INPUT: true; the input reads as it did. -/
def fnExactSourceDoneSpec : ChangeSpec := { name := "fnExactSourceDone", fn := fun _ => fun
  | [d] => { results := [.lit (.bool true)], args := [d] }
  | _ => none }
def fnExactSourceDoneRow : OpenClaim := { program := "ytdmkjcnppgfeoaagreat", sum := "bbbade46376dd55d893ebad24f9e37484bfaee444708d1620d74228be3bdd52c", func := "loop.example/g00513/laws.FnExactSourceDone", spec := "fnExactSourceDone", inPlace := ["slices.overlaps[[]int]"], unfollowed := true, recurses := true, apart := false }
def FnExactSourceDoneSaid : Prop := fnExactSourceDoneRow.holds Tryz.pinned (OpenSpec.ofChange fnExactSourceDoneSpec)

/-- ITS FALSE NEIGHBOUR: 'it returns false'. Refute it at one input. -/
def fnExactSourceDoneWrong : ChangeSpec := { name := "fnExactSourceDone", fn := fun _ => fun
  | [d] => { results := [.lit (.bool false)], args := [d] }
  | _ => none }
def FnExactSourceDoneWrongFalsely : Prop := fnExactSourceDoneRow.holds Tryz.pinned (OpenSpec.ofChange fnExactSourceDoneWrong)

/- THE SECOND FORM. 'bulk': how many values and letters a reading holds, each counted each time it is reached (what is shared counts as often as it is met; a slice's spare places count too). A statement '..UptoSaid' is the law's where the arguments, and the package variables that the reading takes, are together of bulk at most 1048576: NARROWER than '..Said'. Prove '..Said' where nothing that the law and all that it calls make is longer than what came in: it says more and counts as full. Else prove '..UptoSaid'. A law counts once. -/
mutual
def uptoBulk {H : Type} : DataW H → Nat
  | .lit (.string bytes) => bytes.length + 1
  | .lit _ => 1
  | .nil => 1
  | .ptr d => uptoBulk d + 1
  | .slice elems spare => uptoBulkAll elems + uptoBulkAll spare + 1
  | .agg parts => uptoBulkAll parts + 1
  | .iface _ d => uptoBulk d + 1
  | .map entries => uptoBulkEntries entries + 1
  | .held _ => 1
def uptoBulkAll {H : Type} : List (DataW H) → Nat
  | [] => 0
  | d :: r => uptoBulk d + uptoBulkAll r
def uptoBulkEntries {H : Type} : List (Lit × DataW H) → Nat
  | [] => 0
  | x :: r => uptoBulkEntry x + uptoBulkEntries r
def uptoBulkEntry {H : Type} : Lit × DataW H → Nat
  | (.string bytes, d) => bytes.length + uptoBulk d + 1
  | (_, d) => uptoBulk d + 1
 end
def uptoSmall : (H : Type) → List (DataW H) → Bool := fun _ ds => decide (uptoBulkAll ds ≤ 1048576)
def OpenSpec.upto (s : _root_.Go.ChangeSpec) : _root_.Go.OpenSpec := { _root_.Go.OpenSpec.ofChange s with cond := some uptoSmall }

/-- 'laws.FnExactStoreDone', WHERE WHAT IT READS IS OF BULK AT MOST 1048576: true; the input reads as it did. -/
def fnExactStoreDoneUptoRow : OpenClaim := { program := "ytdmkjcnppgfeoaagreat", sum := "bbbade46376dd55d893ebad24f9e37484bfaee444708d1620d74228be3bdd52c", func := "loop.example/g00513/laws.FnExactStoreDone", spec := "fnExactStoreDone", unfollowed := true, recurses := true, apart := false, narrowed := true }
def FnExactStoreDoneUptoSaid : Prop := fnExactStoreDoneUptoRow.holds Tryz.pinned (OpenSpec.upto fnExactStoreDoneSpec)

/-- 'laws.FnExactSystematicPacket', WHERE WHAT IT READS IS OF BULK AT MOST 1048576: true; the input reads as it did. -/
def fnExactSystematicPacketUptoRow : OpenClaim := { program := "ytdmkjcnppgfeoaagreat", sum := "bbbade46376dd55d893ebad24f9e37484bfaee444708d1620d74228be3bdd52c", func := "loop.example/g00513/laws.FnExactSystematicPacket", spec := "fnExactSystematicPacket", inPlace := ["slices.overlaps[[]int]"], unfollowed := true, recurses := true, apart := false, narrowed := true }
def FnExactSystematicPacketUptoSaid : Prop := fnExactSystematicPacketUptoRow.holds Tryz.pinned (OpenSpec.upto fnExactSystematicPacketSpec)

/-- 'laws.FnExactSourceDone', WHERE WHAT IT READS IS OF BULK AT MOST 1048576: true; the input reads as it did. -/
def fnExactSourceDoneUptoRow : OpenClaim := { program := "ytdmkjcnppgfeoaagreat", sum := "bbbade46376dd55d893ebad24f9e37484bfaee444708d1620d74228be3bdd52c", func := "loop.example/g00513/laws.FnExactSourceDone", spec := "fnExactSourceDone", inPlace := ["slices.overlaps[[]int]"], unfollowed := true, recurses := true, apart := false, narrowed := true }
def FnExactSourceDoneUptoSaid : Prop := fnExactSourceDoneUptoRow.holds Tryz.pinned (OpenSpec.upto fnExactSourceDoneSpec)

end Rows
end Go.Proofs.YtdmkjcnppgfeoaaGreat
