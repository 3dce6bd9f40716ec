/-
  DERIVED. GIVEN WITH THE SEED: THE CARDS: each row of YtpffjagdefkfkaaDoorRows.lean that lists a variable, with what it lists TIED to the program's text (the seventh form; the later family's looks); each row that meets fmt, with fmt's text TOLD by the authors' own Lean function (tested against real Go, not proved from fmt's source: count such statements apart). THE CARD IS WHAT COUNTS. Prove the row's statement (the work); the ties are given (YtpffjagdefkfkaaDoorTie.lean); close each card by the builder's one call (the guide's Derived/Test/ToyasCard.lean, 'card_holds'). Laid BY PROGRAM, IN A SANDBOX (cutbox-door.mjs). By AI agents, Wed Nov 11 2026. No macro, syntax, notation, axiom, sorry.
-/
import Derived.Test.YtpffjagdefkfkaaDoorRows
import GoSem.ClaimSeven
namespace Go.Proofs.YtpffjagdefkfkaaDoor
namespace Rows

/-- THE TIED CARD OF 'laws.FnMisbehavior'. -/
def fnMisbehaviorCard : Claim7 := { stood := { row := fnMisbehaviorRow, standIns := [], harness := (true, "2f2d9ce2261f04175c6dd4ebd62f1c7e668768e5287a0a47554fe28159e93382"), looks := false }, kinds := [], alts := [], laidByText := true, laidKinds := [.widerDeep], laidTests := true, laidLooks := .later }
def FnMisbehaviorCardSaid : Prop := Claim7.holds Tryd.pinned (.plain (OpenSpec.ofChange fnMisbehaviorSpec)) fnMisbehaviorCard

/-- THE SECOND FORM's CARD OF 'laws.FnMisbehavior'. -/
def fnMisbehaviorUptoCard : Claim7 := { stood := { row := fnMisbehaviorUptoRow, standIns := [], harness := (true, "2f2d9ce2261f04175c6dd4ebd62f1c7e668768e5287a0a47554fe28159e93382"), looks := false }, kinds := [], alts := [], laidByText := true, laidKinds := [.widerDeep], laidTests := true, laidLooks := .later }
def FnMisbehaviorUptoCardSaid : Prop := Claim7.holds Tryd.pinned (.plain (OpenSpec.upto fnMisbehaviorSpec)) fnMisbehaviorUptoCard
end Rows
end Go.Proofs.YtpffjagdefkfkaaDoor
