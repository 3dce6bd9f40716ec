/-
  DERIVED. GIVEN WITH THE SEED: THE CARDS: each row of YthfbfonjoekdcaaDoorRows.lean that lists a variable, with what it lists TIED to the program's text (the seventh form; the later family's looks); each row that meets fmt, with fmt's text TOLD by the authors' own Lean function (tested against real Go, not proved from fmt's source: count such statements apart). THE CARD IS WHAT COUNTS. Prove the row's statement (the work); the ties are given (YthfbfonjoekdcaaDoorTie.lean); close each card by the builder's one call (the guide's Derived/Test/ToyasCard.lean, 'card_holds'). Laid BY PROGRAM, IN A SANDBOX (cutbox-door.mjs). By AI agents, Wed Nov 11 2026. No macro, syntax, notation, axiom, sorry.
-/
import Derived.Test.YthfbfonjoekdcaaDoorRows
import GoSem.ClaimSeven
namespace Go.Proofs.YthfbfonjoekdcaaDoor
namespace Rows

/-- THE TIED CARD OF 'laws.FnExactBehaviorName'. -/
def fnExactBehaviorNameCard : Claim7 := { stood := { row := fnExactBehaviorNameRow, standIns := [], harness := (true, "0f92e132c3be3cff3d583bba18df0eabe0e5484aa33fd0e59eadf474d402a2a8"), looks := false }, kinds := [], alts := [], laidByText := true, laidKinds := [.widerDeep], laidTests := true, laidLooks := .later }
def FnExactBehaviorNameCardSaid : Prop := Claim7.holds Tryd.pinned (.plain (OpenSpec.ofChange fnExactBehaviorNameSpec)) fnExactBehaviorNameCard

/-- THE SECOND FORM's CARD OF 'laws.FnExactBehaviorName'. -/
def fnExactBehaviorNameUptoCard : Claim7 := { stood := { row := fnExactBehaviorNameUptoRow, standIns := [], harness := (true, "0f92e132c3be3cff3d583bba18df0eabe0e5484aa33fd0e59eadf474d402a2a8"), looks := false }, kinds := [], alts := [], laidByText := true, laidKinds := [.widerDeep], laidTests := true, laidLooks := .later }
def FnExactBehaviorNameUptoCardSaid : Prop := Claim7.holds Tryd.pinned (.plain (OpenSpec.upto fnExactBehaviorNameSpec)) fnExactBehaviorNameUptoCard
end Rows
end Go.Proofs.YthfbfonjoekdcaaDoor
