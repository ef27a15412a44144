/-
  DERIVED. GIVEN WITH THE SEED: THE CARDS: each row of YtilfadmopnamgaaGreatDoorRows.lean that lists a variable, with what it lists TIED to the program's text (the seventh form; the later family's looks); each row that meets fmt, with fmt's text TOLD by the authors' own Lean function (tested against real Go, not proved from fmt's source: count such statements apart). THE CARD IS WHAT COUNTS. Prove the row's statement (the work); the ties are given (YtilfadmopnamgaaGreatDoorTie.lean); close each card by the builder's one call (the guide's Derived/Test/ToyasCard.lean, 'card_holds'). Laid BY PROGRAM, IN A SANDBOX (cutbox-door.mjs). By AI agents, Wed Nov 11 2026. No macro, syntax, notation, axiom, sorry.
-/
import Derived.Test.YtilfadmopnamgaaGreatDoorRows
import GoSem.ClaimSeven
namespace Go.Proofs.YtilfadmopnamgaaGreatDoor
namespace Rows

/-- THE TIED CARD OF 'laws.FnExactPrintConf'. -/
def fnExactPrintConfCard : Claim7 := { stood := { row := fnExactPrintConfRow, standIns := [], harness := (true, "91f3da9f6cfd1b4c5cfe6d3b553f25dd49990af0bb796a5a580af5912f4391bf"), looks := false }, kinds := [], alts := [], laidByText := true, laidKinds := [.data, .data, .data], laidTests := true, laidLooks := .later }
def FnExactPrintConfCardSaid : Prop := Claim7.holds Tryz.pinned (.plain (OpenSpec.ofChange fnExactPrintConfSpec)) fnExactPrintConfCard

/-- THE SECOND FORM's CARD OF 'laws.FnExactPrintConf'. -/
def fnExactPrintConfUptoCard : Claim7 := { stood := { row := fnExactPrintConfUptoRow, standIns := [], harness := (true, "91f3da9f6cfd1b4c5cfe6d3b553f25dd49990af0bb796a5a580af5912f4391bf"), looks := false }, kinds := [], alts := [], laidByText := true, laidKinds := [.data, .data, .data], laidTests := true, laidLooks := .later }
def FnExactPrintConfUptoCardSaid : Prop := Claim7.holds Tryz.pinned (.plain (OpenSpec.upto fnExactPrintConfSpec)) fnExactPrintConfUptoCard
end Rows
end Go.Proofs.YtilfadmopnamgaaGreatDoor
