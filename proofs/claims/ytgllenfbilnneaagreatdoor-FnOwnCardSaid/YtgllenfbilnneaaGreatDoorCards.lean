/-
  DERIVED. GIVEN WITH THE SEED: THE CARDS: each row of YtgllenfbilnneaaGreatDoorRows.lean that lists a variable, with what it lists TIED to the program's text (the seventh form; the later family's looks); each row that meets fmt, with fmt's text TOLD by the authors' own Lean function (tested against real Go, not proved from fmt's source: count such statements apart). THE CARD IS WHAT COUNTS. Prove the row's statement (the work); the ties are given (YtgllenfbilnneaaGreatDoorTie.lean); close each card by the builder's one call (the guide's Derived/Test/ToyasCard.lean, 'card_holds'). Laid BY PROGRAM, IN A SANDBOX (cutbox-door.mjs). By AI agents, Wed Nov 11 2026. No macro, syntax, notation, axiom, sorry.
-/
import Derived.Test.YtgllenfbilnneaaGreatDoorRows
import GoSem.ClaimSeven
namespace Go.Proofs.YtgllenfbilnneaaGreatDoor
namespace Rows

/-- THE TIED CARD OF 'laws.FnExactPartStep'. -/
def fnExactPartStepCard : Claim7 := { stood := { row := fnExactPartStepRow, standIns := [], harness := (true, "37e9a9bf3a8e63c8512ae64b2c774f63797e5ca0092b0e5f27365856add6ec76"), looks := false }, kinds := [], alts := [], laidByText := true, laidKinds := [.data], laidTests := true, laidLooks := .later }
def FnExactPartStepCardSaid : Prop := Claim7.holds Tryz.pinned (.plain (OpenSpec.ofChange fnExactPartStepSpec)) fnExactPartStepCard

/-- THE TIED CARD OF 'laws.FnStep'. -/
def fnStepCard : Claim7 := { stood := { row := fnStepRow, standIns := [], harness := (true, "37e9a9bf3a8e63c8512ae64b2c774f63797e5ca0092b0e5f27365856add6ec76"), looks := false }, kinds := [], alts := [], laidByText := true, laidKinds := [.data], laidTests := true, laidLooks := .later }
def FnStepCardSaid : Prop := Claim7.holds Tryz.pinned (.plain (OpenSpec.ofChange fnStepSpec)) fnStepCard

/-- THE TIED CARD OF 'laws.FnOwn'. -/
def fnOwnCard : Claim7 := { stood := { row := fnOwnRow, standIns := [], harness := (true, "37e9a9bf3a8e63c8512ae64b2c774f63797e5ca0092b0e5f27365856add6ec76"), looks := false }, kinds := [], alts := [], laidByText := true, laidKinds := [.data], laidTests := true, laidLooks := .later }
def FnOwnCardSaid : Prop := Claim7.holds Tryz.pinned (.plain (OpenSpec.ofChange fnOwnSpec)) fnOwnCard

/-- THE TIED CARD OF 'laws.FnLonger'. -/
def fnLongerCard : Claim7 := { stood := { row := fnLongerRow, standIns := [], harness := (true, "37e9a9bf3a8e63c8512ae64b2c774f63797e5ca0092b0e5f27365856add6ec76"), looks := false }, kinds := [], alts := [], laidByText := true, laidKinds := [.data], laidTests := true, laidLooks := .later }
def FnLongerCardSaid : Prop := Claim7.holds Tryz.pinned (.plain (OpenSpec.ofChange fnLongerSpec)) fnLongerCard

/-- THE SECOND FORM's CARD OF 'laws.FnExactPartStep'. -/
def fnExactPartStepUptoCard : Claim7 := { stood := { row := fnExactPartStepUptoRow, standIns := [], harness := (true, "37e9a9bf3a8e63c8512ae64b2c774f63797e5ca0092b0e5f27365856add6ec76"), looks := false }, kinds := [], alts := [], laidByText := true, laidKinds := [.data], laidTests := true, laidLooks := .later }
def FnExactPartStepUptoCardSaid : Prop := Claim7.holds Tryz.pinned (.plain (OpenSpec.upto fnExactPartStepSpec)) fnExactPartStepUptoCard

/-- THE SECOND FORM's CARD OF 'laws.FnStep'. -/
def fnStepUptoCard : Claim7 := { stood := { row := fnStepUptoRow, standIns := [], harness := (true, "37e9a9bf3a8e63c8512ae64b2c774f63797e5ca0092b0e5f27365856add6ec76"), looks := false }, kinds := [], alts := [], laidByText := true, laidKinds := [.data], laidTests := true, laidLooks := .later }
def FnStepUptoCardSaid : Prop := Claim7.holds Tryz.pinned (.plain (OpenSpec.upto fnStepSpec)) fnStepUptoCard

/-- THE SECOND FORM's CARD OF 'laws.FnOwn'. -/
def fnOwnUptoCard : Claim7 := { stood := { row := fnOwnUptoRow, standIns := [], harness := (true, "37e9a9bf3a8e63c8512ae64b2c774f63797e5ca0092b0e5f27365856add6ec76"), looks := false }, kinds := [], alts := [], laidByText := true, laidKinds := [.data], laidTests := true, laidLooks := .later }
def FnOwnUptoCardSaid : Prop := Claim7.holds Tryz.pinned (.plain (OpenSpec.upto fnOwnSpec)) fnOwnUptoCard

/-- THE SECOND FORM's CARD OF 'laws.FnLonger'. -/
def fnLongerUptoCard : Claim7 := { stood := { row := fnLongerUptoRow, standIns := [], harness := (true, "37e9a9bf3a8e63c8512ae64b2c774f63797e5ca0092b0e5f27365856add6ec76"), looks := false }, kinds := [], alts := [], laidByText := true, laidKinds := [.data], laidTests := true, laidLooks := .later }
def FnLongerUptoCardSaid : Prop := Claim7.holds Tryz.pinned (.plain (OpenSpec.upto fnLongerSpec)) fnLongerUptoCard
end Rows
end Go.Proofs.YtgllenfbilnneaaGreatDoor
