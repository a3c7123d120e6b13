/-
  DERIVED. GIVEN WITH THE SEED: THE CARDS: each row of YtnippamifihdpaaGreatDoorRows.lean that lists a variable, with what it lists TIED to the program's text (the seventh form; the later family's looks); each row that meets fmt, with fmt's text TOLD by the authors' own Lean function (tested against real Go, not proved from fmt's source: count such statements apart). THE CARD IS WHAT COUNTS. Prove the row's statement (the work); the ties are given (YtnippamifihdpaaGreatDoorTie.lean); close each card by the builder's one call (the guide's Derived/Test/ToyasCard.lean, 'card_holds'). Laid BY PROGRAM, IN A SANDBOX (cutbox-door.mjs). By AI agents, Wed Nov 11 2026. No macro, syntax, notation, axiom, sorry.
-/
import Derived.Test.YtnippamifihdpaaGreatDoorRows
import GoSem.ClaimSeven
namespace Go.Proofs.YtnippamifihdpaaGreatDoor
namespace Rows

/-- THE TIED CARD OF 'provostlaw09.OrgLoans'. -/
def orgLoansCard : Claim7 := { stood := { row := orgLoansRow, standIns := [], harness := (true, "ebbb8ef87f19201606d90283d665b55d355c859b1cf450231a94567d56a75f4b"), looks := true }, kinds := [], alts := [], laidByText := true, laidKinds := [.data], laidTests := true, laidLooks := .later }
def OrgLoansCardSaid : Prop := Claim7.holds Tryz.pinned (.plain (OpenSpec.ofChange orgLoansSpec)) orgLoansCard

/-- THE TIED CARD OF 'provostlaw09.OrgHeld'. -/
def orgHeldCard : Claim7 := { stood := { row := orgHeldRow, standIns := [], harness := (true, "ebbb8ef87f19201606d90283d665b55d355c859b1cf450231a94567d56a75f4b"), looks := true }, kinds := [], alts := [], laidByText := true, laidKinds := [.data], laidTests := true, laidLooks := .later }
def OrgHeldCardSaid : Prop := Claim7.holds Tryz.pinned (.plain (OpenSpec.ofChange orgHeldSpec)) orgHeldCard

/-- THE TIED CARD OF 'provostlaw09.OrgRefused'. -/
def orgRefusedCard : Claim7 := { stood := { row := orgRefusedRow, standIns := [], harness := (true, "ebbb8ef87f19201606d90283d665b55d355c859b1cf450231a94567d56a75f4b"), looks := true }, kinds := [], alts := [], laidByText := true, laidKinds := [.data], laidTests := true, laidLooks := .later }
def OrgRefusedCardSaid : Prop := Claim7.holds Tryz.pinned (.plain (OpenSpec.ofChange orgRefusedSpec)) orgRefusedCard

/-- THE TIED CARD OF 'provostlaw09.OrgUndone'. -/
def orgUndoneCard : Claim7 := { stood := { row := orgUndoneRow, standIns := [], harness := (true, "ebbb8ef87f19201606d90283d665b55d355c859b1cf450231a94567d56a75f4b"), looks := true }, kinds := [], alts := [], laidByText := true, laidKinds := [.data], laidTests := true, laidLooks := .later }
def OrgUndoneCardSaid : Prop := Claim7.holds Tryz.pinned (.plain (OpenSpec.ofChange orgUndoneSpec)) orgUndoneCard

/-- THE TIED CARD OF 'provostlaw09.OrgOwn'. -/
def orgOwnCard : Claim7 := { stood := { row := orgOwnRow, standIns := [], harness := (true, "ebbb8ef87f19201606d90283d665b55d355c859b1cf450231a94567d56a75f4b"), looks := true }, kinds := [], alts := [], laidByText := true, laidKinds := [.data], laidTests := true, laidLooks := .later }
def OrgOwnCardSaid : Prop := Claim7.holds Tryz.pinned (.plain (OpenSpec.ofChange orgOwnSpec)) orgOwnCard

/-- THE TIED CARD OF 'provostlaw09.OrgExact'. -/
def orgExactCard : Claim7 := { stood := { row := orgExactRow, standIns := [], harness := (true, "ebbb8ef87f19201606d90283d665b55d355c859b1cf450231a94567d56a75f4b"), looks := true }, kinds := [], alts := [], laidByText := true, laidKinds := [.data], laidTests := true, laidLooks := .later }
def OrgExactCardSaid : Prop := Claim7.holds Tryz.pinned (.plain (OpenSpec.ofChange orgExactSpec)) orgExactCard

/-- THE TIED CARD OF 'provostlaw10.RollPlace'. -/
def rollPlaceCard : Claim7 := { stood := { row := rollPlaceRow, standIns := [], harness := (true, "ebbb8ef87f19201606d90283d665b55d355c859b1cf450231a94567d56a75f4b"), looks := true }, kinds := [], alts := [], laidByText := true, laidKinds := [.data, .data, .data, .data, .listed, .data, .pinned], laidTests := true, laidLooks := .later }
def RollPlaceCardSaid : Prop := Claim7.holds Tryz.pinned (.plain (OpenSpec.ofChange rollPlaceSpec)) rollPlaceCard

/-- THE TIED CARD OF 'provostlaw10.RollParse'. -/
def rollParseCard : Claim7 := { stood := { row := rollParseRow, standIns := [], harness := (true, "ebbb8ef87f19201606d90283d665b55d355c859b1cf450231a94567d56a75f4b"), looks := true }, kinds := [], alts := [], laidByText := true, laidKinds := [.data, .data, .data, .data, .listed, .data, .pinned], laidTests := true, laidLooks := .later }
def RollParseCardSaid : Prop := Claim7.holds Tryz.pinned (.plain (OpenSpec.ofChange rollParseSpec)) rollParseCard

/-- THE TIED CARD OF 'provostlaw10.RollPrint'. -/
def rollPrintCard : Claim7 := { stood := { row := rollPrintRow, standIns := [], harness := (true, "ebbb8ef87f19201606d90283d665b55d355c859b1cf450231a94567d56a75f4b"), looks := true }, kinds := [], alts := [], laidByText := true, laidKinds := [.data, .data, .data, .data, .listed, .data, .pinned], laidTests := true, laidLooks := .later }
def RollPrintCardSaid : Prop := Claim7.holds Tryz.pinned (.plain (OpenSpec.ofChange rollPrintSpec)) rollPrintCard

/-- THE TIED CARD OF 'provostlaw10.RollApart'. -/
def rollApartCard : Claim7 := { stood := { row := rollApartRow, standIns := [], harness := (true, "ebbb8ef87f19201606d90283d665b55d355c859b1cf450231a94567d56a75f4b"), looks := true }, kinds := [], alts := [], laidByText := true, laidKinds := [.data, .data, .data, .data, .listed, .data, .pinned], laidTests := true, laidLooks := .later }
def RollApartCardSaid : Prop := Claim7.holds Tryz.pinned (.plain (OpenSpec.ofChange rollApartSpec)) rollApartCard

/-- THE TIED CARD OF 'provostlaw10.RollBack'. -/
def rollBackCard : Claim7 := { stood := { row := rollBackRow, standIns := [], harness := (true, "ebbb8ef87f19201606d90283d665b55d355c859b1cf450231a94567d56a75f4b"), looks := true }, kinds := [], alts := [], laidByText := true, laidKinds := [.data, .data, .data, .data, .listed, .data, .pinned], laidTests := true, laidLooks := .later }
def RollBackCardSaid : Prop := Claim7.holds Tryz.pinned (.plain (OpenSpec.ofChange rollBackSpec)) rollBackCard

/-- THE SECOND FORM's CARD OF 'provostlaw09.OrgLoans'. -/
def orgLoansUptoCard : Claim7 := { stood := { row := orgLoansUptoRow, standIns := [], harness := (true, "ebbb8ef87f19201606d90283d665b55d355c859b1cf450231a94567d56a75f4b"), looks := true }, kinds := [], alts := [], laidByText := true, laidKinds := [.data], laidTests := true, laidLooks := .later }
def OrgLoansUptoCardSaid : Prop := Claim7.holds Tryz.pinned (.plain (OpenSpec.upto orgLoansSpec)) orgLoansUptoCard

/-- THE SECOND FORM's CARD OF 'provostlaw09.OrgHeld'. -/
def orgHeldUptoCard : Claim7 := { stood := { row := orgHeldUptoRow, standIns := [], harness := (true, "ebbb8ef87f19201606d90283d665b55d355c859b1cf450231a94567d56a75f4b"), looks := true }, kinds := [], alts := [], laidByText := true, laidKinds := [.data], laidTests := true, laidLooks := .later }
def OrgHeldUptoCardSaid : Prop := Claim7.holds Tryz.pinned (.plain (OpenSpec.upto orgHeldSpec)) orgHeldUptoCard

/-- THE SECOND FORM's CARD OF 'provostlaw09.OrgRefused'. -/
def orgRefusedUptoCard : Claim7 := { stood := { row := orgRefusedUptoRow, standIns := [], harness := (true, "ebbb8ef87f19201606d90283d665b55d355c859b1cf450231a94567d56a75f4b"), looks := true }, kinds := [], alts := [], laidByText := true, laidKinds := [.data], laidTests := true, laidLooks := .later }
def OrgRefusedUptoCardSaid : Prop := Claim7.holds Tryz.pinned (.plain (OpenSpec.upto orgRefusedSpec)) orgRefusedUptoCard

/-- THE SECOND FORM's CARD OF 'provostlaw09.OrgUndone'. -/
def orgUndoneUptoCard : Claim7 := { stood := { row := orgUndoneUptoRow, standIns := [], harness := (true, "ebbb8ef87f19201606d90283d665b55d355c859b1cf450231a94567d56a75f4b"), looks := true }, kinds := [], alts := [], laidByText := true, laidKinds := [.data], laidTests := true, laidLooks := .later }
def OrgUndoneUptoCardSaid : Prop := Claim7.holds Tryz.pinned (.plain (OpenSpec.upto orgUndoneSpec)) orgUndoneUptoCard

/-- THE SECOND FORM's CARD OF 'provostlaw09.OrgOwn'. -/
def orgOwnUptoCard : Claim7 := { stood := { row := orgOwnUptoRow, standIns := [], harness := (true, "ebbb8ef87f19201606d90283d665b55d355c859b1cf450231a94567d56a75f4b"), looks := true }, kinds := [], alts := [], laidByText := true, laidKinds := [.data], laidTests := true, laidLooks := .later }
def OrgOwnUptoCardSaid : Prop := Claim7.holds Tryz.pinned (.plain (OpenSpec.upto orgOwnSpec)) orgOwnUptoCard

/-- THE SECOND FORM's CARD OF 'provostlaw09.OrgExact'. -/
def orgExactUptoCard : Claim7 := { stood := { row := orgExactUptoRow, standIns := [], harness := (true, "ebbb8ef87f19201606d90283d665b55d355c859b1cf450231a94567d56a75f4b"), looks := true }, kinds := [], alts := [], laidByText := true, laidKinds := [.data], laidTests := true, laidLooks := .later }
def OrgExactUptoCardSaid : Prop := Claim7.holds Tryz.pinned (.plain (OpenSpec.upto orgExactSpec)) orgExactUptoCard

/-- THE SECOND FORM's CARD OF 'provostlaw10.RollPlace'. -/
def rollPlaceUptoCard : Claim7 := { stood := { row := rollPlaceUptoRow, standIns := [], harness := (true, "ebbb8ef87f19201606d90283d665b55d355c859b1cf450231a94567d56a75f4b"), looks := true }, kinds := [], alts := [], laidByText := true, laidKinds := [.data, .data, .data, .data, .listed, .data, .pinned], laidTests := true, laidLooks := .later }
def RollPlaceUptoCardSaid : Prop := Claim7.holds Tryz.pinned (.plain (OpenSpec.upto rollPlaceSpec)) rollPlaceUptoCard

/-- THE SECOND FORM's CARD OF 'provostlaw10.RollParse'. -/
def rollParseUptoCard : Claim7 := { stood := { row := rollParseUptoRow, standIns := [], harness := (true, "ebbb8ef87f19201606d90283d665b55d355c859b1cf450231a94567d56a75f4b"), looks := true }, kinds := [], alts := [], laidByText := true, laidKinds := [.data, .data, .data, .data, .listed, .data, .pinned], laidTests := true, laidLooks := .later }
def RollParseUptoCardSaid : Prop := Claim7.holds Tryz.pinned (.plain (OpenSpec.upto rollParseSpec)) rollParseUptoCard

/-- THE SECOND FORM's CARD OF 'provostlaw10.RollPrint'. -/
def rollPrintUptoCard : Claim7 := { stood := { row := rollPrintUptoRow, standIns := [], harness := (true, "ebbb8ef87f19201606d90283d665b55d355c859b1cf450231a94567d56a75f4b"), looks := true }, kinds := [], alts := [], laidByText := true, laidKinds := [.data, .data, .data, .data, .listed, .data, .pinned], laidTests := true, laidLooks := .later }
def RollPrintUptoCardSaid : Prop := Claim7.holds Tryz.pinned (.plain (OpenSpec.upto rollPrintSpec)) rollPrintUptoCard

/-- THE SECOND FORM's CARD OF 'provostlaw10.RollApart'. -/
def rollApartUptoCard : Claim7 := { stood := { row := rollApartUptoRow, standIns := [], harness := (true, "ebbb8ef87f19201606d90283d665b55d355c859b1cf450231a94567d56a75f4b"), looks := true }, kinds := [], alts := [], laidByText := true, laidKinds := [.data, .data, .data, .data, .listed, .data, .pinned], laidTests := true, laidLooks := .later }
def RollApartUptoCardSaid : Prop := Claim7.holds Tryz.pinned (.plain (OpenSpec.upto rollApartSpec)) rollApartUptoCard

/-- THE SECOND FORM's CARD OF 'provostlaw10.RollBack'. -/
def rollBackUptoCard : Claim7 := { stood := { row := rollBackUptoRow, standIns := [], harness := (true, "ebbb8ef87f19201606d90283d665b55d355c859b1cf450231a94567d56a75f4b"), looks := true }, kinds := [], alts := [], laidByText := true, laidKinds := [.data, .data, .data, .data, .listed, .data, .pinned], laidTests := true, laidLooks := .later }
def RollBackUptoCardSaid : Prop := Claim7.holds Tryz.pinned (.plain (OpenSpec.upto rollBackSpec)) rollBackUptoCard
end Rows
end Go.Proofs.YtnippamifihdpaaGreatDoor
