/-
  DERIVED. GIVEN WITH THE SEED: THE CARDS: each row of YtgincpkggnndeaaGreatDoorRows.lean that lists a variable, with what it lists TIED to the program's text (the seventh form; the later family's looks); each row that meets fmt, with fmt's text TOLD by the authors' own Lean function (tested against real Go, not proved from fmt's source: count such statements apart). THE CARD IS WHAT COUNTS. Prove the row's statement (the work); the ties are given (YtgincpkggnndeaaGreatDoorTie.lean); close each card by the builder's one call (the guide's Derived/Test/ToyasCard.lean, 'card_holds'). Laid BY PROGRAM, IN A SANDBOX (cutbox-door.mjs). By AI agents, Wed Nov 11 2026. No macro, syntax, notation, axiom, sorry.
-/
import Derived.Test.YtgincpkggnndeaaGreatDoorRows
import GoSem.ClaimSeven
namespace Go.Proofs.YtgincpkggnndeaaGreatDoor
namespace Rows

/-- THE TIED CARD OF 'scullionlaw13.ArithEvals'. -/
def arithEvalsCard : Claim7 := { stood := { row := arithEvalsRow, standIns := [], harness := (true, "167f46ae5631e7fd424749ad1b21646578493f3797a353f54faf86d6fe98ce89"), looks := true }, kinds := [], alts := [], laidByText := true, laidKinds := [.data, .data, .data, .data, .sentinel, .sentinel, .pinned], laidTests := true, laidLooks := .later }
def ArithEvalsCardSaid : Prop := Claim7.holds Tryz.pinned (.plain (OpenSpec.ofChange arithEvalsSpec)) arithEvalsCard

/-- THE TIED CARD OF 'scullionlaw13.ArithSmall'. -/
def arithSmallCard : Claim7 := { stood := { row := arithSmallRow, standIns := [], harness := (true, "167f46ae5631e7fd424749ad1b21646578493f3797a353f54faf86d6fe98ce89"), looks := true }, kinds := [], alts := [], laidByText := true, laidKinds := [.data, .data, .data, .data, .sentinel, .sentinel, .pinned], laidTests := true, laidLooks := .later }
def ArithSmallCardSaid : Prop := Claim7.holds Tryz.pinned (.plain (OpenSpec.ofChange arithSmallSpec)) arithSmallCard

/-- THE TIED CARD OF 'scullionlaw13.ArithTwo'. -/
def arithTwoCard : Claim7 := { stood := { row := arithTwoRow, standIns := [], harness := (true, "167f46ae5631e7fd424749ad1b21646578493f3797a353f54faf86d6fe98ce89"), looks := true }, kinds := [], alts := [], laidByText := true, laidKinds := [.data, .data, .data, .data, .sentinel, .sentinel, .pinned], laidTests := true, laidLooks := .later }
def ArithTwoCardSaid : Prop := Claim7.holds Tryz.pinned (.plain (OpenSpec.ofChange arithTwoSpec)) arithTwoCard

/-- THE TIED CARD OF 'scullionlaw13.ArithDeep'. -/
def arithDeepCard : Claim7 := { stood := { row := arithDeepRow, standIns := [], harness := (true, "167f46ae5631e7fd424749ad1b21646578493f3797a353f54faf86d6fe98ce89"), looks := true }, kinds := [], alts := [], laidByText := true, laidKinds := [.data, .data, .data, .data, .sentinel, .sentinel, .pinned], laidTests := true, laidLooks := .later }
def ArithDeepCardSaid : Prop := Claim7.holds Tryz.pinned (.plain (OpenSpec.ofChange arithDeepSpec)) arithDeepCard

/-- THE TIED CARD OF 'scullionlaw13.ArithBlanks'. -/
def arithBlanksCard : Claim7 := { stood := { row := arithBlanksRow, standIns := [], harness := (true, "167f46ae5631e7fd424749ad1b21646578493f3797a353f54faf86d6fe98ce89"), looks := true }, kinds := [], alts := [], laidByText := true, laidKinds := [.data, .data, .data, .data, .sentinel, .sentinel, .pinned], laidTests := true, laidLooks := .later }
def ArithBlanksCardSaid : Prop := Claim7.holds Tryz.pinned (.plain (OpenSpec.ofChange arithBlanksSpec)) arithBlanksCard

/-- THE TIED CARD OF 'scullionlaw13.ArithSets'. -/
def arithSetsCard : Claim7 := { stood := { row := arithSetsRow, standIns := [], harness := (true, "167f46ae5631e7fd424749ad1b21646578493f3797a353f54faf86d6fe98ce89"), looks := true }, kinds := [], alts := [], laidByText := true, laidKinds := [.data, .data, .data, .data, .sentinel, .sentinel, .pinned], laidTests := true, laidLooks := .later }
def ArithSetsCardSaid : Prop := Claim7.holds Tryz.pinned (.plain (OpenSpec.ofChange arithSetsSpec)) arithSetsCard

/-- THE TIED CARD OF 'scullionlaw13.ArithNumbers'. -/
def arithNumbersCard : Claim7 := { stood := { row := arithNumbersRow, standIns := [], harness := (true, "167f46ae5631e7fd424749ad1b21646578493f3797a353f54faf86d6fe98ce89"), looks := true }, kinds := [], alts := [], laidByText := true, laidKinds := [.data, .data, .data, .data, .sentinel, .sentinel, .pinned], laidTests := true, laidLooks := .later }
def ArithNumbersCardSaid : Prop := Claim7.holds Tryz.pinned (.plain (OpenSpec.ofChange arithNumbersSpec)) arithNumbersCard

/-- THE TIED CARD OF 'scullionlaw13.ArithSkips'. -/
def arithSkipsCard : Claim7 := { stood := { row := arithSkipsRow, standIns := [], harness := (true, "167f46ae5631e7fd424749ad1b21646578493f3797a353f54faf86d6fe98ce89"), looks := true }, kinds := [], alts := [], laidByText := true, laidKinds := [.data, .data, .data, .data, .sentinel, .sentinel, .pinned], laidTests := true, laidLooks := .later }
def ArithSkipsCardSaid : Prop := Claim7.holds Tryz.pinned (.plain (OpenSpec.ofChange arithSkipsSpec)) arithSkipsCard

/-- THE SECOND FORM's CARD OF 'scullionlaw13.ArithEvals'. -/
def arithEvalsUptoCard : Claim7 := { stood := { row := arithEvalsUptoRow, standIns := [], harness := (true, "167f46ae5631e7fd424749ad1b21646578493f3797a353f54faf86d6fe98ce89"), looks := true }, kinds := [], alts := [], laidByText := true, laidKinds := [.data, .data, .data, .data, .sentinel, .sentinel, .pinned], laidTests := true, laidLooks := .later }
def ArithEvalsUptoCardSaid : Prop := Claim7.holds Tryz.pinned (.plain (OpenSpec.upto arithEvalsSpec)) arithEvalsUptoCard

/-- THE SECOND FORM's CARD OF 'scullionlaw13.ArithSmall'. -/
def arithSmallUptoCard : Claim7 := { stood := { row := arithSmallUptoRow, standIns := [], harness := (true, "167f46ae5631e7fd424749ad1b21646578493f3797a353f54faf86d6fe98ce89"), looks := true }, kinds := [], alts := [], laidByText := true, laidKinds := [.data, .data, .data, .data, .sentinel, .sentinel, .pinned], laidTests := true, laidLooks := .later }
def ArithSmallUptoCardSaid : Prop := Claim7.holds Tryz.pinned (.plain (OpenSpec.upto arithSmallSpec)) arithSmallUptoCard

/-- THE SECOND FORM's CARD OF 'scullionlaw13.ArithTwo'. -/
def arithTwoUptoCard : Claim7 := { stood := { row := arithTwoUptoRow, standIns := [], harness := (true, "167f46ae5631e7fd424749ad1b21646578493f3797a353f54faf86d6fe98ce89"), looks := true }, kinds := [], alts := [], laidByText := true, laidKinds := [.data, .data, .data, .data, .sentinel, .sentinel, .pinned], laidTests := true, laidLooks := .later }
def ArithTwoUptoCardSaid : Prop := Claim7.holds Tryz.pinned (.plain (OpenSpec.upto arithTwoSpec)) arithTwoUptoCard

/-- THE SECOND FORM's CARD OF 'scullionlaw13.ArithDeep'. -/
def arithDeepUptoCard : Claim7 := { stood := { row := arithDeepUptoRow, standIns := [], harness := (true, "167f46ae5631e7fd424749ad1b21646578493f3797a353f54faf86d6fe98ce89"), looks := true }, kinds := [], alts := [], laidByText := true, laidKinds := [.data, .data, .data, .data, .sentinel, .sentinel, .pinned], laidTests := true, laidLooks := .later }
def ArithDeepUptoCardSaid : Prop := Claim7.holds Tryz.pinned (.plain (OpenSpec.upto arithDeepSpec)) arithDeepUptoCard

/-- THE SECOND FORM's CARD OF 'scullionlaw13.ArithBlanks'. -/
def arithBlanksUptoCard : Claim7 := { stood := { row := arithBlanksUptoRow, standIns := [], harness := (true, "167f46ae5631e7fd424749ad1b21646578493f3797a353f54faf86d6fe98ce89"), looks := true }, kinds := [], alts := [], laidByText := true, laidKinds := [.data, .data, .data, .data, .sentinel, .sentinel, .pinned], laidTests := true, laidLooks := .later }
def ArithBlanksUptoCardSaid : Prop := Claim7.holds Tryz.pinned (.plain (OpenSpec.upto arithBlanksSpec)) arithBlanksUptoCard

/-- THE SECOND FORM's CARD OF 'scullionlaw13.ArithSets'. -/
def arithSetsUptoCard : Claim7 := { stood := { row := arithSetsUptoRow, standIns := [], harness := (true, "167f46ae5631e7fd424749ad1b21646578493f3797a353f54faf86d6fe98ce89"), looks := true }, kinds := [], alts := [], laidByText := true, laidKinds := [.data, .data, .data, .data, .sentinel, .sentinel, .pinned], laidTests := true, laidLooks := .later }
def ArithSetsUptoCardSaid : Prop := Claim7.holds Tryz.pinned (.plain (OpenSpec.upto arithSetsSpec)) arithSetsUptoCard

/-- THE SECOND FORM's CARD OF 'scullionlaw13.ArithNumbers'. -/
def arithNumbersUptoCard : Claim7 := { stood := { row := arithNumbersUptoRow, standIns := [], harness := (true, "167f46ae5631e7fd424749ad1b21646578493f3797a353f54faf86d6fe98ce89"), looks := true }, kinds := [], alts := [], laidByText := true, laidKinds := [.data, .data, .data, .data, .sentinel, .sentinel, .pinned], laidTests := true, laidLooks := .later }
def ArithNumbersUptoCardSaid : Prop := Claim7.holds Tryz.pinned (.plain (OpenSpec.upto arithNumbersSpec)) arithNumbersUptoCard

/-- THE SECOND FORM's CARD OF 'scullionlaw13.ArithSkips'. -/
def arithSkipsUptoCard : Claim7 := { stood := { row := arithSkipsUptoRow, standIns := [], harness := (true, "167f46ae5631e7fd424749ad1b21646578493f3797a353f54faf86d6fe98ce89"), looks := true }, kinds := [], alts := [], laidByText := true, laidKinds := [.data, .data, .data, .data, .sentinel, .sentinel, .pinned], laidTests := true, laidLooks := .later }
def ArithSkipsUptoCardSaid : Prop := Claim7.holds Tryz.pinned (.plain (OpenSpec.upto arithSkipsSpec)) arithSkipsUptoCard
end Rows
end Go.Proofs.YtgincpkggnndeaaGreatDoor
