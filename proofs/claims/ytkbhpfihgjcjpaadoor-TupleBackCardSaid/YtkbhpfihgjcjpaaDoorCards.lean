/-
  DERIVED. GIVEN WITH THE SEED: THE CARDS: each row of YtkbhpfihgjcjpaaDoorRows.lean that lists a variable, with what it lists TIED to the program's text (the seventh form; the later family's looks); each row that meets fmt, with fmt's text TOLD by the authors' own Lean function (tested against real Go, not proved from fmt's source: count such statements apart). THE CARD IS WHAT COUNTS. Prove the row's statement (the work); the ties are given (YtkbhpfihgjcjpaaDoorTie.lean); close each card by the builder's one call (the guide's Derived/Test/ToyasCard.lean, 'card_holds'). Laid BY PROGRAM, IN A SANDBOX (cutbox-door.mjs). By AI agents, Wed Nov 11 2026. No macro, syntax, notation, axiom, sorry.
-/
import Derived.Test.YtkbhpfihgjcjpaaDoorRows
import GoSem.ClaimSeven
namespace Go.Proofs.YtkbhpfihgjcjpaaDoor
namespace Rows

/-- THE TIED CARD OF 'scullionlaw02.TupleEncodes'. -/
def tupleEncodesCard : Claim7 := { stood := { row := tupleEncodesRow, standIns := [], harness := (true, "4a153b5d9a647bd83f68598442537dc6451b49efd3f4fce82ff107a25aa63fce"), looks := true }, kinds := [], alts := [], laidByText := true, laidKinds := [.data, .data, .data, .sentinel, .sentinel], laidTests := true, laidLooks := .later }
def TupleEncodesCardSaid : Prop := Claim7.holds Tryd.pinned (.plain (OpenSpec.ofChange tupleEncodesSpec)) tupleEncodesCard

/-- THE TIED CARD OF 'scullionlaw02.TupleBack'. -/
def tupleBackCard : Claim7 := { stood := { row := tupleBackRow, standIns := [], harness := (true, "4a153b5d9a647bd83f68598442537dc6451b49efd3f4fce82ff107a25aa63fce"), looks := true }, kinds := [], alts := [], laidByText := true, laidKinds := [.data, .data, .data, .sentinel, .sentinel], laidTests := true, laidLooks := .later }
def TupleBackCardSaid : Prop := Claim7.holds Tryd.pinned (.plain (OpenSpec.ofChange tupleBackSpec)) tupleBackCard

/-- THE TIED CARD OF 'scullionlaw02.TupleTwo'. -/
def tupleTwoCard : Claim7 := { stood := { row := tupleTwoRow, standIns := [], harness := (true, "4a153b5d9a647bd83f68598442537dc6451b49efd3f4fce82ff107a25aa63fce"), looks := true }, kinds := [], alts := [], laidByText := true, laidKinds := [.data, .data, .data, .sentinel, .sentinel], laidTests := true, laidLooks := .later }
def TupleTwoCardSaid : Prop := Claim7.holds Tryd.pinned (.plain (OpenSpec.ofChange tupleTwoSpec)) tupleTwoCard

/-- THE SECOND FORM's CARD OF 'scullionlaw02.TupleEncodes'. -/
def tupleEncodesUptoCard : Claim7 := { stood := { row := tupleEncodesUptoRow, standIns := [], harness := (true, "4a153b5d9a647bd83f68598442537dc6451b49efd3f4fce82ff107a25aa63fce"), looks := true }, kinds := [], alts := [], laidByText := true, laidKinds := [.data, .data, .data, .sentinel, .sentinel], laidTests := true, laidLooks := .later }
def TupleEncodesUptoCardSaid : Prop := Claim7.holds Tryd.pinned (.plain (OpenSpec.upto tupleEncodesSpec)) tupleEncodesUptoCard

/-- THE SECOND FORM's CARD OF 'scullionlaw02.TupleBack'. -/
def tupleBackUptoCard : Claim7 := { stood := { row := tupleBackUptoRow, standIns := [], harness := (true, "4a153b5d9a647bd83f68598442537dc6451b49efd3f4fce82ff107a25aa63fce"), looks := true }, kinds := [], alts := [], laidByText := true, laidKinds := [.data, .data, .data, .sentinel, .sentinel], laidTests := true, laidLooks := .later }
def TupleBackUptoCardSaid : Prop := Claim7.holds Tryd.pinned (.plain (OpenSpec.upto tupleBackSpec)) tupleBackUptoCard

/-- THE SECOND FORM's CARD OF 'scullionlaw02.TupleTwo'. -/
def tupleTwoUptoCard : Claim7 := { stood := { row := tupleTwoUptoRow, standIns := [], harness := (true, "4a153b5d9a647bd83f68598442537dc6451b49efd3f4fce82ff107a25aa63fce"), looks := true }, kinds := [], alts := [], laidByText := true, laidKinds := [.data, .data, .data, .sentinel, .sentinel], laidTests := true, laidLooks := .later }
def TupleTwoUptoCardSaid : Prop := Claim7.holds Tryd.pinned (.plain (OpenSpec.upto tupleTwoSpec)) tupleTwoUptoCard
end Rows
end Go.Proofs.YtkbhpfihgjcjpaaDoor
