/-
  DERIVED. GIVEN WITH THE SEED: THE CARDS: each row of YthommfjiaalecaaGreatDoorRows.lean that lists a variable, with what it lists TIED to the program's text (the seventh form; the later family's looks); each row that meets fmt, with fmt's text TOLD by the authors' own Lean function (tested against real Go, not proved from fmt's source: count such statements apart). THE CARD IS WHAT COUNTS. Prove the row's statement (the work); the ties are given (YthommfjiaalecaaGreatDoorTie.lean); close each card by the builder's one call (the guide's Derived/Test/ToyasCard.lean, 'card_holds'). Laid BY PROGRAM, IN A SANDBOX (cutbox-door.mjs). By AI agents, Wed Nov 11 2026. No macro, syntax, notation, axiom, sorry.
-/
import Derived.Test.YthommfjiaalecaaGreatDoorRows
import GoSem.ClaimSeven
namespace Go.Proofs.YthommfjiaalecaaGreatDoor
namespace Rows

/-- THE TIED CARD OF 'scullionlaw10.UnparseAny'. -/
def unparseAnyCard : Claim7 := { stood := { row := unparseAnyRow, standIns := [], harness := (true, "7797ebf4b80476c78554297cfd16b19360bb959d95eb61007d939fc1c18a61ee"), looks := false }, kinds := [], alts := [], laidByText := true, laidKinds := [.data, .pinned], laidTests := true, laidLooks := .later }
def UnparseAnyCardSaid : Prop := Claim7.holds Tryz.pinned (.plain (OpenSpec.ofChange unparseAnySpec)) unparseAnyCard

/-- THE TIED CARD OF 'scullionlaw10.UnparseParsed'. -/
def unparseParsedCard : Claim7 := { stood := { row := unparseParsedRow, standIns := [], harness := (true, "7797ebf4b80476c78554297cfd16b19360bb959d95eb61007d939fc1c18a61ee"), looks := false }, kinds := [], alts := [], laidByText := true, laidKinds := [.data, .pinned], laidTests := true, laidLooks := .later }
def UnparseParsedCardSaid : Prop := Claim7.holds Tryz.pinned (.plain (OpenSpec.ofChange unparseParsedSpec)) unparseParsedCard

/-- THE SECOND FORM's CARD OF 'scullionlaw10.UnparseAny'. -/
def unparseAnyUptoCard : Claim7 := { stood := { row := unparseAnyUptoRow, standIns := [], harness := (true, "7797ebf4b80476c78554297cfd16b19360bb959d95eb61007d939fc1c18a61ee"), looks := false }, kinds := [], alts := [], laidByText := true, laidKinds := [.data, .pinned], laidTests := true, laidLooks := .later }
def UnparseAnyUptoCardSaid : Prop := Claim7.holds Tryz.pinned (.plain (OpenSpec.upto unparseAnySpec)) unparseAnyUptoCard

/-- THE SECOND FORM's CARD OF 'scullionlaw10.UnparseParsed'. -/
def unparseParsedUptoCard : Claim7 := { stood := { row := unparseParsedUptoRow, standIns := [], harness := (true, "7797ebf4b80476c78554297cfd16b19360bb959d95eb61007d939fc1c18a61ee"), looks := false }, kinds := [], alts := [], laidByText := true, laidKinds := [.data, .pinned], laidTests := true, laidLooks := .later }
def UnparseParsedUptoCardSaid : Prop := Claim7.holds Tryz.pinned (.plain (OpenSpec.upto unparseParsedSpec)) unparseParsedUptoCard
end Rows
end Go.Proofs.YthommfjiaalecaaGreatDoor
