/-
  DERIVED. GIVEN WITH THE SEED: THE CARDS: each row of YtcoeiiihmpnagaaDoorRows.lean that lists a variable, with what it lists TIED to the program's text (the seventh form; the later family's looks); each row that meets fmt, with fmt's text TOLD by the authors' own Lean function (tested against real Go, not proved from fmt's source: count such statements apart). THE CARD IS WHAT COUNTS. Prove the row's statement (the work); the ties are given (YtcoeiiihmpnagaaDoorTie.lean); close each card by the builder's one call (the guide's Derived/Test/ToyasCard.lean, 'card_holds'). Laid BY PROGRAM, IN A SANDBOX (cutbox-door.mjs). By AI agents, Wed Nov 11 2026. No macro, syntax, notation, axiom, sorry.
-/
import Derived.Test.YtcoeiiihmpnagaaDoorRows
import GoSem.ClaimSeven
namespace Go.Proofs.YtcoeiiihmpnagaaDoor
namespace Rows

/-- THE TIED CARD OF 'scullionlaw09.SyntaxTwo'. -/
def syntaxTwoCard : Claim7 := { stood := { row := syntaxTwoRow, standIns := [], harness := (true, "74ac679bc752bc5b7e32a8ef0f2331ab0aa602996498101cf4de17504c8b25c7"), looks := true }, kinds := [], alts := [], laidByText := true, laidKinds := [.data, .pinned], laidTests := true, laidLooks := .later }
def SyntaxTwoCardSaid : Prop := Claim7.holds Tryd.pinned (.plain (OpenSpec.ofChange syntaxTwoSpec)) syntaxTwoCard

/-- THE TIED CARD OF 'scullionlaw09.SyntaxLines'. -/
def syntaxLinesCard : Claim7 := { stood := { row := syntaxLinesRow, standIns := [], harness := (true, "74ac679bc752bc5b7e32a8ef0f2331ab0aa602996498101cf4de17504c8b25c7"), looks := true }, kinds := [], alts := [], laidByText := true, laidKinds := [.data, .pinned], laidTests := true, laidLooks := .later }
def SyntaxLinesCardSaid : Prop := Claim7.holds Tryd.pinned (.plain (OpenSpec.ofChange syntaxLinesSpec)) syntaxLinesCard

/-- THE SECOND FORM's CARD OF 'scullionlaw09.SyntaxTwo'. -/
def syntaxTwoUptoCard : Claim7 := { stood := { row := syntaxTwoUptoRow, standIns := [], harness := (true, "74ac679bc752bc5b7e32a8ef0f2331ab0aa602996498101cf4de17504c8b25c7"), looks := true }, kinds := [], alts := [], laidByText := true, laidKinds := [.data, .pinned], laidTests := true, laidLooks := .later }
def SyntaxTwoUptoCardSaid : Prop := Claim7.holds Tryd.pinned (.plain (OpenSpec.upto syntaxTwoSpec)) syntaxTwoUptoCard

/-- THE SECOND FORM's CARD OF 'scullionlaw09.SyntaxLines'. -/
def syntaxLinesUptoCard : Claim7 := { stood := { row := syntaxLinesUptoRow, standIns := [], harness := (true, "74ac679bc752bc5b7e32a8ef0f2331ab0aa602996498101cf4de17504c8b25c7"), looks := true }, kinds := [], alts := [], laidByText := true, laidKinds := [.data, .pinned], laidTests := true, laidLooks := .later }
def SyntaxLinesUptoCardSaid : Prop := Claim7.holds Tryd.pinned (.plain (OpenSpec.upto syntaxLinesSpec)) syntaxLinesUptoCard
end Rows
end Go.Proofs.YtcoeiiihmpnagaaDoor
