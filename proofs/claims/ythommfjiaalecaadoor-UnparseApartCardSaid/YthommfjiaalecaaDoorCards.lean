/-
  DERIVED. GIVEN WITH THE SEED: THE CARDS: each row of YthommfjiaalecaaDoorRows.lean that lists a variable, with what it lists TIED to the program's text (the seventh form; the later family's looks); each row that meets fmt, with fmt's text TOLD by the authors' own Lean function (tested against real Go, not proved from fmt's source: count such statements apart). THE CARD IS WHAT COUNTS. Prove the row's statement (the work); the ties are given (YthommfjiaalecaaDoorTie.lean); close each card by the builder's one call (the guide's Derived/Test/ToyasCard.lean, 'card_holds'). Laid BY PROGRAM, IN A SANDBOX (cutbox-door.mjs). By AI agents, Wed Nov 11 2026. No macro, syntax, notation, axiom, sorry.
-/
import Derived.Test.YthommfjiaalecaaDoorRows
import GoSem.ClaimSeven
namespace Go.Proofs.YthommfjiaalecaaDoor
namespace Rows

/-- THE TIED CARD OF 'scullionlaw10.UnparseBack'. -/
def unparseBackCard : Claim7 := { stood := { row := unparseBackRow, standIns := [], harness := (true, "b6aed3ecb0e1d880a3bd50afc8f33f6c25ee1dbc1382ffa71c072f9f195f74d1"), looks := false }, kinds := [], alts := [], laidByText := true, laidKinds := [.data, .pinned], laidTests := true, laidLooks := .later }
def UnparseBackCardSaid : Prop := Claim7.holds Tryd.pinned (.plain (OpenSpec.ofChange unparseBackSpec)) unparseBackCard

/-- THE TIED CARD OF 'scullionlaw10.UnparseApart'. -/
def unparseApartCard : Claim7 := { stood := { row := unparseApartRow, standIns := [], harness := (true, "b6aed3ecb0e1d880a3bd50afc8f33f6c25ee1dbc1382ffa71c072f9f195f74d1"), looks := false }, kinds := [], alts := [], laidByText := true, laidKinds := [.data, .pinned], laidTests := true, laidLooks := .later }
def UnparseApartCardSaid : Prop := Claim7.holds Tryd.pinned (.plain (OpenSpec.ofChange unparseApartSpec)) unparseApartCard

/-- THE SECOND FORM's CARD OF 'scullionlaw10.UnparseBack'. -/
def unparseBackUptoCard : Claim7 := { stood := { row := unparseBackUptoRow, standIns := [], harness := (true, "b6aed3ecb0e1d880a3bd50afc8f33f6c25ee1dbc1382ffa71c072f9f195f74d1"), looks := false }, kinds := [], alts := [], laidByText := true, laidKinds := [.data, .pinned], laidTests := true, laidLooks := .later }
def UnparseBackUptoCardSaid : Prop := Claim7.holds Tryd.pinned (.plain (OpenSpec.upto unparseBackSpec)) unparseBackUptoCard

/-- THE SECOND FORM's CARD OF 'scullionlaw10.UnparseApart'. -/
def unparseApartUptoCard : Claim7 := { stood := { row := unparseApartUptoRow, standIns := [], harness := (true, "b6aed3ecb0e1d880a3bd50afc8f33f6c25ee1dbc1382ffa71c072f9f195f74d1"), looks := false }, kinds := [], alts := [], laidByText := true, laidKinds := [.data, .pinned], laidTests := true, laidLooks := .later }
def UnparseApartUptoCardSaid : Prop := Claim7.holds Tryd.pinned (.plain (OpenSpec.upto unparseApartSpec)) unparseApartUptoCard
end Rows
end Go.Proofs.YthommfjiaalecaaDoor
