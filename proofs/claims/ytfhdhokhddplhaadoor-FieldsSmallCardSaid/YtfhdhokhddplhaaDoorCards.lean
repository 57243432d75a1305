/-
  DERIVED. GIVEN WITH THE SEED: THE CARDS: each row of YtfhdhokhddplhaaDoorRows.lean that lists a variable, with what it lists TIED to the program's text (the seventh form; the later family's looks); each row that meets fmt, with fmt's text TOLD by the authors' own Lean function (tested against real Go, not proved from fmt's source: count such statements apart). THE CARD IS WHAT COUNTS. Prove the row's statement (the work); the ties are given (YtfhdhokhddplhaaDoorTie.lean); close each card by the builder's one call (the guide's Derived/Test/ToyasCard.lean, 'card_holds'). Laid BY PROGRAM, IN A SANDBOX (cutbox-door.mjs). By AI agents, Wed Nov 11 2026. No macro, syntax, notation, axiom, sorry.
-/
import Derived.Test.YtfhdhokhddplhaaDoorRows
import GoSem.ClaimSeven
namespace Go.Proofs.YtfhdhokhddplhaaDoor
namespace Rows

/-- THE TIED CARD OF 'scullionlaw14.FieldsSmall'. -/
def fieldsSmallCard : Claim7 := { stood := { row := fieldsSmallRow, standIns := [], harness := (true, "c948734c810c3fb37fc15966ef921adb628fe85248b6dd212ef3fd94aab57d90"), looks := false }, kinds := [], alts := [], laidByText := true, laidKinds := [.data, .pinned], laidTests := true, laidLooks := .later }
def FieldsSmallCardSaid : Prop := Claim7.holds Tryd.pinned (.plain (OpenSpec.ofChange fieldsSmallSpec)) fieldsSmallCard

/-- THE TIED CARD OF 'scullionlaw14.FieldsWhole'. -/
def fieldsWholeCard : Claim7 := { stood := { row := fieldsWholeRow, standIns := [], harness := (true, "c948734c810c3fb37fc15966ef921adb628fe85248b6dd212ef3fd94aab57d90"), looks := false }, kinds := [], alts := [], laidByText := true, laidKinds := [.data, .pinned], laidTests := true, laidLooks := .later }
def FieldsWholeCardSaid : Prop := Claim7.holds Tryd.pinned (.plain (OpenSpec.ofChange fieldsWholeSpec)) fieldsWholeCard

/-- THE TIED CARD OF 'scullionlaw14.FieldsBlanks'. -/
def fieldsBlanksCard : Claim7 := { stood := { row := fieldsBlanksRow, standIns := [], harness := (true, "c948734c810c3fb37fc15966ef921adb628fe85248b6dd212ef3fd94aab57d90"), looks := false }, kinds := [], alts := [], laidByText := true, laidKinds := [.data, .pinned], laidTests := true, laidLooks := .later }
def FieldsBlanksCardSaid : Prop := Claim7.holds Tryd.pinned (.plain (OpenSpec.ofChange fieldsBlanksSpec)) fieldsBlanksCard

/-- THE TIED CARD OF 'scullionlaw14.FieldsSplits'. -/
def fieldsSplitsCard : Claim7 := { stood := { row := fieldsSplitsRow, standIns := [], harness := (true, "c948734c810c3fb37fc15966ef921adb628fe85248b6dd212ef3fd94aab57d90"), looks := false }, kinds := [], alts := [], laidByText := true, laidKinds := [.data, .pinned], laidTests := true, laidLooks := .later }
def FieldsSplitsCardSaid : Prop := Claim7.holds Tryd.pinned (.plain (OpenSpec.ofChange fieldsSplitsSpec)) fieldsSplitsCard

/-- THE SECOND FORM's CARD OF 'scullionlaw14.FieldsSmall'. -/
def fieldsSmallUptoCard : Claim7 := { stood := { row := fieldsSmallUptoRow, standIns := [], harness := (true, "c948734c810c3fb37fc15966ef921adb628fe85248b6dd212ef3fd94aab57d90"), looks := false }, kinds := [], alts := [], laidByText := true, laidKinds := [.data, .pinned], laidTests := true, laidLooks := .later }
def FieldsSmallUptoCardSaid : Prop := Claim7.holds Tryd.pinned (.plain (OpenSpec.upto fieldsSmallSpec)) fieldsSmallUptoCard

/-- THE SECOND FORM's CARD OF 'scullionlaw14.FieldsWhole'. -/
def fieldsWholeUptoCard : Claim7 := { stood := { row := fieldsWholeUptoRow, standIns := [], harness := (true, "c948734c810c3fb37fc15966ef921adb628fe85248b6dd212ef3fd94aab57d90"), looks := false }, kinds := [], alts := [], laidByText := true, laidKinds := [.data, .pinned], laidTests := true, laidLooks := .later }
def FieldsWholeUptoCardSaid : Prop := Claim7.holds Tryd.pinned (.plain (OpenSpec.upto fieldsWholeSpec)) fieldsWholeUptoCard

/-- THE SECOND FORM's CARD OF 'scullionlaw14.FieldsBlanks'. -/
def fieldsBlanksUptoCard : Claim7 := { stood := { row := fieldsBlanksUptoRow, standIns := [], harness := (true, "c948734c810c3fb37fc15966ef921adb628fe85248b6dd212ef3fd94aab57d90"), looks := false }, kinds := [], alts := [], laidByText := true, laidKinds := [.data, .pinned], laidTests := true, laidLooks := .later }
def FieldsBlanksUptoCardSaid : Prop := Claim7.holds Tryd.pinned (.plain (OpenSpec.upto fieldsBlanksSpec)) fieldsBlanksUptoCard

/-- THE SECOND FORM's CARD OF 'scullionlaw14.FieldsSplits'. -/
def fieldsSplitsUptoCard : Claim7 := { stood := { row := fieldsSplitsUptoRow, standIns := [], harness := (true, "c948734c810c3fb37fc15966ef921adb628fe85248b6dd212ef3fd94aab57d90"), looks := false }, kinds := [], alts := [], laidByText := true, laidKinds := [.data, .pinned], laidTests := true, laidLooks := .later }
def FieldsSplitsUptoCardSaid : Prop := Claim7.holds Tryd.pinned (.plain (OpenSpec.upto fieldsSplitsSpec)) fieldsSplitsUptoCard
end Rows
end Go.Proofs.YtfhdhokhddplhaaDoor
