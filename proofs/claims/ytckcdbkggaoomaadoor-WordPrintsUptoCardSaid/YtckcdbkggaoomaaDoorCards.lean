/-
  DERIVED. GIVEN WITH THE SEED: THE CARDS: each row of YtckcdbkggaoomaaDoorRows.lean that lists a variable, with what it lists TIED to the program's text (the seventh form; the later family's looks); each row that meets fmt, with fmt's text TOLD by the authors' own Lean function (tested against real Go, not proved from fmt's source: count such statements apart). THE CARD IS WHAT COUNTS. Prove the row's statement (the work); the ties are given (YtckcdbkggaoomaaDoorTie.lean); close each card by the builder's one call (the guide's Derived/Test/ToyasCard.lean, 'card_holds'). Laid BY PROGRAM, IN A SANDBOX (cutbox-door.mjs). By AI agents, Wed Nov 11 2026. No macro, syntax, notation, axiom, sorry.
-/
import Derived.Test.YtckcdbkggaoomaaDoorRows
import GoSem.ClaimSeven
namespace Go.Proofs.YtckcdbkggaoomaaDoor
namespace Rows

/-- THE TIED CARD OF 'scullionlaw08.WordDeep'. -/
def wordDeepCard : Claim7 := { stood := { row := wordDeepRow, standIns := [], harness := (true, "35c2ac403dff63b7d288b07b6fc15519fe6b0a052dfa08155056c7a1ebd3d8db"), looks := true }, kinds := [], alts := [], laidByText := true, laidKinds := [.data, .pinned], laidTests := true, laidLooks := .later }
def WordDeepCardSaid : Prop := Claim7.holds Tryd.pinned (.plain (OpenSpec.ofChange wordDeepSpec)) wordDeepCard

/-- THE TIED CARD OF 'scullionlaw08.WordSmall'. -/
def wordSmallCard : Claim7 := { stood := { row := wordSmallRow, standIns := [], harness := (true, "35c2ac403dff63b7d288b07b6fc15519fe6b0a052dfa08155056c7a1ebd3d8db"), looks := true }, kinds := [], alts := [], laidByText := true, laidKinds := [.data, .pinned], laidTests := true, laidLooks := .later }
def WordSmallCardSaid : Prop := Claim7.holds Tryd.pinned (.plain (OpenSpec.ofChange wordSmallSpec)) wordSmallCard

/-- THE TIED CARD OF 'scullionlaw08.WordPrints'. -/
def wordPrintsCard : Claim7 := { stood := { row := wordPrintsRow, standIns := [], harness := (true, "35c2ac403dff63b7d288b07b6fc15519fe6b0a052dfa08155056c7a1ebd3d8db"), looks := true }, kinds := [], alts := [], laidByText := true, laidKinds := [.data, .pinned], laidTests := true, laidLooks := .later }
def WordPrintsCardSaid : Prop := Claim7.holds Tryd.pinned (.plain (OpenSpec.ofChange wordPrintsSpec)) wordPrintsCard

/-- THE TIED CARD OF 'scullionlaw08.WordBack'. -/
def wordBackCard : Claim7 := { stood := { row := wordBackRow, standIns := [], harness := (true, "35c2ac403dff63b7d288b07b6fc15519fe6b0a052dfa08155056c7a1ebd3d8db"), looks := true }, kinds := [], alts := [], laidByText := true, laidKinds := [.data, .pinned], laidTests := true, laidLooks := .later }
def WordBackCardSaid : Prop := Claim7.holds Tryd.pinned (.plain (OpenSpec.ofChange wordBackSpec)) wordBackCard

/-- THE TIED CARD OF 'scullionlaw08.WordQuotes'. -/
def wordQuotesCard : Claim7 := { stood := { row := wordQuotesRow, standIns := [], harness := (true, "35c2ac403dff63b7d288b07b6fc15519fe6b0a052dfa08155056c7a1ebd3d8db"), looks := true }, kinds := [], alts := [], laidByText := true, laidKinds := [.data, .pinned], laidTests := true, laidLooks := .later }
def WordQuotesCardSaid : Prop := Claim7.holds Tryd.pinned (.plain (OpenSpec.ofChange wordQuotesSpec)) wordQuotesCard

/-- THE SECOND FORM's CARD OF 'scullionlaw08.WordDeep'. -/
def wordDeepUptoCard : Claim7 := { stood := { row := wordDeepUptoRow, standIns := [], harness := (true, "35c2ac403dff63b7d288b07b6fc15519fe6b0a052dfa08155056c7a1ebd3d8db"), looks := true }, kinds := [], alts := [], laidByText := true, laidKinds := [.data, .pinned], laidTests := true, laidLooks := .later }
def WordDeepUptoCardSaid : Prop := Claim7.holds Tryd.pinned (.plain (OpenSpec.upto wordDeepSpec)) wordDeepUptoCard

/-- THE SECOND FORM's CARD OF 'scullionlaw08.WordSmall'. -/
def wordSmallUptoCard : Claim7 := { stood := { row := wordSmallUptoRow, standIns := [], harness := (true, "35c2ac403dff63b7d288b07b6fc15519fe6b0a052dfa08155056c7a1ebd3d8db"), looks := true }, kinds := [], alts := [], laidByText := true, laidKinds := [.data, .pinned], laidTests := true, laidLooks := .later }
def WordSmallUptoCardSaid : Prop := Claim7.holds Tryd.pinned (.plain (OpenSpec.upto wordSmallSpec)) wordSmallUptoCard

/-- THE SECOND FORM's CARD OF 'scullionlaw08.WordPrints'. -/
def wordPrintsUptoCard : Claim7 := { stood := { row := wordPrintsUptoRow, standIns := [], harness := (true, "35c2ac403dff63b7d288b07b6fc15519fe6b0a052dfa08155056c7a1ebd3d8db"), looks := true }, kinds := [], alts := [], laidByText := true, laidKinds := [.data, .pinned], laidTests := true, laidLooks := .later }
def WordPrintsUptoCardSaid : Prop := Claim7.holds Tryd.pinned (.plain (OpenSpec.upto wordPrintsSpec)) wordPrintsUptoCard

/-- THE SECOND FORM's CARD OF 'scullionlaw08.WordBack'. -/
def wordBackUptoCard : Claim7 := { stood := { row := wordBackUptoRow, standIns := [], harness := (true, "35c2ac403dff63b7d288b07b6fc15519fe6b0a052dfa08155056c7a1ebd3d8db"), looks := true }, kinds := [], alts := [], laidByText := true, laidKinds := [.data, .pinned], laidTests := true, laidLooks := .later }
def WordBackUptoCardSaid : Prop := Claim7.holds Tryd.pinned (.plain (OpenSpec.upto wordBackSpec)) wordBackUptoCard

/-- THE SECOND FORM's CARD OF 'scullionlaw08.WordQuotes'. -/
def wordQuotesUptoCard : Claim7 := { stood := { row := wordQuotesUptoRow, standIns := [], harness := (true, "35c2ac403dff63b7d288b07b6fc15519fe6b0a052dfa08155056c7a1ebd3d8db"), looks := true }, kinds := [], alts := [], laidByText := true, laidKinds := [.data, .pinned], laidTests := true, laidLooks := .later }
def WordQuotesUptoCardSaid : Prop := Claim7.holds Tryd.pinned (.plain (OpenSpec.upto wordQuotesSpec)) wordQuotesUptoCard
end Rows
end Go.Proofs.YtckcdbkggaoomaaDoor
