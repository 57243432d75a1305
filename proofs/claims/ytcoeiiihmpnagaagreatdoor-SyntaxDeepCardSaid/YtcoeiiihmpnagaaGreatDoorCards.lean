/-
  DERIVED. GIVEN WITH THE SEED: THE CARDS: each row of YtcoeiiihmpnagaaGreatDoorRows.lean that lists a variable, with what it lists TIED to the program's text (the seventh form; the later family's looks); each row that meets fmt, with fmt's text TOLD by the authors' own Lean function (tested against real Go, not proved from fmt's source: count such statements apart). THE CARD IS WHAT COUNTS. Prove the row's statement (the work); the ties are given (YtcoeiiihmpnagaaGreatDoorTie.lean); close each card by the builder's one call (the guide's Derived/Test/ToyasCard.lean, 'card_holds'). Laid BY PROGRAM, IN A SANDBOX (cutbox-door.mjs). By AI agents, Wed Nov 11 2026. No macro, syntax, notation, axiom, sorry.
-/
import Derived.Test.YtcoeiiihmpnagaaGreatDoorRows
import GoSem.ClaimSeven
namespace Go.Proofs.YtcoeiiihmpnagaaGreatDoor
namespace Rows

/-- THE TIED CARD OF 'scullionlaw09.SyntaxPhrases'. -/
def syntaxPhrasesCard : Claim7 := { stood := { row := syntaxPhrasesRow, standIns := [], harness := (true, "99e8bca50adea294f140e374a5e2a848103b48641b6212cd29d2dcfadf686095"), looks := true }, kinds := [], alts := [], laidByText := true, laidKinds := [.data, .pinned], laidTests := true, laidLooks := .later }
def SyntaxPhrasesCardSaid : Prop := Claim7.holds Tryz.pinned (.plain (OpenSpec.ofChange syntaxPhrasesSpec)) syntaxPhrasesCard

/-- THE TIED CARD OF 'scullionlaw09.SyntaxDeep'. -/
def syntaxDeepCard : Claim7 := { stood := { row := syntaxDeepRow, standIns := [], harness := (true, "99e8bca50adea294f140e374a5e2a848103b48641b6212cd29d2dcfadf686095"), looks := true }, kinds := [], alts := [], laidByText := true, laidKinds := [.data, .pinned], laidTests := true, laidLooks := .later }
def SyntaxDeepCardSaid : Prop := Claim7.holds Tryz.pinned (.plain (OpenSpec.ofChange syntaxDeepSpec)) syntaxDeepCard

/-- THE SECOND FORM's CARD OF 'scullionlaw09.SyntaxPhrases'. -/
def syntaxPhrasesUptoCard : Claim7 := { stood := { row := syntaxPhrasesUptoRow, standIns := [], harness := (true, "99e8bca50adea294f140e374a5e2a848103b48641b6212cd29d2dcfadf686095"), looks := true }, kinds := [], alts := [], laidByText := true, laidKinds := [.data, .pinned], laidTests := true, laidLooks := .later }
def SyntaxPhrasesUptoCardSaid : Prop := Claim7.holds Tryz.pinned (.plain (OpenSpec.upto syntaxPhrasesSpec)) syntaxPhrasesUptoCard

/-- THE SECOND FORM's CARD OF 'scullionlaw09.SyntaxDeep'. -/
def syntaxDeepUptoCard : Claim7 := { stood := { row := syntaxDeepUptoRow, standIns := [], harness := (true, "99e8bca50adea294f140e374a5e2a848103b48641b6212cd29d2dcfadf686095"), looks := true }, kinds := [], alts := [], laidByText := true, laidKinds := [.data, .pinned], laidTests := true, laidLooks := .later }
def SyntaxDeepUptoCardSaid : Prop := Claim7.holds Tryz.pinned (.plain (OpenSpec.upto syntaxDeepSpec)) syntaxDeepUptoCard
end Rows
end Go.Proofs.YtcoeiiihmpnagaaGreatDoor
