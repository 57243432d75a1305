/-
  DERIVED. GIVEN WITH THE SEED: THE CARDS: each row of YtihaaoehhgmphaaGreatDoorRows.lean that lists a variable, with what it lists TIED to the program's text (the seventh form; the later family's looks); each row that meets fmt, with fmt's text TOLD by the authors' own Lean function (tested against real Go, not proved from fmt's source: count such statements apart). THE CARD IS WHAT COUNTS. Prove the row's statement (the work); the ties are given (YtihaaoehhgmphaaGreatDoorTie.lean); close each card by the builder's one call (the guide's Derived/Test/ToyasCard.lean, 'card_holds'). Laid BY PROGRAM, IN A SANDBOX (cutbox-door.mjs). By AI agents, Wed Nov 11 2026. No macro, syntax, notation, axiom, sorry.
-/
import Derived.Test.YtihaaoehhgmphaaGreatDoorRows
import GoSem.ClaimSeven
namespace Go.Proofs.YtihaaoehhgmphaaGreatDoor
namespace Rows

/-- THE TIED CARD OF 'sculliontop.TopArith'. -/
def topArithCard : Claim7 := { stood := { row := topArithRow, standIns := [], harness := (true, "2698bfb0c665e926bfb03521c23883f72f326f2bc20ec112200e5a998813a543"), looks := true }, kinds := [], alts := [], laidByText := true, laidKinds := [.pinned, .data, .data, .data, .data, .sentinel, .sentinel], laidTests := true, laidLooks := .later }
def TopArithCardSaid : Prop := Claim7.holds Tryz.pinned (.plain (OpenSpec.ofChange topArithSpec)) topArithCard

/-- THE TIED CARD OF 'sculliontop.TopPipes'. -/
def topPipesCard : Claim7 := { stood := { row := topPipesRow, standIns := [], harness := (true, "2698bfb0c665e926bfb03521c23883f72f326f2bc20ec112200e5a998813a543"), looks := true }, kinds := [], alts := [], laidByText := true, laidKinds := [.pinned, .data, .data, .data, .data, .sentinel, .sentinel], laidTests := true, laidLooks := .later }
def TopPipesCardSaid : Prop := Claim7.holds Tryz.pinned (.plain (OpenSpec.ofChange topPipesSpec)) topPipesCard

/-- THE TIED CARD OF 'sculliontop.TopGlobs'. -/
def topGlobsCard : Claim7 := { stood := { row := topGlobsRow, standIns := [], harness := (true, "2698bfb0c665e926bfb03521c23883f72f326f2bc20ec112200e5a998813a543"), looks := true }, kinds := [], alts := [], laidByText := true, laidKinds := [.pinned, .data, .data, .data, .data, .sentinel, .sentinel], laidTests := true, laidLooks := .later }
def TopGlobsCardSaid : Prop := Claim7.holds Tryz.pinned (.plain (OpenSpec.ofChange topGlobsSpec)) topGlobsCard

/-- THE SECOND FORM's CARD OF 'sculliontop.TopArith'. -/
def topArithUptoCard : Claim7 := { stood := { row := topArithUptoRow, standIns := [], harness := (true, "2698bfb0c665e926bfb03521c23883f72f326f2bc20ec112200e5a998813a543"), looks := true }, kinds := [], alts := [], laidByText := true, laidKinds := [.pinned, .data, .data, .data, .data, .sentinel, .sentinel], laidTests := true, laidLooks := .later }
def TopArithUptoCardSaid : Prop := Claim7.holds Tryz.pinned (.plain (OpenSpec.upto topArithSpec)) topArithUptoCard

/-- THE SECOND FORM's CARD OF 'sculliontop.TopPipes'. -/
def topPipesUptoCard : Claim7 := { stood := { row := topPipesUptoRow, standIns := [], harness := (true, "2698bfb0c665e926bfb03521c23883f72f326f2bc20ec112200e5a998813a543"), looks := true }, kinds := [], alts := [], laidByText := true, laidKinds := [.pinned, .data, .data, .data, .data, .sentinel, .sentinel], laidTests := true, laidLooks := .later }
def TopPipesUptoCardSaid : Prop := Claim7.holds Tryz.pinned (.plain (OpenSpec.upto topPipesSpec)) topPipesUptoCard

/-- THE SECOND FORM's CARD OF 'sculliontop.TopGlobs'. -/
def topGlobsUptoCard : Claim7 := { stood := { row := topGlobsUptoRow, standIns := [], harness := (true, "2698bfb0c665e926bfb03521c23883f72f326f2bc20ec112200e5a998813a543"), looks := true }, kinds := [], alts := [], laidByText := true, laidKinds := [.pinned, .data, .data, .data, .data, .sentinel, .sentinel], laidTests := true, laidLooks := .later }
def TopGlobsUptoCardSaid : Prop := Claim7.holds Tryz.pinned (.plain (OpenSpec.upto topGlobsSpec)) topGlobsUptoCard
end Rows
end Go.Proofs.YtihaaoehhgmphaaGreatDoor
