/-
  DERIVED. GIVEN WITH THE SEED: THE CARDS: each row of YtkdlmkbpfdogcaaGreatDoorRows.lean that lists a variable, with what it lists TIED to the program's text (the seventh form; the later family's looks); each row that meets fmt, with fmt's text TOLD by the authors' own Lean function (tested against real Go, not proved from fmt's source: count such statements apart). THE CARD IS WHAT COUNTS. Prove the row's statement (the work); the ties are given (YtkdlmkbpfdogcaaGreatDoorTie.lean); close each card by the builder's one call (the guide's Derived/Test/ToyasCard.lean, 'card_holds'). Laid BY PROGRAM, IN A SANDBOX (cutbox-door.mjs). By AI agents, Wed Nov 11 2026. No macro, syntax, notation, axiom, sorry.
-/
import Derived.Test.YtkdlmkbpfdogcaaGreatDoorRows
import GoSem.ClaimSeven
namespace Go.Proofs.YtkdlmkbpfdogcaaGreatDoor
namespace Rows

/-- THE TIED CARD OF 'scullionlaw22.CacheOdd'. -/
def cacheOddCard : Claim7 := { stood := { row := cacheOddRow, standIns := [], harness := (true, "a299a91b3360abb6b5a976e06ce1bf7a7ef857a0c24118fc710d78b687c590dd"), looks := true }, kinds := [], alts := [], laidByText := true, laidKinds := [.data, .data, .data, .data, .sentinel, .sentinel, .pinned], laidTests := true, laidLooks := .later }
def CacheOddCardSaid : Prop := Claim7.holds Tryz.pinned (.plain (OpenSpec.ofChange cacheOddSpec)) cacheOddCard

/-- THE TIED CARD OF 'scullionlaw22.CacheFull'. -/
def cacheFullCard : Claim7 := { stood := { row := cacheFullRow, standIns := [], harness := (true, "a299a91b3360abb6b5a976e06ce1bf7a7ef857a0c24118fc710d78b687c590dd"), looks := true }, kinds := [], alts := [], laidByText := true, laidKinds := [.data, .data, .data, .data, .sentinel, .sentinel, .pinned], laidTests := true, laidLooks := .later }
def CacheFullCardSaid : Prop := Claim7.holds Tryz.pinned (.plain (OpenSpec.ofChange cacheFullSpec)) cacheFullCard

/-- THE TIED CARD OF 'scullionlaw22.CachePlays'. -/
def cachePlaysCard : Claim7 := { stood := { row := cachePlaysRow, standIns := [], harness := (true, "a299a91b3360abb6b5a976e06ce1bf7a7ef857a0c24118fc710d78b687c590dd"), looks := true }, kinds := [], alts := [], laidByText := true, laidKinds := [.data, .data, .data, .data, .sentinel, .sentinel, .pinned], laidTests := true, laidLooks := .later }
def CachePlaysCardSaid : Prop := Claim7.holds Tryz.pinned (.plain (OpenSpec.ofChange cachePlaysSpec)) cachePlaysCard

/-- THE TIED CARD OF 'scullionlaw22.CacheWhole'. -/
def cacheWholeCard : Claim7 := { stood := { row := cacheWholeRow, standIns := [], harness := (true, "a299a91b3360abb6b5a976e06ce1bf7a7ef857a0c24118fc710d78b687c590dd"), looks := true }, kinds := [], alts := [], laidByText := true, laidKinds := [.data, .data, .data, .data, .sentinel, .sentinel, .pinned], laidTests := true, laidLooks := .later }
def CacheWholeCardSaid : Prop := Claim7.holds Tryz.pinned (.plain (OpenSpec.ofChange cacheWholeSpec)) cacheWholeCard

/-- THE SECOND FORM's CARD OF 'scullionlaw22.CacheOdd'. -/
def cacheOddUptoCard : Claim7 := { stood := { row := cacheOddUptoRow, standIns := [], harness := (true, "a299a91b3360abb6b5a976e06ce1bf7a7ef857a0c24118fc710d78b687c590dd"), looks := true }, kinds := [], alts := [], laidByText := true, laidKinds := [.data, .data, .data, .data, .sentinel, .sentinel, .pinned], laidTests := true, laidLooks := .later }
def CacheOddUptoCardSaid : Prop := Claim7.holds Tryz.pinned (.plain (OpenSpec.upto cacheOddSpec)) cacheOddUptoCard

/-- THE SECOND FORM's CARD OF 'scullionlaw22.CacheFull'. -/
def cacheFullUptoCard : Claim7 := { stood := { row := cacheFullUptoRow, standIns := [], harness := (true, "a299a91b3360abb6b5a976e06ce1bf7a7ef857a0c24118fc710d78b687c590dd"), looks := true }, kinds := [], alts := [], laidByText := true, laidKinds := [.data, .data, .data, .data, .sentinel, .sentinel, .pinned], laidTests := true, laidLooks := .later }
def CacheFullUptoCardSaid : Prop := Claim7.holds Tryz.pinned (.plain (OpenSpec.upto cacheFullSpec)) cacheFullUptoCard

/-- THE SECOND FORM's CARD OF 'scullionlaw22.CachePlays'. -/
def cachePlaysUptoCard : Claim7 := { stood := { row := cachePlaysUptoRow, standIns := [], harness := (true, "a299a91b3360abb6b5a976e06ce1bf7a7ef857a0c24118fc710d78b687c590dd"), looks := true }, kinds := [], alts := [], laidByText := true, laidKinds := [.data, .data, .data, .data, .sentinel, .sentinel, .pinned], laidTests := true, laidLooks := .later }
def CachePlaysUptoCardSaid : Prop := Claim7.holds Tryz.pinned (.plain (OpenSpec.upto cachePlaysSpec)) cachePlaysUptoCard

/-- THE SECOND FORM's CARD OF 'scullionlaw22.CacheWhole'. -/
def cacheWholeUptoCard : Claim7 := { stood := { row := cacheWholeUptoRow, standIns := [], harness := (true, "a299a91b3360abb6b5a976e06ce1bf7a7ef857a0c24118fc710d78b687c590dd"), looks := true }, kinds := [], alts := [], laidByText := true, laidKinds := [.data, .data, .data, .data, .sentinel, .sentinel, .pinned], laidTests := true, laidLooks := .later }
def CacheWholeUptoCardSaid : Prop := Claim7.holds Tryz.pinned (.plain (OpenSpec.upto cacheWholeSpec)) cacheWholeUptoCard
end Rows
end Go.Proofs.YtkdlmkbpfdogcaaGreatDoor
