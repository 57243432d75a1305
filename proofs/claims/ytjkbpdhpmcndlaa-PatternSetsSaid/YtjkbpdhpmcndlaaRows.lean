/-
  No cell of these rows narrows 'for every input' (looked for: loops, veiled, ifaces, maps, wideKeys, modest, calm, conditions, laid).
  DERIVED. THE GIVEN ROWS OF THIS SEAT. 8 by the template 'for every input the law returns true; each argument reads behind the call as it read before'; 0 by the template 'total and deterministic' (their statements: YtjkbpdhpmcndlaaTotals.lean).
  GIVEN WITH THE SEED: the statements are not yours to turn. If you find one false, say at which input.
  Laid BY PROGRAM, IN A SANDBOX (cutbox-rows.mjs): the forced cells as the released guide's own fill.sh prints them over the translation 1f25d2f042737a2e… (all of the seat's roots in one cut). By AI agents, Wed Nov 11 2026. No macro, syntax, notation, axiom, sorry.
-/
import Derived.Test.YtjkbpdhpmcndlaaChecked
import GoSem.Claim
import GoSem.ClaimJoined
import GoSem.ClaimMapViews
import Derived.JoinedTies
import Derived.KernelRfl
namespace Go.Proofs.Ytjkbpdhpmcndlaa
/- THE CELL 'sum', in the pinned program and in every row, IS THE sha256 OF THE DUMP (.gsa) THAT YtjkbpdhpmcndlaaProg.lean LOADS. Nothing in Lean hashes anything: it is a label: what it is worth is what the hold of that sum in a sandbox is worth. -/
noncomputable def Try.pinned : Pinned := { name := "ytjkbpdhpmcndlaa", sum := "1f25d2f042737a2e38d7e53d6b3d39494ce24fc82edebf3674540db04120795f", checked := Try.checked }
namespace Rows
def none {H : Type} : Left H := { results := [], args := [] }

/-- 'scullionlaw11.PatternMatches': WHATEVER THE INPUT: true; the input reads as it did. -/
def patternMatchesSpec : ChangeSpec := { name := "patternMatches", fn := fun _ => fun
  | [d1, d2] => { results := [.lit (.bool true)], args := [d1, d2] }
  | _ => none }
def patternMatchesRow : OpenClaim := { program := "ytjkbpdhpmcndlaa", sum := "1f25d2f042737a2e38d7e53d6b3d39494ce24fc82edebf3674540db04120795f", func := "scullion/scullionlaw11.PatternMatches", spec := "patternMatches", inPlace := ["internal/abi.NoEscape", "internal/bytealg.IndexByteString"], apart := false }
def PatternMatchesSaid : Prop := patternMatchesRow.holds Try.pinned (OpenSpec.ofChange patternMatchesSpec)

/-- ITS FALSE NEIGHBOUR: 'it returns false'. Refute it at one input. -/
def patternMatchesWrong : ChangeSpec := { name := "patternMatches", fn := fun _ => fun
  | [d1, d2] => { results := [.lit (.bool false)], args := [d1, d2] }
  | _ => none }
def PatternMatchesWrongFalsely : Prop := patternMatchesRow.holds Try.pinned (OpenSpec.ofChange patternMatchesWrong)

/-- 'scullionlaw11.PatternSmall': WHATEVER THE INPUT: true; the input reads as it did. -/
def patternSmallSpec : ChangeSpec := { name := "patternSmall", fn := fun _ => fun
  | [d1, d2, d3, d4] => { results := [.lit (.bool true)], args := [d1, d2, d3, d4] }
  | _ => none }
def patternSmallRow : OpenClaim := { program := "ytjkbpdhpmcndlaa", sum := "1f25d2f042737a2e38d7e53d6b3d39494ce24fc82edebf3674540db04120795f", func := "scullion/scullionlaw11.PatternSmall", spec := "patternSmall", inPlace := ["internal/abi.NoEscape", "internal/bytealg.IndexByteString"], apart := false }
def PatternSmallSaid : Prop := patternSmallRow.holds Try.pinned (OpenSpec.ofChange patternSmallSpec)

/-- ITS FALSE NEIGHBOUR: 'it returns false'. Refute it at one input. -/
def patternSmallWrong : ChangeSpec := { name := "patternSmall", fn := fun _ => fun
  | [d1, d2, d3, d4] => { results := [.lit (.bool false)], args := [d1, d2, d3, d4] }
  | _ => none }
def PatternSmallWrongFalsely : Prop := patternSmallRow.holds Try.pinned (OpenSpec.ofChange patternSmallWrong)

/-- 'scullionlaw11.PatternTexts': WHATEVER THE INPUT: true; the input reads as it did. -/
def patternTextsSpec : ChangeSpec := { name := "patternTexts", fn := fun _ => fun
  | [d] => { results := [.lit (.bool true)], args := [d] }
  | _ => none }
def patternTextsRow : OpenClaim := { program := "ytjkbpdhpmcndlaa", sum := "1f25d2f042737a2e38d7e53d6b3d39494ce24fc82edebf3674540db04120795f", func := "scullion/scullionlaw11.PatternTexts", spec := "patternTexts", inPlace := ["internal/abi.NoEscape", "internal/bytealg.IndexByteString"], apart := false }
def PatternTextsSaid : Prop := patternTextsRow.holds Try.pinned (OpenSpec.ofChange patternTextsSpec)

/-- ITS FALSE NEIGHBOUR: 'it returns false'. Refute it at one input. -/
def patternTextsWrong : ChangeSpec := { name := "patternTexts", fn := fun _ => fun
  | [d] => { results := [.lit (.bool false)], args := [d] }
  | _ => none }
def PatternTextsWrongFalsely : Prop := patternTextsRow.holds Try.pinned (OpenSpec.ofChange patternTextsWrong)

/-- 'scullionlaw11.PatternRemoves': WHATEVER THE INPUT: true; the input reads as it did. -/
def patternRemovesSpec : ChangeSpec := { name := "patternRemoves", fn := fun _ => fun
  | [d1, d2, d3, d4] => { results := [.lit (.bool true)], args := [d1, d2, d3, d4] }
  | _ => none }
def patternRemovesRow : OpenClaim := { program := "ytjkbpdhpmcndlaa", sum := "1f25d2f042737a2e38d7e53d6b3d39494ce24fc82edebf3674540db04120795f", func := "scullion/scullionlaw11.PatternRemoves", spec := "patternRemoves", inPlace := ["internal/abi.NoEscape", "internal/bytealg.IndexByteString"], apart := false }
def PatternRemovesSaid : Prop := patternRemovesRow.holds Try.pinned (OpenSpec.ofChange patternRemovesSpec)

/-- ITS FALSE NEIGHBOUR: 'it returns false'. Refute it at one input. -/
def patternRemovesWrong : ChangeSpec := { name := "patternRemoves", fn := fun _ => fun
  | [d1, d2, d3, d4] => { results := [.lit (.bool false)], args := [d1, d2, d3, d4] }
  | _ => none }
def PatternRemovesWrongFalsely : Prop := patternRemovesRow.holds Try.pinned (OpenSpec.ofChange patternRemovesWrong)

/-- 'scullionlaw11.PatternSelf': WHATEVER THE INPUT: true; the input reads as it did. -/
def patternSelfSpec : ChangeSpec := { name := "patternSelf", fn := fun _ => fun
  | [d1, d2] => { results := [.lit (.bool true)], args := [d1, d2] }
  | _ => none }
def patternSelfRow : OpenClaim := { program := "ytjkbpdhpmcndlaa", sum := "1f25d2f042737a2e38d7e53d6b3d39494ce24fc82edebf3674540db04120795f", func := "scullion/scullionlaw11.PatternSelf", spec := "patternSelf", inPlace := ["internal/abi.NoEscape", "internal/bytealg.IndexByteString"], apart := false }
def PatternSelfSaid : Prop := patternSelfRow.holds Try.pinned (OpenSpec.ofChange patternSelfSpec)

/-- ITS FALSE NEIGHBOUR: 'it returns false'. Refute it at one input. -/
def patternSelfWrong : ChangeSpec := { name := "patternSelf", fn := fun _ => fun
  | [d1, d2] => { results := [.lit (.bool false)], args := [d1, d2] }
  | _ => none }
def PatternSelfWrongFalsely : Prop := patternSelfRow.holds Try.pinned (OpenSpec.ofChange patternSelfWrong)

/-- 'scullionlaw11.PatternStars': WHATEVER THE INPUT: true; the input reads as it did. -/
def patternStarsSpec : ChangeSpec := { name := "patternStars", fn := fun _ => fun
  | [d1, d2, d3] => { results := [.lit (.bool true)], args := [d1, d2, d3] }
  | _ => none }
def patternStarsRow : OpenClaim := { program := "ytjkbpdhpmcndlaa", sum := "1f25d2f042737a2e38d7e53d6b3d39494ce24fc82edebf3674540db04120795f", func := "scullion/scullionlaw11.PatternStars", spec := "patternStars", inPlace := ["internal/abi.NoEscape", "internal/bytealg.IndexByteString"], apart := false }
def PatternStarsSaid : Prop := patternStarsRow.holds Try.pinned (OpenSpec.ofChange patternStarsSpec)

/-- ITS FALSE NEIGHBOUR: 'it returns false'. Refute it at one input. -/
def patternStarsWrong : ChangeSpec := { name := "patternStars", fn := fun _ => fun
  | [d1, d2, d3] => { results := [.lit (.bool false)], args := [d1, d2, d3] }
  | _ => none }
def PatternStarsWrongFalsely : Prop := patternStarsRow.holds Try.pinned (OpenSpec.ofChange patternStarsWrong)

/-- 'scullionlaw11.PatternCuts': WHATEVER THE INPUT: true; the input reads as it did. -/
def patternCutsSpec : ChangeSpec := { name := "patternCuts", fn := fun _ => fun
  | [d1, d2, d3, d4] => { results := [.lit (.bool true)], args := [d1, d2, d3, d4] }
  | _ => none }
def patternCutsRow : OpenClaim := { program := "ytjkbpdhpmcndlaa", sum := "1f25d2f042737a2e38d7e53d6b3d39494ce24fc82edebf3674540db04120795f", func := "scullion/scullionlaw11.PatternCuts", spec := "patternCuts", inPlace := ["internal/abi.NoEscape", "internal/bytealg.IndexByteString"], apart := false }
def PatternCutsSaid : Prop := patternCutsRow.holds Try.pinned (OpenSpec.ofChange patternCutsSpec)

/-- ITS FALSE NEIGHBOUR: 'it returns false'. Refute it at one input. -/
def patternCutsWrong : ChangeSpec := { name := "patternCuts", fn := fun _ => fun
  | [d1, d2, d3, d4] => { results := [.lit (.bool false)], args := [d1, d2, d3, d4] }
  | _ => none }
def PatternCutsWrongFalsely : Prop := patternCutsRow.holds Try.pinned (OpenSpec.ofChange patternCutsWrong)

/-- 'scullionlaw11.PatternSets': WHATEVER THE INPUT: true; the input reads as it did. -/
def patternSetsSpec : ChangeSpec := { name := "patternSets", fn := fun _ => fun
  | [d1, d2] => { results := [.lit (.bool true)], args := [d1, d2] }
  | _ => none }
def patternSetsRow : OpenClaim := { program := "ytjkbpdhpmcndlaa", sum := "1f25d2f042737a2e38d7e53d6b3d39494ce24fc82edebf3674540db04120795f", func := "scullion/scullionlaw11.PatternSets", spec := "patternSets", inPlace := ["internal/abi.NoEscape", "internal/bytealg.IndexByteString"], apart := false }
def PatternSetsSaid : Prop := patternSetsRow.holds Try.pinned (OpenSpec.ofChange patternSetsSpec)

/-- ITS FALSE NEIGHBOUR: 'it returns false'. Refute it at one input. -/
def patternSetsWrong : ChangeSpec := { name := "patternSets", fn := fun _ => fun
  | [d1, d2] => { results := [.lit (.bool false)], args := [d1, d2] }
  | _ => none }
def PatternSetsWrongFalsely : Prop := patternSetsRow.holds Try.pinned (OpenSpec.ofChange patternSetsWrong)

/- THE SECOND FORM. 'bulk': how many values and letters a reading holds, each counted each time it is reached (what is shared counts as often as it is met; a slice's spare places count too). A statement '..UptoSaid' is the law's where the arguments, and the package variables that the reading takes, are together of bulk at most 1048576: NARROWER than '..Said'. Prove '..Said' where nothing that the law and all that it calls make is longer than what came in: it says more and counts as full. Else prove '..UptoSaid'. A law counts once. -/
mutual
def uptoBulk {H : Type} : DataW H → Nat
  | .lit (.string bytes) => bytes.length + 1
  | .lit _ => 1
  | .nil => 1
  | .ptr d => uptoBulk d + 1
  | .slice elems spare => uptoBulkAll elems + uptoBulkAll spare + 1
  | .agg parts => uptoBulkAll parts + 1
  | .iface _ d => uptoBulk d + 1
  | .map entries => uptoBulkEntries entries + 1
  | .held _ => 1
def uptoBulkAll {H : Type} : List (DataW H) → Nat
  | [] => 0
  | d :: r => uptoBulk d + uptoBulkAll r
def uptoBulkEntries {H : Type} : List (Lit × DataW H) → Nat
  | [] => 0
  | x :: r => uptoBulkEntry x + uptoBulkEntries r
def uptoBulkEntry {H : Type} : Lit × DataW H → Nat
  | (.string bytes, d) => bytes.length + uptoBulk d + 1
  | (_, d) => uptoBulk d + 1
 end
def uptoSmall : (H : Type) → List (DataW H) → Bool := fun _ ds => decide (uptoBulkAll ds ≤ 1048576)
def OpenSpec.upto (s : _root_.Go.ChangeSpec) : _root_.Go.OpenSpec := { _root_.Go.OpenSpec.ofChange s with cond := some uptoSmall }

/-- 'scullionlaw11.PatternMatches', WHERE WHAT IT READS IS OF BULK AT MOST 1048576: true; the input reads as it did. -/
def patternMatchesUptoRow : OpenClaim := { program := "ytjkbpdhpmcndlaa", sum := "1f25d2f042737a2e38d7e53d6b3d39494ce24fc82edebf3674540db04120795f", func := "scullion/scullionlaw11.PatternMatches", spec := "patternMatches", inPlace := ["internal/abi.NoEscape", "internal/bytealg.IndexByteString"], apart := false, narrowed := true }
def PatternMatchesUptoSaid : Prop := patternMatchesUptoRow.holds Try.pinned (OpenSpec.upto patternMatchesSpec)

/-- 'scullionlaw11.PatternSmall', WHERE WHAT IT READS IS OF BULK AT MOST 1048576: true; the input reads as it did. -/
def patternSmallUptoRow : OpenClaim := { program := "ytjkbpdhpmcndlaa", sum := "1f25d2f042737a2e38d7e53d6b3d39494ce24fc82edebf3674540db04120795f", func := "scullion/scullionlaw11.PatternSmall", spec := "patternSmall", inPlace := ["internal/abi.NoEscape", "internal/bytealg.IndexByteString"], apart := false, narrowed := true }
def PatternSmallUptoSaid : Prop := patternSmallUptoRow.holds Try.pinned (OpenSpec.upto patternSmallSpec)

/-- 'scullionlaw11.PatternTexts', WHERE WHAT IT READS IS OF BULK AT MOST 1048576: true; the input reads as it did. -/
def patternTextsUptoRow : OpenClaim := { program := "ytjkbpdhpmcndlaa", sum := "1f25d2f042737a2e38d7e53d6b3d39494ce24fc82edebf3674540db04120795f", func := "scullion/scullionlaw11.PatternTexts", spec := "patternTexts", inPlace := ["internal/abi.NoEscape", "internal/bytealg.IndexByteString"], apart := false, narrowed := true }
def PatternTextsUptoSaid : Prop := patternTextsUptoRow.holds Try.pinned (OpenSpec.upto patternTextsSpec)

/-- 'scullionlaw11.PatternRemoves', WHERE WHAT IT READS IS OF BULK AT MOST 1048576: true; the input reads as it did. -/
def patternRemovesUptoRow : OpenClaim := { program := "ytjkbpdhpmcndlaa", sum := "1f25d2f042737a2e38d7e53d6b3d39494ce24fc82edebf3674540db04120795f", func := "scullion/scullionlaw11.PatternRemoves", spec := "patternRemoves", inPlace := ["internal/abi.NoEscape", "internal/bytealg.IndexByteString"], apart := false, narrowed := true }
def PatternRemovesUptoSaid : Prop := patternRemovesUptoRow.holds Try.pinned (OpenSpec.upto patternRemovesSpec)

/-- 'scullionlaw11.PatternSelf', WHERE WHAT IT READS IS OF BULK AT MOST 1048576: true; the input reads as it did. -/
def patternSelfUptoRow : OpenClaim := { program := "ytjkbpdhpmcndlaa", sum := "1f25d2f042737a2e38d7e53d6b3d39494ce24fc82edebf3674540db04120795f", func := "scullion/scullionlaw11.PatternSelf", spec := "patternSelf", inPlace := ["internal/abi.NoEscape", "internal/bytealg.IndexByteString"], apart := false, narrowed := true }
def PatternSelfUptoSaid : Prop := patternSelfUptoRow.holds Try.pinned (OpenSpec.upto patternSelfSpec)

/-- 'scullionlaw11.PatternStars', WHERE WHAT IT READS IS OF BULK AT MOST 1048576: true; the input reads as it did. -/
def patternStarsUptoRow : OpenClaim := { program := "ytjkbpdhpmcndlaa", sum := "1f25d2f042737a2e38d7e53d6b3d39494ce24fc82edebf3674540db04120795f", func := "scullion/scullionlaw11.PatternStars", spec := "patternStars", inPlace := ["internal/abi.NoEscape", "internal/bytealg.IndexByteString"], apart := false, narrowed := true }
def PatternStarsUptoSaid : Prop := patternStarsUptoRow.holds Try.pinned (OpenSpec.upto patternStarsSpec)

/-- 'scullionlaw11.PatternCuts', WHERE WHAT IT READS IS OF BULK AT MOST 1048576: true; the input reads as it did. -/
def patternCutsUptoRow : OpenClaim := { program := "ytjkbpdhpmcndlaa", sum := "1f25d2f042737a2e38d7e53d6b3d39494ce24fc82edebf3674540db04120795f", func := "scullion/scullionlaw11.PatternCuts", spec := "patternCuts", inPlace := ["internal/abi.NoEscape", "internal/bytealg.IndexByteString"], apart := false, narrowed := true }
def PatternCutsUptoSaid : Prop := patternCutsUptoRow.holds Try.pinned (OpenSpec.upto patternCutsSpec)

/-- 'scullionlaw11.PatternSets', WHERE WHAT IT READS IS OF BULK AT MOST 1048576: true; the input reads as it did. -/
def patternSetsUptoRow : OpenClaim := { program := "ytjkbpdhpmcndlaa", sum := "1f25d2f042737a2e38d7e53d6b3d39494ce24fc82edebf3674540db04120795f", func := "scullion/scullionlaw11.PatternSets", spec := "patternSets", inPlace := ["internal/abi.NoEscape", "internal/bytealg.IndexByteString"], apart := false, narrowed := true }
def PatternSetsUptoSaid : Prop := patternSetsUptoRow.holds Try.pinned (OpenSpec.upto patternSetsSpec)

end Rows
end Go.Proofs.Ytjkbpdhpmcndlaa
