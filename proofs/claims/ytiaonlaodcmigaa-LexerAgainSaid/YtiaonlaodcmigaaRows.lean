/-
  No cell of these rows narrows 'for every input' (looked for: loops, veiled, ifaces, maps, wideKeys, modest, calm, conditions, laid).
  DERIVED. THE GIVEN ROWS OF THIS SEAT. 4 by the template 'for every input the law returns true; each argument reads behind the call as it read before'; 0 by the template 'total and deterministic' (their statements: YtiaonlaodcmigaaTotals.lean).
  GIVEN WITH THE SEED: the statements are not yours to turn. If you find one false, say at which input.
  Laid BY PROGRAM, IN A SANDBOX (cutbox-rows.mjs): the forced cells as the released guide's own fill.sh prints them over the translation 4b00a737a4502996… (all of the seat's roots in one cut). By AI agents, Wed Nov 11 2026. No macro, syntax, notation, axiom, sorry.
-/
import Derived.Test.YtiaonlaodcmigaaChecked
import GoSem.Claim
import GoSem.ClaimJoined
import GoSem.ClaimMapViews
import Derived.JoinedTies
import Derived.KernelRfl
namespace Go.Proofs.Ytiaonlaodcmigaa
/- THE CELL 'sum', in the pinned program and in every row, IS THE sha256 OF THE DUMP (.gsa) THAT YtiaonlaodcmigaaProg.lean LOADS. Nothing in Lean hashes anything: it is a label: what it is worth is what the hold of that sum in a sandbox is worth. -/
noncomputable def Try.pinned : Pinned := { name := "ytiaonlaodcmigaa", sum := "4b00a737a45029965ee95f950c3e7d31cfe6192044deafebd9e2c58156185c29", checked := Try.checked }
namespace Rows
def none {H : Type} : Left H := { results := [], args := [] }

/-- 'scullionlaw07.LexerSmall': WHATEVER THE INPUT: true; the input reads as it did. -/
def lexerSmallSpec : ChangeSpec := { name := "lexerSmall", fn := fun _ => fun
  | [d] => { results := [.lit (.bool true)], args := [d] }
  | _ => none }
def lexerSmallRow : OpenClaim := { program := "ytiaonlaodcmigaa", sum := "4b00a737a45029965ee95f950c3e7d31cfe6192044deafebd9e2c58156185c29", func := "scullion/scullionlaw07.LexerSmall", spec := "lexerSmall", inPlace := ["internal/bytealg.IndexByteString"], unfollowed := true, recurses := true, apart := false }
def LexerSmallSaid : Prop := lexerSmallRow.holds Try.pinned (OpenSpec.ofChange lexerSmallSpec)

/-- ITS FALSE NEIGHBOUR: 'it returns false'. Refute it at one input. -/
def lexerSmallWrong : ChangeSpec := { name := "lexerSmall", fn := fun _ => fun
  | [d] => { results := [.lit (.bool false)], args := [d] }
  | _ => none }
def LexerSmallWrongFalsely : Prop := lexerSmallRow.holds Try.pinned (OpenSpec.ofChange lexerSmallWrong)

/-- 'scullionlaw07.LexerDeep': WHATEVER THE INPUT: true; the input reads as it did. -/
def lexerDeepSpec : ChangeSpec := { name := "lexerDeep", fn := fun _ => fun
  | [d1, d2] => { results := [.lit (.bool true)], args := [d1, d2] }
  | _ => none }
def lexerDeepRow : OpenClaim := { program := "ytiaonlaodcmigaa", sum := "4b00a737a45029965ee95f950c3e7d31cfe6192044deafebd9e2c58156185c29", func := "scullion/scullionlaw07.LexerDeep", spec := "lexerDeep", inPlace := ["internal/bytealg.IndexByteString"], unfollowed := true, recurses := true, apart := false }
def LexerDeepSaid : Prop := lexerDeepRow.holds Try.pinned (OpenSpec.ofChange lexerDeepSpec)

/-- ITS FALSE NEIGHBOUR: 'it returns false'. Refute it at one input. -/
def lexerDeepWrong : ChangeSpec := { name := "lexerDeep", fn := fun _ => fun
  | [d1, d2] => { results := [.lit (.bool false)], args := [d1, d2] }
  | _ => none }
def LexerDeepWrongFalsely : Prop := lexerDeepRow.holds Try.pinned (OpenSpec.ofChange lexerDeepWrong)

/-- 'scullionlaw07.LexerAgain': WHATEVER THE INPUT: true; the input reads as it did. -/
def lexerAgainSpec : ChangeSpec := { name := "lexerAgain", fn := fun _ => fun
  | [d1, d2, d3] => { results := [.lit (.bool true)], args := [d1, d2, d3] }
  | _ => none }
def lexerAgainRow : OpenClaim := { program := "ytiaonlaodcmigaa", sum := "4b00a737a45029965ee95f950c3e7d31cfe6192044deafebd9e2c58156185c29", func := "scullion/scullionlaw07.LexerAgain", spec := "lexerAgain", inPlace := ["internal/bytealg.IndexByteString"], unfollowed := true, recurses := true, apart := false }
def LexerAgainSaid : Prop := lexerAgainRow.holds Try.pinned (OpenSpec.ofChange lexerAgainSpec)

/-- ITS FALSE NEIGHBOUR: 'it returns false'. Refute it at one input. -/
def lexerAgainWrong : ChangeSpec := { name := "lexerAgain", fn := fun _ => fun
  | [d1, d2, d3] => { results := [.lit (.bool false)], args := [d1, d2, d3] }
  | _ => none }
def LexerAgainWrongFalsely : Prop := lexerAgainRow.holds Try.pinned (OpenSpec.ofChange lexerAgainWrong)

/-- 'scullionlaw07.LexerTwo': WHATEVER THE INPUT: true; the input reads as it did. -/
def lexerTwoSpec : ChangeSpec := { name := "lexerTwo", fn := fun _ => fun
  | [d1, d2, d3, d4] => { results := [.lit (.bool true)], args := [d1, d2, d3, d4] }
  | _ => none }
def lexerTwoRow : OpenClaim := { program := "ytiaonlaodcmigaa", sum := "4b00a737a45029965ee95f950c3e7d31cfe6192044deafebd9e2c58156185c29", func := "scullion/scullionlaw07.LexerTwo", spec := "lexerTwo", inPlace := ["internal/bytealg.IndexByteString"], unfollowed := true, recurses := true, apart := false }
def LexerTwoSaid : Prop := lexerTwoRow.holds Try.pinned (OpenSpec.ofChange lexerTwoSpec)

/-- ITS FALSE NEIGHBOUR: 'it returns false'. Refute it at one input. -/
def lexerTwoWrong : ChangeSpec := { name := "lexerTwo", fn := fun _ => fun
  | [d1, d2, d3, d4] => { results := [.lit (.bool false)], args := [d1, d2, d3, d4] }
  | _ => none }
def LexerTwoWrongFalsely : Prop := lexerTwoRow.holds Try.pinned (OpenSpec.ofChange lexerTwoWrong)

/- THE SECOND FORM. 'bulk': how many values and letters a reading holds, each counted each time it is reached (what is shared counts as often as it is met; a slice's spare places count too). A statement '..UptoSaid' is the law's where the arguments, and the package variables that the reading takes, are together of bulk at most 1048576: NARROWER than '..Said'. Prove '..Said' where nothing that the law and all that it calls make is longer than what came in: it says more and counts as full. Else prove '..UptoSaid'. A law counts once. -/
mutual
def uptoBulk {H : Type} : DataW H → Nat
  | .lit (.string bytes) => bytes.length + 1
  | .lit _ => 1
  | .nil => 1
  | .ptr d => uptoBulk d + 1
  | .slice elems spare => uptoBulkAll elems + uptoBulkAll spare + 1
  | .agg parts => uptoBulkAll parts + 1
  | .iface _ d => uptoBulk d + 1
  | .map entries => uptoBulkEntries entries + 1
  | .held _ => 1
def uptoBulkAll {H : Type} : List (DataW H) → Nat
  | [] => 0
  | d :: r => uptoBulk d + uptoBulkAll r
def uptoBulkEntries {H : Type} : List (Lit × DataW H) → Nat
  | [] => 0
  | x :: r => uptoBulkEntry x + uptoBulkEntries r
def uptoBulkEntry {H : Type} : Lit × DataW H → Nat
  | (.string bytes, d) => bytes.length + uptoBulk d + 1
  | (_, d) => uptoBulk d + 1
 end
def uptoSmall : (H : Type) → List (DataW H) → Bool := fun _ ds => decide (uptoBulkAll ds ≤ 1048576)
def OpenSpec.upto (s : _root_.Go.ChangeSpec) : _root_.Go.OpenSpec := { _root_.Go.OpenSpec.ofChange s with cond := some uptoSmall }

/-- 'scullionlaw07.LexerSmall', WHERE WHAT IT READS IS OF BULK AT MOST 1048576: true; the input reads as it did. -/
def lexerSmallUptoRow : OpenClaim := { program := "ytiaonlaodcmigaa", sum := "4b00a737a45029965ee95f950c3e7d31cfe6192044deafebd9e2c58156185c29", func := "scullion/scullionlaw07.LexerSmall", spec := "lexerSmall", inPlace := ["internal/bytealg.IndexByteString"], unfollowed := true, recurses := true, apart := false, narrowed := true }
def LexerSmallUptoSaid : Prop := lexerSmallUptoRow.holds Try.pinned (OpenSpec.upto lexerSmallSpec)

/-- 'scullionlaw07.LexerDeep', WHERE WHAT IT READS IS OF BULK AT MOST 1048576: true; the input reads as it did. -/
def lexerDeepUptoRow : OpenClaim := { program := "ytiaonlaodcmigaa", sum := "4b00a737a45029965ee95f950c3e7d31cfe6192044deafebd9e2c58156185c29", func := "scullion/scullionlaw07.LexerDeep", spec := "lexerDeep", inPlace := ["internal/bytealg.IndexByteString"], unfollowed := true, recurses := true, apart := false, narrowed := true }
def LexerDeepUptoSaid : Prop := lexerDeepUptoRow.holds Try.pinned (OpenSpec.upto lexerDeepSpec)

/-- 'scullionlaw07.LexerAgain', WHERE WHAT IT READS IS OF BULK AT MOST 1048576: true; the input reads as it did. -/
def lexerAgainUptoRow : OpenClaim := { program := "ytiaonlaodcmigaa", sum := "4b00a737a45029965ee95f950c3e7d31cfe6192044deafebd9e2c58156185c29", func := "scullion/scullionlaw07.LexerAgain", spec := "lexerAgain", inPlace := ["internal/bytealg.IndexByteString"], unfollowed := true, recurses := true, apart := false, narrowed := true }
def LexerAgainUptoSaid : Prop := lexerAgainUptoRow.holds Try.pinned (OpenSpec.upto lexerAgainSpec)

/-- 'scullionlaw07.LexerTwo', WHERE WHAT IT READS IS OF BULK AT MOST 1048576: true; the input reads as it did. -/
def lexerTwoUptoRow : OpenClaim := { program := "ytiaonlaodcmigaa", sum := "4b00a737a45029965ee95f950c3e7d31cfe6192044deafebd9e2c58156185c29", func := "scullion/scullionlaw07.LexerTwo", spec := "lexerTwo", inPlace := ["internal/bytealg.IndexByteString"], unfollowed := true, recurses := true, apart := false, narrowed := true }
def LexerTwoUptoSaid : Prop := lexerTwoUptoRow.holds Try.pinned (OpenSpec.upto lexerTwoSpec)

end Rows
end Go.Proofs.Ytiaonlaodcmigaa
