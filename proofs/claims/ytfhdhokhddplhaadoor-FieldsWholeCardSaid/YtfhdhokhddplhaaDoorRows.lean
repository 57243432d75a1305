/-
  NARROWER THAN 'FOR EVERY INPUT', by the rows' own cells (each row's printed sentence says how): FieldsSmall: laid · FieldsWhole: laid · FieldsBlanks: laid · FieldsSplits: laid.
  DERIVED. THE GIVEN ROWS OF THIS SEAT. 4 by the template 'for every input the law returns true; each argument reads behind the call as it read before'; 0 by the template 'total and deterministic' (their statements: YtfhdhokhddplhaaDoorTotals.lean).
  GIVEN WITH THE SEED: the statements are not yours to turn. If you find one false, say at which input.
  Laid BY PROGRAM, IN A SANDBOX (cutbox-rows.mjs): the forced cells as the released guide's own fill.sh prints them over the translation b37139be4814b36e… (all of the seat's roots in one cut). By AI agents, Wed Nov 11 2026. No macro, syntax, notation, axiom, sorry.
-/
import Derived.Test.YtfhdhokhddplhaaDoorChecked
import GoSem.PinnedTables
import GoSem.Claim
import GoSem.ClaimJoined
import GoSem.ClaimMapViews
import Derived.JoinedTies
import Derived.KernelRfl
namespace Go.Proofs.YtfhdhokhddplhaaDoor
/- THE CELL 'sum', in the pinned program and in every row, IS THE sha256 OF THE DUMP (.gsa) THAT YtfhdhokhddplhaaDoorProg.lean LOADS. Nothing in Lean hashes anything: it is a label: what it is worth is what the hold of that sum in a sandbox is worth. -/
noncomputable def Tryd.pinned : Pinned := { name := "ytfhdhokhddplhaadoor", sum := "b37139be4814b36eb43bb42e098202468a371f799671cfc141eee7accff9ab76", checked := Tryd.checked }
namespace Rows
def none {H : Type} : Left H := { results := [], args := [] }

/- WHAT THE LISTED PACKAGE-LEVEL VARIABLES READ AS WHEN THE CALL BEGINS. Each datum BY PROGRAM (the guide's laid-datum.mjs) off the statement by which the dump's own 'gosem.cut.vars' lays the variable. In a bare row this is a premise. The card (YtfhdhokhddplhaaDoorCards.lean) ties it to the program's text. -/
def laid_unicode_utf8_acceptRanges {H : Type} : DataW H := .agg [.agg [.lit (.int .u8 128), .lit (.int .u8 191)], .agg [.lit (.int .u8 160), .lit (.int .u8 191)], .agg [.lit (.int .u8 128), .lit (.int .u8 159)], .agg [.lit (.int .u8 144), .lit (.int .u8 191)], .agg [.lit (.int .u8 128), .lit (.int .u8 143)], .agg [.lit (.int .u8 0), .lit (.int .u8 0)], .agg [.lit (.int .u8 0), .lit (.int .u8 0)], .agg [.lit (.int .u8 0), .lit (.int .u8 0)], .agg [.lit (.int .u8 0), .lit (.int .u8 0)], .agg [.lit (.int .u8 0), .lit (.int .u8 0)], .agg [.lit (.int .u8 0), .lit (.int .u8 0)], .agg [.lit (.int .u8 0), .lit (.int .u8 0)], .agg [.lit (.int .u8 0), .lit (.int .u8 0)], .agg [.lit (.int .u8 0), .lit (.int .u8 0)], .agg [.lit (.int .u8 0), .lit (.int .u8 0)], .agg [.lit (.int .u8 0), .lit (.int .u8 0)]]
/-- One of Go's own tables, pinned by name: the form's constant. -/
def laid_unicode_utf8_first : DataW Unit := Go.Pinned.utf8First

/-- 'scullionlaw14.FieldsSmall': WHATEVER THE INPUT: true; the input reads as it did. -/
def fieldsSmallSpec : ChangeSpec := { name := "fieldsSmall", fn := fun _ => fun
  | [d1, d2] => { results := [.lit (.bool true)], args := [d1, d2] }
  | _ => none }
def fieldsSmallRow : OpenClaim := { program := "ytfhdhokhddplhaadoor", sum := "b37139be4814b36eb43bb42e098202468a371f799671cfc141eee7accff9ab76", func := "scullion/scullionlaw14.FieldsSmall", spec := "fieldsSmall", inPlace := ["internal/bytealg.CountString", "internal/bytealg.IndexByteString", "internal/bytealg.IndexString", "internal/abi.NoEscape", "internal/bytealg.MakeNoZero"], named := ["internal/bytealg.MaxLen", "unicode/utf8.first", "unicode/utf8.acceptRanges"], apart := false, laid := [("unicode/utf8.acceptRanges", laid_unicode_utf8_acceptRanges), ("unicode/utf8.first", laid_unicode_utf8_first)] }
def FieldsSmallSaid : Prop := fieldsSmallRow.holds Tryd.pinned (OpenSpec.ofChange fieldsSmallSpec)

/-- ITS FALSE NEIGHBOUR: 'it returns false'. Refute it at one input. -/
def fieldsSmallWrong : ChangeSpec := { name := "fieldsSmall", fn := fun _ => fun
  | [d1, d2] => { results := [.lit (.bool false)], args := [d1, d2] }
  | _ => none }
def FieldsSmallWrongFalsely : Prop := fieldsSmallRow.holds Tryd.pinned (OpenSpec.ofChange fieldsSmallWrong)

/-- 'scullionlaw14.FieldsWhole': WHATEVER THE INPUT: true; the input reads as it did. -/
def fieldsWholeSpec : ChangeSpec := { name := "fieldsWhole", fn := fun _ => fun
  | [d] => { results := [.lit (.bool true)], args := [d] }
  | _ => none }
def fieldsWholeRow : OpenClaim := { program := "ytfhdhokhddplhaadoor", sum := "b37139be4814b36eb43bb42e098202468a371f799671cfc141eee7accff9ab76", func := "scullion/scullionlaw14.FieldsWhole", spec := "fieldsWhole", inPlace := ["internal/bytealg.CountString", "internal/bytealg.IndexByteString", "internal/bytealg.IndexString", "internal/abi.NoEscape", "internal/bytealg.MakeNoZero"], named := ["internal/bytealg.MaxLen", "unicode/utf8.first", "unicode/utf8.acceptRanges"], apart := false, laid := [("unicode/utf8.acceptRanges", laid_unicode_utf8_acceptRanges), ("unicode/utf8.first", laid_unicode_utf8_first)] }
def FieldsWholeSaid : Prop := fieldsWholeRow.holds Tryd.pinned (OpenSpec.ofChange fieldsWholeSpec)

/-- ITS FALSE NEIGHBOUR: 'it returns false'. Refute it at one input. -/
def fieldsWholeWrong : ChangeSpec := { name := "fieldsWhole", fn := fun _ => fun
  | [d] => { results := [.lit (.bool false)], args := [d] }
  | _ => none }
def FieldsWholeWrongFalsely : Prop := fieldsWholeRow.holds Tryd.pinned (OpenSpec.ofChange fieldsWholeWrong)

/-- 'scullionlaw14.FieldsBlanks': WHATEVER THE INPUT: true; the input reads as it did. -/
def fieldsBlanksSpec : ChangeSpec := { name := "fieldsBlanks", fn := fun _ => fun
  | [d1, d2] => { results := [.lit (.bool true)], args := [d1, d2] }
  | _ => none }
def fieldsBlanksRow : OpenClaim := { program := "ytfhdhokhddplhaadoor", sum := "b37139be4814b36eb43bb42e098202468a371f799671cfc141eee7accff9ab76", func := "scullion/scullionlaw14.FieldsBlanks", spec := "fieldsBlanks", inPlace := ["internal/bytealg.CountString", "internal/bytealg.IndexByteString", "internal/bytealg.IndexString", "internal/abi.NoEscape", "internal/bytealg.MakeNoZero"], named := ["internal/bytealg.MaxLen", "unicode/utf8.first", "unicode/utf8.acceptRanges"], apart := false, laid := [("unicode/utf8.acceptRanges", laid_unicode_utf8_acceptRanges), ("unicode/utf8.first", laid_unicode_utf8_first)] }
def FieldsBlanksSaid : Prop := fieldsBlanksRow.holds Tryd.pinned (OpenSpec.ofChange fieldsBlanksSpec)

/-- ITS FALSE NEIGHBOUR: 'it returns false'. Refute it at one input. -/
def fieldsBlanksWrong : ChangeSpec := { name := "fieldsBlanks", fn := fun _ => fun
  | [d1, d2] => { results := [.lit (.bool false)], args := [d1, d2] }
  | _ => none }
def FieldsBlanksWrongFalsely : Prop := fieldsBlanksRow.holds Tryd.pinned (OpenSpec.ofChange fieldsBlanksWrong)

/-- 'scullionlaw14.FieldsSplits': WHATEVER THE INPUT: true; the input reads as it did. -/
def fieldsSplitsSpec : ChangeSpec := { name := "fieldsSplits", fn := fun _ => fun
  | [d1, d2, d3] => { results := [.lit (.bool true)], args := [d1, d2, d3] }
  | _ => none }
def fieldsSplitsRow : OpenClaim := { program := "ytfhdhokhddplhaadoor", sum := "b37139be4814b36eb43bb42e098202468a371f799671cfc141eee7accff9ab76", func := "scullion/scullionlaw14.FieldsSplits", spec := "fieldsSplits", inPlace := ["internal/bytealg.CountString", "internal/bytealg.IndexByteString", "internal/bytealg.IndexString", "internal/abi.NoEscape", "internal/bytealg.MakeNoZero"], named := ["internal/bytealg.MaxLen", "unicode/utf8.first", "unicode/utf8.acceptRanges"], apart := false, laid := [("unicode/utf8.acceptRanges", laid_unicode_utf8_acceptRanges), ("unicode/utf8.first", laid_unicode_utf8_first)] }
def FieldsSplitsSaid : Prop := fieldsSplitsRow.holds Tryd.pinned (OpenSpec.ofChange fieldsSplitsSpec)

/-- ITS FALSE NEIGHBOUR: 'it returns false'. Refute it at one input. -/
def fieldsSplitsWrong : ChangeSpec := { name := "fieldsSplits", fn := fun _ => fun
  | [d1, d2, d3] => { results := [.lit (.bool false)], args := [d1, d2, d3] }
  | _ => none }
def FieldsSplitsWrongFalsely : Prop := fieldsSplitsRow.holds Tryd.pinned (OpenSpec.ofChange fieldsSplitsWrong)

/- THE SECOND FORM. 'bulk': how many values and letters a reading holds, each counted each time it is reached (what is shared counts as often as it is met; a slice's spare places count too). A statement '..UptoSaid' is the law's where the arguments, and the package variables that the reading takes, are together of bulk at most 1048576: NARROWER than '..Said'. Prove '..Said' where nothing that the law and all that it calls make is longer than what came in: it says more and counts as full. Else prove '..UptoSaid'. A law counts once. -/
mutual
def uptoBulk {H : Type} : DataW H → Nat
  | .lit (.string bytes) => bytes.length + 1
  | .lit _ => 1
  | .nil => 1
  | .ptr d => uptoBulk d + 1
  | .slice elems spare => uptoBulkAll elems + uptoBulkAll spare + 1
  | .agg parts => uptoBulkAll parts + 1
  | .iface _ d => uptoBulk d + 1
  | .map entries => uptoBulkEntries entries + 1
  | .held _ => 1
def uptoBulkAll {H : Type} : List (DataW H) → Nat
  | [] => 0
  | d :: r => uptoBulk d + uptoBulkAll r
def uptoBulkEntries {H : Type} : List (Lit × DataW H) → Nat
  | [] => 0
  | x :: r => uptoBulkEntry x + uptoBulkEntries r
def uptoBulkEntry {H : Type} : Lit × DataW H → Nat
  | (.string bytes, d) => bytes.length + uptoBulk d + 1
  | (_, d) => uptoBulk d + 1
 end
def uptoSmall : (H : Type) → List (DataW H) → Bool := fun _ ds => decide (uptoBulkAll ds ≤ 1048576)
def OpenSpec.upto (s : _root_.Go.ChangeSpec) : _root_.Go.OpenSpec := { _root_.Go.OpenSpec.ofChange s with cond := some uptoSmall }

/-- 'scullionlaw14.FieldsSmall', WHERE WHAT IT READS IS OF BULK AT MOST 1048576: true; the input reads as it did. -/
def fieldsSmallUptoRow : OpenClaim := { program := "ytfhdhokhddplhaadoor", sum := "b37139be4814b36eb43bb42e098202468a371f799671cfc141eee7accff9ab76", func := "scullion/scullionlaw14.FieldsSmall", spec := "fieldsSmall", inPlace := ["internal/bytealg.CountString", "internal/bytealg.IndexByteString", "internal/bytealg.IndexString", "internal/abi.NoEscape", "internal/bytealg.MakeNoZero"], named := ["internal/bytealg.MaxLen", "unicode/utf8.first", "unicode/utf8.acceptRanges"], apart := false, laid := [("unicode/utf8.acceptRanges", laid_unicode_utf8_acceptRanges), ("unicode/utf8.first", laid_unicode_utf8_first)], narrowed := true }
def FieldsSmallUptoSaid : Prop := fieldsSmallUptoRow.holds Tryd.pinned (OpenSpec.upto fieldsSmallSpec)

/-- 'scullionlaw14.FieldsWhole', WHERE WHAT IT READS IS OF BULK AT MOST 1048576: true; the input reads as it did. -/
def fieldsWholeUptoRow : OpenClaim := { program := "ytfhdhokhddplhaadoor", sum := "b37139be4814b36eb43bb42e098202468a371f799671cfc141eee7accff9ab76", func := "scullion/scullionlaw14.FieldsWhole", spec := "fieldsWhole", inPlace := ["internal/bytealg.CountString", "internal/bytealg.IndexByteString", "internal/bytealg.IndexString", "internal/abi.NoEscape", "internal/bytealg.MakeNoZero"], named := ["internal/bytealg.MaxLen", "unicode/utf8.first", "unicode/utf8.acceptRanges"], apart := false, laid := [("unicode/utf8.acceptRanges", laid_unicode_utf8_acceptRanges), ("unicode/utf8.first", laid_unicode_utf8_first)], narrowed := true }
def FieldsWholeUptoSaid : Prop := fieldsWholeUptoRow.holds Tryd.pinned (OpenSpec.upto fieldsWholeSpec)

/-- 'scullionlaw14.FieldsBlanks', WHERE WHAT IT READS IS OF BULK AT MOST 1048576: true; the input reads as it did. -/
def fieldsBlanksUptoRow : OpenClaim := { program := "ytfhdhokhddplhaadoor", sum := "b37139be4814b36eb43bb42e098202468a371f799671cfc141eee7accff9ab76", func := "scullion/scullionlaw14.FieldsBlanks", spec := "fieldsBlanks", inPlace := ["internal/bytealg.CountString", "internal/bytealg.IndexByteString", "internal/bytealg.IndexString", "internal/abi.NoEscape", "internal/bytealg.MakeNoZero"], named := ["internal/bytealg.MaxLen", "unicode/utf8.first", "unicode/utf8.acceptRanges"], apart := false, laid := [("unicode/utf8.acceptRanges", laid_unicode_utf8_acceptRanges), ("unicode/utf8.first", laid_unicode_utf8_first)], narrowed := true }
def FieldsBlanksUptoSaid : Prop := fieldsBlanksUptoRow.holds Tryd.pinned (OpenSpec.upto fieldsBlanksSpec)

/-- 'scullionlaw14.FieldsSplits', WHERE WHAT IT READS IS OF BULK AT MOST 1048576: true; the input reads as it did. -/
def fieldsSplitsUptoRow : OpenClaim := { program := "ytfhdhokhddplhaadoor", sum := "b37139be4814b36eb43bb42e098202468a371f799671cfc141eee7accff9ab76", func := "scullion/scullionlaw14.FieldsSplits", spec := "fieldsSplits", inPlace := ["internal/bytealg.CountString", "internal/bytealg.IndexByteString", "internal/bytealg.IndexString", "internal/abi.NoEscape", "internal/bytealg.MakeNoZero"], named := ["internal/bytealg.MaxLen", "unicode/utf8.first", "unicode/utf8.acceptRanges"], apart := false, laid := [("unicode/utf8.acceptRanges", laid_unicode_utf8_acceptRanges), ("unicode/utf8.first", laid_unicode_utf8_first)], narrowed := true }
def FieldsSplitsUptoSaid : Prop := fieldsSplitsUptoRow.holds Tryd.pinned (OpenSpec.upto fieldsSplitsSpec)

end Rows
end Go.Proofs.YtfhdhokhddplhaaDoor
