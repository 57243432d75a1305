/- The map literal of the parser's command: its operations, its keys. Printed by a program (wip/tools/gencmd.py). Conditions: none. -/
import Derived.Test.YtcoeiiihmpnagaaDoorGenB
import Derived.Test.YtcoeiiihmpnagaaDoorM3
import Derived.DeepKeys3
namespace Go.Proofs.YtcoeiiihmpnagaaDoor
open Go.RowKit Vc

abbrev cmdT : TypeId := 74
abbrev cmdTok : TypeId := 62
def tokV (n : Int) (t : List UInt8) : Value := .agg #[.int .i64 n, .string (S t)]
def cmdTs : List (Int × List UInt8 × Nat) := [(1, [40], fn_syntax_parser_sub), (0, [123], fn_syntax_parser_group), (0, [105, 102], fn_syntax_parser_choice), (0, [119, 104, 105, 108, 101], fn_syntax_parser_loop), (0, [117, 110, 116, 105, 108], fn_syntax_parser_loop), (0, [102, 111, 114], fn_syntax_parser_each), (0, [99, 97, 115, 101], fn_syntax_parser_cases)]
def cmdKey (k : Nat) : Value := let x := cmdTs.getD k (0, [], 0); tokV x.1 x.2.1
def cmdFv (k : Nat) : Value := .func (.func (cmdTs.getD k (0, [], 0)).2.2) #[] #[]
def cmdEs : List (Value × Value) := (List.range 7).map fun k => (cmdKey k, cmdFv k)
noncomputable def cmdOps : Array Oper := match Tryd.f39.body with
  | some (.seq _ (.seq _ (.seq (.region _ ops _) _))) => ops
  | _ => #[]
theorem seven {p : Nat → Prop} (h0 : p 0) (h1 : p 1) (h2 : p 2) (h3 : p 3) (h4 : p 4) (h5 : p 5) (h6 : p 6) (k : Nat) (hk : k < 7) : p k := by
  have : k = 0 ∨ k = 1 ∨ k = 2 ∨ k = 3 ∨ k = 4 ∨ k = 5 ∨ k = 6 := by omega
  rcases this with rfl | rfl | rfl | rfl | rfl | rfl | rfl <;> assumption
def ordB (ops : Array Oper) : Bool := (List.range ops.size).all fun i => match ops[i]? with
  | some o => o.after.toList.all fun e => !(Region.binds .any e) || Nat.blt e.on i
  | none => true
theorem ordB_out {ops : Array Oper} (h : ordB ops = true) : ∀ (i : Nat) o, ops[i]? = some o → ∀ e ∈ o.after, Region.binds .any e = true → e.on < i := by
  intro i o ho e he hb
  have hi : i < ops.size := (Array.getElem?_eq_some_iff.1 ho).1
  have h1 := List.all_eq_true.1 h i (List.mem_range.2 hi)
  rw [ho] at h1
  have h2 := List.all_eq_true.1 h1 e (Array.mem_toList_iff.2 he)
  rw [hb] at h2
  simpa using h2
set_option maxRecDepth 100000 in
theorem cmd_ops : LitOps Tryd.prog cmdOps 74 cmdKey cmdFv where
  size := rfl
  ord := ordB_out (by kernel_rfl)
  o0 := ⟨_, _, rfl, rfl, rfl, rfl⟩
  ob := seven (p := fun k => ∃ o, cmdOps[2 * k + 1]? = some o ∧ o.guard = none ∧ o.dst = some (13 + k) ∧ ∀ l w (K : KW), K (cmdKey k) w → opv Tryd.prog l o w K (fun _ _ => False))
    ⟨_, rfl, rfl, rfl, fun l w K h => Eq.mp (by kernel_rfl) h⟩ ⟨_, rfl, rfl, rfl, fun l w K h => Eq.mp (by kernel_rfl) h⟩ ⟨_, rfl, rfl, rfl, fun l w K h => Eq.mp (by kernel_rfl) h⟩ ⟨_, rfl, rfl, rfl, fun l w K h => Eq.mp (by kernel_rfl) h⟩ ⟨_, rfl, rfl, rfl, fun l w K h => Eq.mp (by kernel_rfl) h⟩ ⟨_, rfl, rfl, rfl, fun l w K h => Eq.mp (by kernel_rfl) h⟩ ⟨_, rfl, rfl, rfl, fun l w K h => Eq.mp (by kernel_rfl) h⟩
  oi := seven (p := fun k => ∃ o f, cmdOps[2 * k + 2]? = some o ∧ o.guard = none ∧ o.dst = none ∧ o.op = .insert 74 (.tmp 12) (.tmp (13 + k)) (.func f) ∧ cmdFv k = .func (.func f) #[] #[] ∧ (∃ e ∈ o.after, Region.binds .any e = true ∧ e.on = 0) ∧ ∃ e ∈ o.after, Region.binds .any e = true ∧ e.on = 2 * k + 1)
    ⟨_, _, rfl, rfl, rfl, rfl, rfl, ⟨_, Array.mem_of_getElem? (i := 0) rfl, rfl, rfl⟩, _, Array.mem_of_getElem? (i := 1) rfl, rfl, rfl⟩ ⟨_, _, rfl, rfl, rfl, rfl, rfl, ⟨_, Array.mem_of_getElem? (i := 0) rfl, rfl, rfl⟩, _, Array.mem_of_getElem? (i := 1) rfl, rfl, rfl⟩ ⟨_, _, rfl, rfl, rfl, rfl, rfl, ⟨_, Array.mem_of_getElem? (i := 0) rfl, rfl, rfl⟩, _, Array.mem_of_getElem? (i := 1) rfl, rfl, rfl⟩ ⟨_, _, rfl, rfl, rfl, rfl, rfl, ⟨_, Array.mem_of_getElem? (i := 0) rfl, rfl, rfl⟩, _, Array.mem_of_getElem? (i := 1) rfl, rfl, rfl⟩ ⟨_, _, rfl, rfl, rfl, rfl, rfl, ⟨_, Array.mem_of_getElem? (i := 0) rfl, rfl, rfl⟩, _, Array.mem_of_getElem? (i := 1) rfl, rfl, rfl⟩ ⟨_, _, rfl, rfl, rfl, rfl, rfl, ⟨_, Array.mem_of_getElem? (i := 0) rfl, rfl, rfl⟩, _, Array.mem_of_getElem? (i := 1) rfl, rfl, rfl⟩ ⟨_, _, rfl, rfl, rfl, rfl, rfl, ⟨_, Array.mem_of_getElem? (i := 0) rfl, rfl, rfl⟩, _, Array.mem_of_getElem? (i := 1) rfl, rfl, rfl⟩
  om := ⟨_, rfl, rfl, rfl, rfl, _, Array.mem_of_getElem? (i := 0) rfl, rfl, rfl⟩
  oa := ⟨_, rfl, rfl, rfl, rfl, _, Array.mem_of_getElem? (i := 0) rfl, rfl, rfl⟩
theorem tok_law : WideMaps.KeyLaw Tryd.prog 62 := deep_law (m := 3) (by decide) (by kernel_rfl) (by kernel_rfl) (by kernel_rfl)
end Go.Proofs.YtcoeiiihmpnagaaDoor
