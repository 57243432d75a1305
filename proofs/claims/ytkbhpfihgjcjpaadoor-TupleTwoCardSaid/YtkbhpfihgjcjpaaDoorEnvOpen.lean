/- From a row's listed variables to what strconv's walk asks (Env). Conditions: as the theorem names them. -/
import Derived.Test.YtkbhpfihgjcjpaaDoorConv
import Derived.Test.YtkbhpfihgjcjpaaDoorRows
import Derived.Stop.LaidErr
import Derived.Lib.LaidTab
import Derived.MakeChecks
namespace Go.Proofs.YtkbhpfihgjcjpaaDoor
open Go.ChangeShapes Go.WideShapes Go.RowKit Vc
theorem rowErr (u : TypeId) (h : Tryd.prog.typeName? 3 u = some "*errors.errorString") : u = 85 :=
  typeName_ptr_named (nm := "errors.errorString") (by rw [show "*" ++ "errors.errorString" = "*errors.errorString" by decide]; kernel_rfl) (by kernel_rfl) (by decide) u (by rw [show "*" ++ "errors.errorString" = "*errors.errorString" by decide]; exact h)
theorem var_one {W : World} {n : String} {g : Nat} {v : Value} (hg : Tryd.prog.globalNamed n = some g) (h : W.var? Tryd.prog n = some #[v]) : W.cell? ⟨g, 0, none⟩ = some v := by
  have := World.var?_cell hg h 0
  simpa using this
/-- What stands behind the tables on the list. -/
theorem env_of {W : World} {r : List (String × DataW Unit)} (h : laidMet Tryd.prog (("internal/strconv.uint64pow10", Rows.laid_internal_strconv_uint64pow10) :: ("strconv.ErrRange", Rows.laid_strconv_ErrRange) :: ("strconv.ErrSyntax", Rows.laid_strconv_ErrSyntax) :: r) W) : Env W := by
  have ht : (Rows.laid_internal_strconv_uint64pow10 : DataW Unit) = Lib.tabData .u64 Lib.pow10Tab := by kernel_rfl
  rw [ht] at h
  have h1 := Lib.tabIs_of_head (n := 20) (by kernel_rfl : Tryd.prog.globalNamed "internal/strconv.uint64pow10" = some 3) (by kernel_rfl : (Tryd.prog.globals[3]?).map (·.type) = some 79) Tryd.underlying79 Tryd.underlying64 (by kernel_rfl) (by kernel_rfl) h
  obtain ⟨a2, s2, h2, _⟩ := laid_sentinel h.tail (by kernel_rfl : Tryd.prog.globalNamed "strconv.ErrRange" = some 2) (by kernel_rfl : (Tryd.prog.globals[2]?).map (·.type) = some 42) Tryd.underlying42 rowErr Tryd.underlying85 Tryd.underlying87 rfl rfl Tryd.underlying9 (by kernel_rfl) (by kernel_rfl)
  obtain ⟨a3, s3, h3, _⟩ := laid_sentinel h.tail.tail (by kernel_rfl : Tryd.prog.globalNamed "strconv.ErrSyntax" = some 1) (by kernel_rfl : (Tryd.prog.globals[1]?).map (·.type) = some 42) Tryd.underlying42 rowErr Tryd.underlying85 Tryd.underlying87 rfl rfl Tryd.underlying9 (by kernel_rfl) (by kernel_rfl)
  exact ⟨h1, ⟨_, rfl, var_one (by kernel_rfl) h3⟩, ⟨_, rfl, var_one (by kernel_rfl) h2⟩⟩
end Go.Proofs.YtkbhpfihgjcjpaaDoor
