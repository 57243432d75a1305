/- What a reading of the laws' arguments tells; and from a row's listed variables to what strconv's walk asks (Env). Conditions: as each theorem names them. -/
import Derived.Test.YtgincpkggnndeaaGreatDoorArLaw3
import Derived.Test.YtgincpkggnndeaaGreatDoorOpenK
import Derived.Test.YtgincpkggnndeaaGreatDoorRows
import Derived.Stop.LaidErr
import Derived.Lib.LaidTab
import Derived.MakeChecks
namespace Go.Proofs.YtgincpkggnndeaaGreatDoor
open Go.ChangeShapes Go.WideShapes Go.ChangeAt Go.RowKit Vc

theorem rowErr (u : TypeId) (h : Tryz.prog.typeName? 3 u = some "*errors.errorString") : u = 161 :=
  typeName_ptr_named (nm := "errors.errorString") (by rw [show "*" ++ "errors.errorString" = "*errors.errorString" by decide]; kernel_rfl) (by kernel_rfl) (by decide) u (by rw [show "*" ++ "errors.errorString" = "*errors.errorString" by decide]; exact h)
theorem var_one {W : World} {n : String} {g : Nat} {v : Value} (hg : Tryz.prog.globalNamed n = some g) (h : W.var? Tryz.prog n = some #[v]) : W.cell? ⟨g, 0, none⟩ = some v := by
  have := World.var?_cell hg h 0
  simpa using this
/-- What stands behind the first two tables on the list. -/
theorem env_of {W : World} {r : List (String × DataW Unit)} {x : DataW Unit} (h : laidMet Tryz.prog (("internal/strconv.uint64pow10", Rows.laid_internal_strconv_uint64pow10) :: ("unicode/utf8.acceptRanges", x) :: ("strconv.ErrRange", Rows.laid_strconv_ErrRange) :: ("strconv.ErrSyntax", Rows.laid_strconv_ErrSyntax) :: r) W) : Env W := by
  have ht : (Rows.laid_internal_strconv_uint64pow10 : DataW Unit) = Lib.tabData .u64 Lib.pow10Tab := by kernel_rfl
  rw [ht] at h
  have h1 := Lib.tabIs_of_head (n := 20) (by kernel_rfl : Tryz.prog.globalNamed "internal/strconv.uint64pow10" = some 3) (by kernel_rfl : (Tryz.prog.globals[3]?).map (·.type) = some 150) Tryz.underlying150 Tryz.underlying138 (by kernel_rfl) (by kernel_rfl) h
  obtain ⟨a2, s2, h2, _⟩ := laid_sentinel h.tail.tail (by kernel_rfl : Tryz.prog.globalNamed "strconv.ErrRange" = some 5) (by kernel_rfl : (Tryz.prog.globals[5]?).map (·.type) = some 123) Tryz.underlying123 rowErr Tryz.underlying161 Tryz.underlying163 rfl rfl Tryz.underlying9 (by kernel_rfl) (by kernel_rfl)
  obtain ⟨a3, s3, h3, _⟩ := laid_sentinel h.tail.tail.tail (by kernel_rfl : Tryz.prog.globalNamed "strconv.ErrSyntax" = some 4) (by kernel_rfl : (Tryz.prog.globals[4]?).map (·.type) = some 123) Tryz.underlying123 rowErr Tryz.underlying161 Tryz.underlying163 rfl rfl Tryz.underlying9 (by kernel_rfl) (by kernel_rfl)
  exact ⟨h1, ⟨_, rfl, var_one (by kernel_rfl) h3⟩, ⟨_, rfl, var_one (by kernel_rfl) h2⟩⟩
section
variable {H : Type} {enc : TypeId × Value → H} {W : World} {base b0 : Nat} {spare : Nat → Bool} {held : Bool} {r : Reach} {v : Value} {d : DataW H} {ps : List MemPlace}
set_option maxRecDepth 100000 in
theorem open_u8l (hval : Value.okWide Tryz.prog W r b0 28 v) (h : DataW.Trod enc Tryz.prog W base spare held 28 v d ps) (_ : Sized Tryz.prog 28 d) : ∃ p L C vs, v = .slice p L C ∧ U8At W p L vs := open_u8s hval h
set_option maxRecDepth 100000 in
theorem open_nat8 (hval : Value.okWide Tryz.prog W r b0 5 v) (_ : DataW.Trod enc Tryz.prog W base spare held 5 v d ps) (_ : Sized Tryz.prog 5 d) : ∃ k : Nat, v = .int .u8 (k : Int) ∧ k < 256 := by
  obtain ⟨x, rfl, _, _, w⟩ := open_int Tryz.underlying5 hval ‹DataW.Trod enc Tryz.prog W base spare held 5 v d ps›
  obtain ⟨k, rfl, h⟩ := nat_u8 w
  exact ⟨k, rfl, h⟩
set_option maxRecDepth 100000 in
theorem open_i64 (hval : Value.okWide Tryz.prog W r b0 3 v) (h : DataW.Trod enc Tryz.prog W base spare held 3 v d ps) (_ : Sized Tryz.prog 3 d) : ∃ n : Int, v = .int .i64 n ∧ I64 n := by
  obtain ⟨x, rfl, _, _, w⟩ := open_int Tryz.underlying3 hval h
  refine ⟨x, rfl, ?_⟩
  simp [Lit.wf, IntKind.min, IntKind.max, IntKind.signed, IntKind.bits] at w
  unfold I64
  omega
set_option maxRecDepth 100000 in
theorem open_acts (hval : Value.okWide Tryz.prog W r b0 22 v) (h : DataW.Trod enc Tryz.prog W base spare held 22 v d ps) (hs : Sized Tryz.prog 22 d) : ∃ p L C, v = .slice p L C ∧ ActsAt W p L 140737488355328 := by
  obtain ⟨p, L, C, rfl⟩ := okWide_slice Tryz.underlying22 hval
  refine ⟨p, L, C, rfl, ?_⟩
  obtain ⟨fuel, h⟩ := h
  rcases open_slice_fields Tryz.underlying22 Tryz.underlying51 (by kernel_rfl) (by kernel_rfl) h with ⟨hc, _⟩ | ⟨a, len, cap, m, D, Pl, hc, _, hl, _, hm, hx, hf⟩
  · simp [Value.cells] at hc
    obtain ⟨rfl, rfl, rfl⟩ := hc
    intro i hi
    omega
  · simp [Value.cells] at hc
    obtain ⟨rfl, rfl, rfl⟩ := hc
    injection hx with hx _
    subst hx
    intro i hi
    have hsi := hs.elem Tryz.underlying22 (d := D i) (List.mem_map.2 ⟨i, List.mem_range.2 hi, rfl⟩)
    obtain ⟨ys, n, hD, _, _, hf⟩ := hf i (by rw [hm]; split <;> omega)
    rw [hD] at hsi
    obtain ⟨v0, y0, c0, _, t0⟩ := hf 0 _ rfl
    obtain ⟨v1, y1, c1, _, t1⟩ := hf 1 _ rfl
    obtain ⟨v2, y2, c2, z2, t2⟩ := hf 2 _ rfl
    obtain ⟨v3, y3, c3, z3, t3⟩ := hf 3 _ rfl
    obtain ⟨v4, y4, c4, _, t4⟩ := hf 4 _ rfl
    obtain ⟨v5, y5, c5, _, t5⟩ := hf 5 _ rfl
    obtain ⟨x0, rfl, w0⟩ := fintcell Tryz.underlying5 t0
    obtain ⟨x1, rfl, w1⟩ := fintcell Tryz.underlying5 t1
    obtain ⟨x2, rfl, d2⟩ := fstrcell Tryz.underlying9 t2
    obtain ⟨x3, rfl, d3⟩ := fstrcell Tryz.underlying9 t3
    obtain ⟨x4, rfl⟩ := fboolcell Tryz.underlying4 t4
    obtain ⟨x5, rfl⟩ := fboolcell Tryz.underlying4 t5
    have s2 := hsi.field (j := 2) (d := y2.1) Tryz.underlying51 rfl (by simp [z2])
    have s3 := hsi.field (j := 3) (d := y3.1) Tryz.underlying51 rfl (by simp [z3])
    rw [d2] at s2
    rw [d3] at s3
    obtain ⟨k0, rfl, h0⟩ := nat_u8 w0
    obtain ⟨k1, rfl, h1⟩ := nat_u8 w1
    refine ⟨a, rfl, ⟨k0, k1, x2, x3, x4, x5⟩, c0, ?_, ?_, ?_, ?_, ?_, h0, h1, s2.str, s3.str⟩
    · rw [Go.Deep.add_add]; exact c1
    · rw [Go.Deep.add_add]; exact c2
    · rw [Go.Deep.add_add]; exact c3
    · rw [Go.Deep.add_add]; exact c4
    · rw [Go.Deep.add_add]; exact c5
end
end Go.Proofs.YtgincpkggnndeaaGreatDoor
