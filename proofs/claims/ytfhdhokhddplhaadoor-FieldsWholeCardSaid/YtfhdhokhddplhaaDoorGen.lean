/- What the functions of this seat come to, and that it implies their calls: printed by a program (wip/tools/gen.py). Conditions: none. -/
import Derived.Test.YtfhdhokhddplhaaDoorVc4
import Derived.Test.YtfhdhokhddplhaaDoorChecked
namespace Go.Proofs.YtfhdhokhddplhaaDoor
open Go.RowKit Vc

abbrev fn_main_main : Nat := 0
abbrev fn_gosem_cut : Nat := 1
abbrev fn_gosem_cut_init : Nat := 2
abbrev fn_law14_FieldsSmall : Nat := 3
abbrev fn_law14_FieldsWhole : Nat := 4
abbrev fn_law14_FieldsBlanks : Nat := 5
abbrev fn_law14_FieldsSplits : Nat := 6
abbrev fn_law14_Made : Nat := 7
abbrev fn_law14_awake : Nat := 8
abbrev fn_ref02_Same : Nat := 9
abbrev fn_fields_Fields : Nat := 10
abbrev fn_ref14_Fields : Nat := 11
abbrev fn_fields_Joined : Nat := 12
abbrev fn_ref14_Joined : Nat := 13
abbrev fn_law07_Pieces : Nat := 14
abbrev fn_fields_splitter_take : Nat := 15
abbrev fn_fields_splitter_end : Nat := 16
abbrev fn_ref14_Active : Nat := 17
abbrev fn_ref11_Escape : Nat := 18
abbrev fn_ref14_state_split : Nat := 19
abbrev fn_ref14_state_end : Nat := 20
abbrev fn_strings_Builder_WriteByte : Nat := 21
abbrev fn_strings_Builder_WriteString : Nat := 22
abbrev fn_pattern_Escape : Nat := 23
abbrev fn_fields_active : Nat := 24
abbrev fn_strings_Builder_String : Nat := 25
abbrev fn_fields_splitter_put : Nat := 26
abbrev fn_fields_splitter_split : Nat := 27
abbrev fn_strings_Builder_Reset : Nat := 28
abbrev fn_ref14_in : Nat := 29
abbrev fn_strings_Builder_copyCheck : Nat := 30
abbrev fn_strings_ReplaceAll : Nat := 31
abbrev fn_strings_Contains : Nat := 32
abbrev fn_internal_abi_NoEscape : Nat := 33
abbrev fn_strings_Replace : Nat := 34
abbrev fn_strings_Index : Nat := 35
abbrev fn_strings_Count : Nat := 36
abbrev fn_strings_Builder_Grow : Nat := 37
abbrev fn_unicode_utf8_DecodeRuneInString : Nat := 38
abbrev fn_internal_stringslite_Index : Nat := 39
abbrev fn_unicode_utf8_RuneCountInString : Nat := 40
abbrev fn_internal_bytealg_CountString : Nat := 41
abbrev fn_strings_Builder_grow : Nat := 42
abbrev fn_unicode_utf8_decodeRuneInStringSlow : Nat := 43
abbrev fn_internal_stringslite_IndexByte : Nat := 44
abbrev fn_internal_bytealg_IndexString : Nat := 45
abbrev fn_internal_bytealg_Cutover : Nat := 46
abbrev fn_internal_bytealg_IndexRabinKarp_string : Nat := 47
abbrev fn_internal_bytealg_MakeNoZero : Nat := 48
abbrev fn_internal_bytealg_IndexByteString : Nat := 49
abbrev fn_internal_bytealg_hashStr_string : Nat := 50
abbrev fn_runtime_boundsError_Error : Nat := 51
abbrev fn_runtime_boundsError_RuntimeError : Nat := 52
abbrev fn_runtime_errorString_Error : Nat := 53
abbrev fn_runtime_errorString_RuntimeError : Nat := 54
abbrev fn_runtime_plainError_Error : Nat := 55
abbrev fn_runtime_plainError_RuntimeError : Nat := 56
abbrev fn_runtime_errorAddressString_Error : Nat := 57
abbrev fn_runtime_errorAddressString_RuntimeError : Nat := 58
abbrev fn_runtime_TypeAssertionError_Error : Nat := 59
abbrev fn_runtime_TypeAssertionError_RuntimeError : Nat := 60
abbrev fn_runtime_PanicNilError_Error : Nat := 61
abbrev fn_runtime_PanicNilError_RuntimeError : Nat := 62
abbrev fn_internal_abi_Type_Align : Nat := 63
abbrev fn_internal_runtime_maps_unhashableTypeError_Error : Nat := 64
abbrev fn_internal_runtime_maps_unhashableTypeError_RuntimeError : Nat := 65
abbrev fn_internal_abi_Kind_String : Nat := 66
abbrev fn_var_s_door_gosem_cut_vars_holds_initialisers_alone_see_the_manifest_s_row_cutvarsword_look_11_test_files_too : Nat := 67
abbrev fn_var_s_door_the_look_of_gosem_cut_vars_went_over_the_folder_that_the_caller_named_as_the_repository_s_root_look_11 : Nat := 68
abbrev fn_var_s_door_unicode_utf8_acceptRanges_is_laid_by_its_own_initialiser_plain_data_look_11 : Nat := 69
abbrev fn_var_s_door_unicode_utf8_first_is_laid_by_its_text_alone_pinned_1 : Nat := 70
abbrev fn_gosem_cut_vars : Nat := 71
abbrev ty_tuple : Nat := 0
abbrev ty_func : Nat := 1
abbrev ty_int64 : Nat := 2
abbrev ty_int : Nat := 3
abbrev ty_bool : Nat := 4
abbrev ty_uint8 : Nat := 5
abbrev ty_abi_BoundsErrorCode : Nat := 6
abbrev ty_runtime_boundsError : Nat := 8
abbrev ty_string : Nat := 9
abbrev ty_runtime_errorString : Nat := 10
abbrev ty_runtime_plainError : Nat := 11
abbrev ty_uintptr : Nat := 12
abbrev ty_struct_msg_string_addr_uintptr : Nat := 13
abbrev ty_runtime_errorAddressString : Nat := 14
abbrev ty_pt_runtime_TypeAssertionError : Nat := 15
abbrev ty_pt_runtime_PanicNilError : Nat := 16
abbrev ty_pt_abi_Type : Nat := 17
abbrev ty_struct_typ_pt_abi_Type : Nat := 18
abbrev ty_maps_unhashableTypeError : Nat := 19
abbrev ty_interface : Nat := 20
abbrev ty_int32 : Nat := 21
abbrev ty_sl_scullionlaw14_Bit : Nat := 22
abbrev ty_sl_api_Seg : Nat := 23
abbrev ty_funcsl_scullionlaw14_Bit_sl_api_Seg : Nat := 24
abbrev ty_sl_string : Nat := 25
abbrev ty_func_bool : Nat := 26
abbrev ty_funcsl_string_sl_string_bool : Nat := 27
abbrev ty_funcsl_api_Seg_string_sl_string : Nat := 28
abbrev ty_funcsl_api_Seg_bool_string : Nat := 29
abbrev ty_funcsl_scullionlaw14_Bit_uint8_bool : Nat := 30
abbrev ty_struct_Kind_int_Text_string : Nat := 31
abbrev ty_api_Seg : Nat := 32
abbrev ty_funcsl_scullionlaw14_Bit_bool : Nat := 33
abbrev ty_funcstring_string_bool : Nat := 34
abbrev ty_funcstring_string_string_bool : Nat := 35
abbrev ty_sl_uint8 : Nat := 36
abbrev ty_struct_Kind_uint8_L_sl_uint8 : Nat := 37
abbrev ty_scullionlaw14_Bit : Nat := 38
abbrev ty_funcsl_uint8_sl_string_string : Nat := 39
abbrev ty_pt_fields_splitter : Nat := 40
abbrev ty_pt_strings_Builder : Nat := 41
abbrev ty_strings_Builder : Nat := 43
abbrev ty_fields_splitter : Nat := 45
abbrev ty_funcapi_Seg : Nat := 46
abbrev ty_pt_scullionref14_state : Nat := 47
abbrev ty_scullionref14_state : Nat := 49
abbrev ty_funcstring_string : Nat := 50
abbrev ty_interface_Error_string : Nat := 52
abbrev ty_error : Nat := 53
abbrev ty_funcuint8_error : Nat := 54
abbrev ty_funcstring_int_error : Nat := 56
abbrev ty_func_string : Nat := 57
abbrev ty_funcstring : Nat := 58
abbrev ty_funcuint8_string_bool : Nat := 59
abbrev ty_funcstring_string_string_string : Nat := 60
abbrev ty_pt_uint8 : Nat := 61
abbrev ty_unsafe_Pointer : Nat := 62
abbrev ty_funcunsafe_Pointer_unsafe_Pointer : Nat := 63
abbrev ty_funcstring_string_string_int_string : Nat := 64
abbrev ty_funcstring_string_int : Nat := 65
abbrev ty_funcint : Nat := 66
abbrev ty_funcstring_int32_int : Nat := 68
abbrev ty_funcstring_int : Nat := 69
abbrev ty_funcstring_uint8_int : Nat := 70
abbrev ty_funcint_int : Nat := 71
abbrev ty_uint : Nat := 72
abbrev ty_funcint_sl_uint8 : Nat := 73
abbrev ty_256_uint8 : Nat := 74
abbrev ty_struct_lo_uint8_hi_uint8 : Nat := 75
abbrev ty_utf8_acceptRange : Nat := 76
abbrev ty_16_utf8_acceptRange : Nat := 77
abbrev ty_uint32 : Nat := 78
abbrev ty_funcstring_uint32_uint32 : Nat := 80
abbrev ty_runtime_TypeAssertionError : Nat := 82
abbrev ty_0_pt_runtime_PanicNilError : Nat := 83
abbrev ty_struct_0_pt_runtime_PanicNilError : Nat := 84
abbrev ty_runtime_PanicNilError : Nat := 85
abbrev ty_func_int : Nat := 86
abbrev ty_abi_TFlag : Nat := 87
abbrev ty_abi_Kind : Nat := 88
abbrev ty_abi_NameOff : Nat := 90
abbrev ty_abi_TypeOff : Nat := 91
abbrev ty_abi_Type : Nat := 93

/- scullion/scullionlaw14.FieldsSmall -/
set_option maxRecDepth 100000 in
def vc_law14_FieldsSmall (l : Option Addr) (lL : Nat) (lC : Nat) (ifs : Int) (w : World) (R : Ending → World → Prop) : Prop :=
  Calls Tryd.prog fn_law14_Made #[(.slice l lL lC)] w (fun ed w1 => (∃ (r : Option Addr) (rL rC : Nat), ed = .returned (.slice r rL rC) ∧ letW (w1.alloc (.cells #[(.string (S ([32, 9, 10] : List UInt8))), (.string (S ([58] : List UInt8))), (.string (S ([32, 58] : List UInt8))), (.string (S ([] : List UInt8))), (.string (S ([58, 9] : List UInt8))), (.string (S ([97] : List UInt8))), (.string (S ([92, 32] : List UInt8)))] 9)) (fun (w2 : World) => (7 : Int) ≠ 0 ∧ 0 ≤ (Int.tmod (IntKind.i64.wrap ifs) (7 : Int)) ∧ (Int.tmod (IntKind.i64.wrap ifs) (7 : Int)) < (7 : Nat) ∧ ∃ v : List UInt8, w2.cell? ((Addr.mk w1.heap.size 0 none).add (Int.toNat (Int.tmod (IntKind.i64.wrap ifs) (7 : Int)) * 1)) = some (.string (S v)) ∧ Calls Tryd.prog fn_law14_awake #[] w2 (fun ed1 w3 => (∃ r1 : Bool, ed1 = .returned (.bool r1) ∧ bsel r1 (Calls Tryd.prog fn_fields_Fields #[(.slice r rL rC), (.string (S v))] w3 (fun ed2 w4 => (∃ (r2 : Option Addr) (rL1 rC1 : Nat), ed2 = .returned (.slice r2 rL1 rC1) ∧ Calls Tryd.prog fn_ref14_Fields #[(.slice r rL rC), (.string (S v))] w4 (fun ed3 w5 => (∃ (r3 : Option Addr) (rL2 rC2 : Nat), ed3 = .returned (.slice r3 rL2 rC2) ∧ Calls Tryd.prog fn_ref02_Same #[(.slice r2 rL1 rC1), (.slice r3 rL2 rC2)] w5 (fun ed4 w6 => (∃ r4 : Bool, ed4 = .returned (.bool r4) ∧ bsel r4 (Calls Tryd.prog fn_fields_Joined #[(.slice r rL rC), (.bool true)] w6 (fun ed5 w7 => (∃ r5 : List UInt8, ed5 = .returned (.string (S r5)) ∧ Calls Tryd.prog fn_ref14_Joined #[(.slice r rL rC), (.bool true)] w7 (fun ed6 w8 => (∃ r6 : List UInt8, ed6 = .returned (.string (S r6)) ∧ bsel (decide (r5 = r6)) (Calls Tryd.prog fn_fields_Joined #[(.slice r rL rC), (.bool false)] w8 (fun ed7 w9 => (∃ r7 : List UInt8, ed7 = .returned (.string (S r7)) ∧ Calls Tryd.prog fn_ref14_Joined #[(.slice r rL rC), (.bool false)] w9 (fun ed8 w10 => (∃ r8 : List UInt8, ed8 = .returned (.string (S r8)) ∧ R (.returned (.bool (decide (r7 = r8)))) w10) ∨ (∃ ch8, ed8 = .panicked ch8 ∧ R (.panicked ch8) w10))) ∨ (∃ ch7, ed7 = .panicked ch7 ∧ R (.panicked ch7) w9))) (R (.returned (.bool false)) w8)) ∨ (∃ ch6, ed6 = .panicked ch6 ∧ R (.panicked ch6) w8))) ∨ (∃ ch5, ed5 = .panicked ch5 ∧ R (.panicked ch5) w7))) (R (.returned (.bool false)) w6)) ∨ (∃ ch4, ed4 = .panicked ch4 ∧ R (.panicked ch4) w6))) ∨ (∃ ch3, ed3 = .panicked ch3 ∧ R (.panicked ch3) w5))) ∨ (∃ ch2, ed2 = .panicked ch2 ∧ R (.panicked ch2) w4))) (R (.returned (.bool false)) w3)) ∨ (∃ ch1, ed1 = .panicked ch1 ∧ R (.panicked ch1) w3)))) ∨ (∃ ch, ed = .panicked ch ∧ R (.panicked ch) w1))
set_option maxRecDepth 100000 in
theorem law14_FieldsSmall_calls (l : Option Addr) (lL : Nat) (lC : Nat) (ifs : Int) (w : World) (R : Ending → World → Prop) (hvc : vc_law14_FieldsSmall l lL lC ifs w R) : Calls Tryd.prog fn_law14_FieldsSmall #[(.slice l lL lC), (.int .u8 ifs)] w R :=
  calls_vc { live := [], draws := [] } Tryd.func3 rfl (Eq.mp (α := vc_law14_FieldsSmall l lL lC ifs w R) (by kernel_rfl) hvc)

/- scullion/scullionlaw14.FieldsWhole -/
set_option maxRecDepth 100000 in
def vc_law14_FieldsWhole (l : Option Addr) (lL : Nat) (lC : Nat) (w : World) (R : Ending → World → Prop) : Prop :=
  Calls Tryd.prog fn_law14_awake #[] w (fun ed w1 => (∃ r : Bool, ed = .returned (.bool r) ∧ bsel (!r) (R (.returned (.bool false)) w1) (Calls Tryd.prog fn_law14_Made #[(.slice l lL lC)] w1 (fun ed1 w2 => (∃ (r1 : Option Addr) (rL rC : Nat), ed1 = .returned (.slice r1 rL rC) ∧ ∃ (xI : Option Addr → Nat → Nat → Int → World → Prop) (m : Option Addr → Nat → Nat → Int → World → Nat), (xI none 0 0 (0 : Int) w2) ∧ ∀ (x : Option Addr) (xL : Nat) (xC : Nat) (i : Int) (_us1 : Nat → Value) (w3 : World), (xI x xL xC i w3) → bsel (decide (i < (((rL : Nat) : Int) : Int))) (0 ≤ i ∧ i < (rL : Nat) ∧ someK r1 (fun a => ∃ v : Int, w3.cell? (a.add (Int.toNat i * 2)) = some (.int .i64 v) ∧ bsel (!decide (v = (3 : Int))) (0 ≤ i ∧ i < (rL : Nat) ∧ someK r1 (fun a1 => ∃ vKind : Int, ∃ vText : List UInt8, w3.cell? (a1.add (Int.toNat i * 2)) = some (.int .i64 vKind) ∧ w3.cell? ((a1.add (Int.toNat i * 2)).add 1) = some (.string (S vText)) ∧ letW (w3.alloc (.cells #[(.int .i64 vKind), (.string (S vText))] 32)) (fun (w4 : World) => appK w4 32 2 24 x xL xC (some (Addr.mk w3.heap.size 0 none)) 1 (fun (p : Option Addr) (cp : Nat) (w5 : World) => xI p (xL + 1) cp (IntKind.i64.wrap (i + (1 : Int))) w5 ∧ m p (xL + 1) cp (IntKind.i64.wrap (i + (1 : Int))) w5 < m x xL xC i w3)))) (xI x xL xC (IntKind.i64.wrap (i + (1 : Int))) w3 ∧ m x xL xC (IntKind.i64.wrap (i + (1 : Int))) w3 < m x xL xC i w3))) (Calls Tryd.prog fn_fields_Fields #[(.slice x xL xC), (.string (S ([] : List UInt8)))] w3 (fun ed2 w6 => (∃ (r2 : Option Addr) (rL1 rC1 : Nat), ed2 = .returned (.slice r2 rL1 rC1) ∧ Calls Tryd.prog fn_fields_Joined #[(.slice x xL xC), (.bool true)] w6 (fun ed3 w7 => (∃ r3 : List UInt8, ed3 = .returned (.string (S r3)) ∧ bsel r (bsel (decide ((((rL1 : Nat) : Int) : Int) = (0 : Int))) (bsel (decide (r3 = ([] : List UInt8))) (R (.returned (.bool true)) w7) (bsel (decide ((((rL1 : Nat) : Int) : Int) = (1 : Int))) (0 ≤ (0 : Int) ∧ (0 : Int) < (rL1 : Nat) ∧ someK r2 (fun a3 => ∃ v1 : List UInt8, w7.cell? (a3.add (Int.toNat (0 : Int) * 1)) = some (.string (S v1)) ∧ R (.returned (.bool (decide (v1 = r3)))) w7)) (R (.returned (.bool false)) w7))) (bsel (decide ((((rL1 : Nat) : Int) : Int) = (1 : Int))) (0 ≤ (0 : Int) ∧ (0 : Int) < (rL1 : Nat) ∧ someK r2 (fun a4 => ∃ v2 : List UInt8, w7.cell? (a4.add (Int.toNat (0 : Int) * 1)) = some (.string (S v2)) ∧ R (.returned (.bool (decide (v2 = r3)))) w7)) (R (.returned (.bool false)) w7))) (R (.returned (.bool false)) w7)) ∨ (∃ ch3, ed3 = .panicked ch3 ∧ R (.panicked ch3) w7))) ∨ (∃ ch2, ed2 = .panicked ch2 ∧ R (.panicked ch2) w6)))) ∨ (∃ ch1, ed1 = .panicked ch1 ∧ R (.panicked ch1) w2)))) ∨ (∃ ch, ed = .panicked ch ∧ R (.panicked ch) w1))
set_option maxRecDepth 100000 in
theorem law14_FieldsWhole_calls (l : Option Addr) (lL : Nat) (lC : Nat) (w : World) (R : Ending → World → Prop) (hvc : vc_law14_FieldsWhole l lL lC w R) : Calls Tryd.prog fn_law14_FieldsWhole #[(.slice l lL lC)] w R :=
  calls_vc { live := [(506, [(4, (.leaf .slc)), (6, (.leaf (.int .i64)))])], draws := [] } Tryd.func4 rfl (Eq.mp (α := vc_law14_FieldsWhole l lL lC w R) (by kernel_rfl) hvc)

/- scullion/scullionlaw14.FieldsBlanks -/
set_option maxRecDepth 100000 in
def vc_law14_FieldsBlanks (s : List UInt8) (t : List UInt8) (w : World) (R : Ending → World → Prop) : Prop :=
  Calls Tryd.prog fn_law14_awake #[] w (fun ed w1 => (∃ r : Bool, ed = .returned (.bool r) ∧ bsel (!r) (R (.returned (.bool false)) w1) (bsel (decide ((300 : Int) < (s.length : Int))) (R (.returned (.bool r)) w1) (bsel (decide ((300 : Int) < (t.length : Int))) (R (.returned (.bool r)) w1) (letW (w1.alloc (.cells #[(.int .i64 (2 : Int)), (.string (S s))] 32)) (fun (w2 : World) => Calls Tryd.prog fn_fields_Fields #[(.slice (some (Addr.mk w1.heap.size 0 none)) 1 1), (.string (S ([32, 9, 10] : List UInt8)))] w2 (fun ed1 w3 => (∃ (r1 : Option Addr) (rL rC : Nat), ed1 = .returned (.slice r1 rL rC) ∧ ([32, 10] : List UInt8).length + s.length ≤ 9223372036854775807 ∧ (([32, 10] : List UInt8) ++ s).length + ([9, 32] : List UInt8).length ≤ 9223372036854775807 ∧ letW (w3.alloc (.cells #[(.int .i64 (2 : Int)), (.string (S ((([32, 10] : List UInt8) ++ s) ++ ([9, 32] : List UInt8))))] 32)) (fun (w4 : World) => Calls Tryd.prog fn_fields_Fields #[(.slice (some (Addr.mk w3.heap.size 0 none)) 1 1), (.string (S ([32, 9, 10] : List UInt8)))] w4 (fun ed2 w5 => (∃ (r2 : Option Addr) (rL1 rC1 : Nat), ed2 = .returned (.slice r2 rL1 rC1) ∧ ∃ (xI : Int → World → Prop) (m : Int → World → Nat), (xI (0 : Int) w5) ∧ ∀ (i : Int) (_us1 : Nat → Value) (w6 : World), (xI i w6) → bsel (decide (i < (((rL : Nat) : Int) : Int))) (0 ≤ i ∧ i < (rL : Nat) ∧ someK r1 (fun a => ∃ v : List UInt8, w6.cell? (a.add (Int.toNat i * 1)) = some (.string (S v)) ∧ bsel (decide (v = ([] : List UInt8))) (R (.returned (.bool false)) w6) (xI (IntKind.i64.wrap (i + (1 : Int))) w6 ∧ m (IntKind.i64.wrap (i + (1 : Int))) w6 < m i w6))) (letW (w6.alloc (.cells #[(.int .i64 (1 : Int)), (.string (S t))] 32)) (fun (w7 : World) => Calls Tryd.prog fn_fields_Fields #[(.slice (some (Addr.mk w6.heap.size 0 none)) 1 1), (.string (S ([32, 9, 10, 58] : List UInt8)))] w7 (fun ed3 w8 => (∃ (r3 : Option Addr) (rL2 rC2 : Nat), ed3 = .returned (.slice r3 rL2 rC2) ∧ bsel r (Calls Tryd.prog fn_ref02_Same #[(.slice r1 rL rC), (.slice r2 rL1 rC1)] w8 (fun ed4 w9 => (∃ r4 : Bool, ed4 = .returned (.bool r4) ∧ bsel r4 (R (.returned (.bool (decide ((((rL2 : Nat) : Int) : Int) = (1 : Int))))) w9) (R (.returned (.bool false)) w9)) ∨ (∃ ch4, ed4 = .panicked ch4 ∧ R (.panicked ch4) w9))) (R (.returned (.bool false)) w8)) ∨ (∃ ch3, ed3 = .panicked ch3 ∧ R (.panicked ch3) w8))))) ∨ (∃ ch2, ed2 = .panicked ch2 ∧ R (.panicked ch2) w5)))) ∨ (∃ ch1, ed1 = .panicked ch1 ∧ R (.panicked ch1) w3))))))) ∨ (∃ ch, ed = .panicked ch ∧ R (.panicked ch) w1))
set_option maxRecDepth 100000 in
theorem law14_FieldsBlanks_calls (s : List UInt8) (t : List UInt8) (w : World) (R : Ending → World → Prop) (hvc : vc_law14_FieldsBlanks s t w R) : Calls Tryd.prog fn_law14_FieldsBlanks #[(.string (S s)), (.string (S t))] w R :=
  calls_vc { live := [(1018, [(8, (.leaf (.int .i64)))])], draws := [] } Tryd.func5 rfl (Eq.mp (α := vc_law14_FieldsBlanks s t w R) (by kernel_rfl) hvc)

/- scullion/scullionlaw14.FieldsSplits -/
set_option maxRecDepth 100000 in
def vc_law14_FieldsSplits (s : List UInt8) (ifs : List UInt8) (ahead : List UInt8) (w : World) (R : Ending → World → Prop) : Prop :=
  bsel (decide ((300 : Int) < (IntKind.i64.wrap ((IntKind.i64.wrap ((s.length : Int) + (ifs.length : Int))) + (ahead.length : Int))))) (Calls Tryd.prog fn_law14_awake #[] w (fun ed w1 => (∃ r : Bool, ed = .returned (.bool r) ∧ R (.returned (.bool r)) w1) ∨ (∃ ch, ed = .panicked ch ∧ R (.panicked ch) w1))) (letW (w.alloc (.cells #[(.int .i64 (2 : Int)), (.string (S s))] 32)) (fun (w2 : World) => letW (w2.alloc (.cells #[(.int .i64 0), (.string (S ahead)), (.int .i64 (2 : Int)), (.string (S s)), (.int .i64 (1 : Int)), (.string (S ahead)), (.int .i64 (2 : Int)), (.string (S s))] 32)) (fun (w3 : World) => Calls Tryd.prog fn_law14_awake #[] w3 (fun ed1 w4 => (∃ r1 : Bool, ed1 = .returned (.bool r1) ∧ bsel r1 (Calls Tryd.prog fn_fields_Fields #[(.slice (some (Addr.mk w.heap.size 0 none)) 1 1), (.string (S ifs))] w4 (fun ed2 w5 => (∃ (r2 : Option Addr) (rL rC : Nat), ed2 = .returned (.slice r2 rL rC) ∧ Calls Tryd.prog fn_ref14_Fields #[(.slice (some (Addr.mk w.heap.size 0 none)) 1 1), (.string (S ifs))] w5 (fun ed3 w6 => (∃ (r3 : Option Addr) (rL1 rC1 : Nat), ed3 = .returned (.slice r3 rL1 rC1) ∧ Calls Tryd.prog fn_ref02_Same #[(.slice r2 rL rC), (.slice r3 rL1 rC1)] w6 (fun ed4 w7 => (∃ r4 : Bool, ed4 = .returned (.bool r4) ∧ bsel r4 (Calls Tryd.prog fn_fields_Fields #[(.slice (some (Addr.mk w2.heap.size 0 none)) 4 4), (.string (S ifs))] w7 (fun ed5 w8 => (∃ (r5 : Option Addr) (rL2 rC2 : Nat), ed5 = .returned (.slice r5 rL2 rC2) ∧ Calls Tryd.prog fn_ref14_Fields #[(.slice (some (Addr.mk w2.heap.size 0 none)) 4 4), (.string (S ifs))] w8 (fun ed6 w9 => (∃ (r6 : Option Addr) (rL3 rC3 : Nat), ed6 = .returned (.slice r6 rL3 rC3) ∧ Calls Tryd.prog fn_ref02_Same #[(.slice r5 rL2 rC2), (.slice r6 rL3 rC3)] w9 (fun ed7 w10 => (∃ r7 : Bool, ed7 = .returned (.bool r7) ∧ R (.returned (.bool r7)) w10) ∨ (∃ ch7, ed7 = .panicked ch7 ∧ R (.panicked ch7) w10))) ∨ (∃ ch6, ed6 = .panicked ch6 ∧ R (.panicked ch6) w9))) ∨ (∃ ch5, ed5 = .panicked ch5 ∧ R (.panicked ch5) w8))) (R (.returned (.bool false)) w7)) ∨ (∃ ch4, ed4 = .panicked ch4 ∧ R (.panicked ch4) w7))) ∨ (∃ ch3, ed3 = .panicked ch3 ∧ R (.panicked ch3) w6))) ∨ (∃ ch2, ed2 = .panicked ch2 ∧ R (.panicked ch2) w5))) (R (.returned (.bool false)) w4)) ∨ (∃ ch1, ed1 = .panicked ch1 ∧ R (.panicked ch1) w4)))))
set_option maxRecDepth 100000 in
theorem law14_FieldsSplits_calls (s : List UInt8) (ifs : List UInt8) (ahead : List UInt8) (w : World) (R : Ending → World → Prop) (hvc : vc_law14_FieldsSplits s ifs ahead w R) : Calls Tryd.prog fn_law14_FieldsSplits #[(.string (S s)), (.string (S ifs)), (.string (S ahead))] w R :=
  calls_vc { live := [], draws := [] } Tryd.func6 rfl (Eq.mp (α := vc_law14_FieldsSplits s ifs ahead w R) (by kernel_rfl) hvc)

/- scullion/scullionlaw14.Made -/
set_option maxRecDepth 100000 in
def vc_law14_Made (l : Option Addr) (lL : Nat) (_lC : Nat) (w : World) (R : Ending → World → Prop) : Prop :=
  ∃ (xI : Option Addr → Nat → Nat → Int → World → Prop) (m : Option Addr → Nat → Nat → Int → World → Nat), (xI none 0 0 (0 : Int) w) ∧ ∀ (out : Option Addr) (outL : Nat) (outC : Nat) (i : Int) (_us1 : Nat → Value) (w1 : World), (xI out outL outC i w1) → bsel (decide (i < (((lL : Nat) : Int) : Int))) (bsel (decide (i < (8 : Int))) (0 ≤ i ∧ i < (lL : Nat) ∧ someK l (fun a => ∃ v : Int, w1.cell? (a.add (Int.toNat i * 2)) = some (.int .u8 v) ∧ (4 : Int) ≠ 0 ∧ letW (w1.alloc (.cells #[(.int .i64 0), (.string (S ([] : List UInt8)))] 32)) (fun (w2 : World) => stCells (Addr.mk w1.heap.size 0 none) (fun (w3 : World) => ∃ v1 : Int, w3.cell? (Addr.mk w1.heap.size 0 none) = some (.int .i64 v1) ∧ bsel (!decide (v1 = (3 : Int))) (0 ≤ i ∧ i < (lL : Nat) ∧ someK l (fun a1 => ∃ (v2 : Option Addr) (vL vC : Nat), w3.cell? ((a1.add (Int.toNat i * 2)).add 1) = some (.slice v2 vL vC) ∧ letW (w3.alloc (.cells #[(.string (S ([97] : List UInt8))), (.string (S ([32] : List UInt8))), (.string (S ([58] : List UInt8))), (.string (S ([9] : List UInt8))), (.string (S ([98] : List UInt8))), (.string (S ([92] : List UInt8))), (.string (S ([58, 32] : List UInt8))), (.string (S ([42] : List UInt8))), (.string (S ([] : List UInt8))), (.string (S ([10] : List UInt8)))] 9)) (fun (w4 : World) => Calls Tryd.prog fn_law07_Pieces #[(.slice v2 vL vC), (.slice (some (Addr.mk w3.heap.size 0 none)) 10 10)] w4 (fun ed w5 => (∃ r : List UInt8, ed = .returned (.string (S r)) ∧ stCells (Addr.mk w1.heap.size 1 none) (fun (w6 : World) => ∃ vKind : Int, ∃ vText : List UInt8, w6.cell? (Addr.mk w1.heap.size 0 none) = some (.int .i64 vKind) ∧ w6.cell? (Addr.mk w1.heap.size 1 none) = some (.string (S vText)) ∧ letW (w6.alloc (.cells #[(.int .i64 vKind), (.string (S vText))] 32)) (fun (w7 : World) => appK w7 32 2 24 out outL outC (some (Addr.mk w6.heap.size 0 none)) 1 (fun (p : Option Addr) (cp : Nat) (w8 : World) => xI p (outL + 1) cp (IntKind.i64.wrap (i + (1 : Int))) w8 ∧ m p (outL + 1) cp (IntKind.i64.wrap (i + (1 : Int))) w8 < m out outL outC i w1))) 0 [(.string (S r))] w5) ∨ (∃ ch, ed = .panicked ch ∧ R (.panicked ch) w5))))) (∃ vKind1 : Int, ∃ vText1 : List UInt8, w3.cell? (Addr.mk w1.heap.size 0 none) = some (.int .i64 vKind1) ∧ w3.cell? (Addr.mk w1.heap.size 1 none) = some (.string (S vText1)) ∧ letW (w3.alloc (.cells #[(.int .i64 vKind1), (.string (S vText1))] 32)) (fun (w9 : World) => appK w9 32 2 24 out outL outC (some (Addr.mk w3.heap.size 0 none)) 1 (fun (p1 : Option Addr) (cp1 : Nat) (w10 : World) => xI p1 (outL + 1) cp1 (IntKind.i64.wrap (i + (1 : Int))) w10 ∧ m p1 (outL + 1) cp1 (IntKind.i64.wrap (i + (1 : Int))) w10 < m out outL outC i w1)))) 0 [(.int .i64 (Int.tmod (IntKind.i64.wrap v) (4 : Int))), (.string (S ([] : List UInt8)))] w2))) (R (.returned (.slice out outL outC)) w1)) (R (.returned (.slice out outL outC)) w1)
set_option maxRecDepth 100000 in
theorem law14_Made_calls (l : Option Addr) (lL : Nat) (lC : Nat) (w : World) (R : Ending → World → Prop) (hvc : vc_law14_Made l lL lC w R) : Calls Tryd.prog fn_law14_Made #[(.slice l lL lC)] w R :=
  calls_vc { live := [(58, [(3, (.leaf .slc)), (4, (.leaf (.int .i64)))])], draws := [] } Tryd.func7 rfl (Eq.mp (α := vc_law14_Made l lL lC w R) (by kernel_rfl) hvc)

/- scullion/scullionlaw14.awake -/
set_option maxRecDepth 100000 in
def vc_law14_awake  (w : World) (R : Ending → World → Prop) : Prop :=
  letW (w.alloc (.cells #[(.int .i64 (2 : Int)), (.string (S ([97, 32, 98, 58, 58, 32, 99] : List UInt8)))] 32)) (fun (w1 : World) => Calls Tryd.prog fn_fields_Fields #[(.slice (some (Addr.mk w.heap.size 0 none)) 1 1), (.string (S ([32, 58] : List UInt8)))] w1 (fun ed w2 => (∃ (r : Option Addr) (rL rC : Nat), ed = .returned (.slice r rL rC) ∧ letW (w2.alloc (.cells #[(.string (S ([97] : List UInt8))), (.string (S ([98] : List UInt8))), (.string (S ([] : List UInt8))), (.string (S ([99] : List UInt8)))] 9)) (fun (w3 : World) => Calls Tryd.prog fn_ref02_Same #[(.slice r rL rC), (.slice (some (Addr.mk w2.heap.size 0 none)) 4 4)] w3 (fun ed1 w4 => (∃ r1 : Bool, ed1 = .returned (.bool r1) ∧ bsel r1 (letW (w4.alloc (.cells #[(.int .i64 (1 : Int)), (.string (S ([42] : List UInt8))), (.int .i64 (3 : Int)), (.string (S ([] : List UInt8)))] 32)) (fun (w5 : World) => Calls Tryd.prog fn_fields_Joined #[(.slice (some (Addr.mk w4.heap.size 0 none)) 2 2), (.bool true)] w5 (fun ed2 w6 => (∃ r2 : List UInt8, ed2 = .returned (.string (S r2)) ∧ R (.returned (.bool (decide (r2 = ([92, 42, 32] : List UInt8))))) w6) ∨ (∃ ch2, ed2 = .panicked ch2 ∧ R (.panicked ch2) w6)))) (R (.returned (.bool false)) w4)) ∨ (∃ ch1, ed1 = .panicked ch1 ∧ R (.panicked ch1) w4)))) ∨ (∃ ch, ed = .panicked ch ∧ R (.panicked ch) w2)))
set_option maxRecDepth 100000 in
theorem law14_awake_calls  (w : World) (R : Ending → World → Prop) (hvc : vc_law14_awake  w R) : Calls Tryd.prog fn_law14_awake #[] w R :=
  calls_vc { live := [], draws := [] } Tryd.func8 rfl (Eq.mp (α := vc_law14_awake  w R) (by kernel_rfl) hvc)

/- scullion/scullionref02.Same -/
set_option maxRecDepth 100000 in
def vc_ref02_Same (a : Option Addr) (aL : Nat) (_aC : Nat) (b : Option Addr) (bL : Nat) (_bC : Nat) (w : World) (R : Ending → World → Prop) : Prop :=
  bsel (!decide ((((aL : Nat) : Int) : Int) = (((bL : Nat) : Int) : Int))) (R (.returned (.bool false)) w) (∃ (xI : Int → World → Prop) (m : Int → World → Nat), (xI (0 : Int) w) ∧ ∀ (i : Int) (_us1 : Nat → Value) (w1 : World), (xI i w1) → bsel (decide (i < (((aL : Nat) : Int) : Int))) (0 ≤ i ∧ i < (aL : Nat) ∧ someK a (fun a1 => ∃ v : List UInt8, w1.cell? (a1.add (Int.toNat i * 1)) = some (.string (S v)) ∧ 0 ≤ i ∧ i < (bL : Nat) ∧ someK b (fun a2 => ∃ v1 : List UInt8, w1.cell? (a2.add (Int.toNat i * 1)) = some (.string (S v1)) ∧ bsel (!(decide (v = v1))) (R (.returned (.bool false)) w1.drew) (xI (IntKind.i64.wrap (i + (1 : Int))) w1.drew ∧ m (IntKind.i64.wrap (i + (1 : Int))) w1.drew < m i w1)))) (R (.returned (.bool true)) w1))
set_option maxRecDepth 100000 in
theorem ref02_Same_calls (a : Option Addr) (aL : Nat) (aC : Nat) (b : Option Addr) (bL : Nat) (bC : Nat) (w : World) (R : Ending → World → Prop) (hvc : vc_ref02_Same a aL aC b bL bC w R) : Calls Tryd.prog fn_ref02_Same #[(.slice a aL aC), (.slice b bL bC)] w R :=
  calls_vc { live := [(58, [(5, (.leaf (.int .i64)))])], draws := [(6, .still)] } Tryd.func9 rfl (Eq.mp (α := vc_ref02_Same a aL aC b bL bC w R) (by kernel_rfl) hvc)

/- scullion/fields.Fields -/
set_option maxRecDepth 100000 in
def vc_fields_Fields (l : Option Addr) (lL : Nat) (_lC : Nat) (ifs : List UInt8) (w : World) (R : Ending → World → Prop) : Prop :=
  letW (w.alloc (.cells #[(.string (S ifs)), (.slice none 0 0), (.pointer none), (.slice none 0 0), (.bool false), (.bool false)] 45)) (fun (w1 : World) => ∃ (xI : Int → World → Prop) (m : Int → World → Nat), (xI (0 : Int) w1) ∧ ∀ (x : Int) (_us1 : Nat → Value) (w2 : World), (xI x w2) → bsel (decide (x < (((lL : Nat) : Int) : Int))) (0 ≤ x ∧ x < (lL : Nat) ∧ someK l (fun a => ∃ vKind : Int, ∃ vText : List UInt8, w2.cell? (a.add (Int.toNat x * 2)) = some (.int .i64 vKind) ∧ w2.cell? ((a.add (Int.toNat x * 2)).add 1) = some (.string (S vText)) ∧ letW (w2.alloc (.cells #[(.int .i64 0), (.string (S ([] : List UInt8)))] 32)) (fun (w3 : World) => stCells (Addr.mk w2.heap.size 0 none) (fun (w4 : World) => ∃ vKind1 : Int, ∃ vText1 : List UInt8, w4.cell? (Addr.mk w2.heap.size 0 none) = some (.int .i64 vKind1) ∧ w4.cell? (Addr.mk w2.heap.size 1 none) = some (.string (S vText1)) ∧ Calls Tryd.prog fn_fields_splitter_take #[(.pointer (some (Addr.mk w.heap.size 0 none))), (.agg #[(.int .i64 vKind1), (.string (S vText1))])] w4 (fun ed w5 => (ed = .returned (.tuple #[]) ∧ xI (IntKind.i64.wrap (x + (1 : Int))) w5 ∧ m (IntKind.i64.wrap (x + (1 : Int))) w5 < m x w2) ∨ (∃ ch, ed = .panicked ch ∧ R (.panicked ch) w5))) 0 [(.int .i64 vKind), (.string (S vText))] w3))) (∃ v : Bool, w2.cell? (Addr.mk w.heap.size 4 none) = some (.bool v) ∧ bsel v (Calls Tryd.prog fn_fields_splitter_end #[(.pointer (some (Addr.mk w.heap.size 0 none)))] w2 (fun ed1 w6 => (ed1 = .returned (.tuple #[]) ∧ ∃ (v1 : Option Addr) (vL vC : Nat), w6.cell? (Addr.mk w.heap.size 1 none) = some (.slice v1 vL vC) ∧ R (.returned (.slice v1 vL vC)) w6) ∨ (∃ ch1, ed1 = .panicked ch1 ∧ R (.panicked ch1) w6))) (∃ (v2 : Option Addr) (vL1 vC1 : Nat), w2.cell? (Addr.mk w.heap.size 1 none) = some (.slice v2 vL1 vC1) ∧ R (.returned (.slice v2 vL1 vC1)) w2)))
set_option maxRecDepth 100000 in
theorem fields_Fields_calls (l : Option Addr) (lL : Nat) (lC : Nat) (ifs : List UInt8) (w : World) (R : Ending → World → Prop) (hvc : vc_fields_Fields l lL lC ifs w R) : Calls Tryd.prog fn_fields_Fields #[(.slice l lL lC), (.string (S ifs))] w R :=
  calls_vc { live := [(58, [(13, (.leaf (.int .i64)))])], draws := [] } Tryd.func10 rfl (Eq.mp (α := vc_fields_Fields l lL lC ifs w R) (by kernel_rfl) hvc)

/- scullion/scullionref14.Fields -/
set_option maxRecDepth 100000 in
def vc_ref14_Fields (l : Option Addr) (lL : Nat) (_lC : Nat) (ifs : List UInt8) (w : World) (R : Ending → World → Prop) : Prop :=
  letW (w.alloc (.cells #[(.slice none 0 0), (.string (S ([] : List UInt8))), (.bool false), (.bool false)] 49)) (fun (w1 : World) => ∃ (xI : Int → World → Prop) (m : Int → World → Nat), (xI (0 : Int) w1) ∧ ∀ (i : Int) (_us1 : Nat → Value) (w2 : World), (xI i w2) → bsel (decide (i < (((lL : Nat) : Int) : Int))) (∃ xJ : World → Prop, (0 ≤ i ∧ i < (lL : Nat) ∧ someK l (fun a => ∃ v : List UInt8, w2.cell? ((a.add (Int.toNat i * 2)).add 1) = some (.string (S v)) ∧ 0 ≤ i ∧ i < (lL : Nat) ∧ someK l (fun a1 => ∃ v1 : Int, w2.cell? (a1.add (Int.toNat i * 2)) = some (.int .i64 v1) ∧ bsel (decide (v1 = (0 : Int))) (∃ Sw : World → Prop, Sw w2.drew ∧ ∃ v2 : List UInt8, (∀ wq : World, Sw wq → wq.cell? (Addr.mk w.heap.size 1 none) = some (.string (S v2))) ∧ ∃ v3 : Bool, (∀ wq : World, Sw wq → wq.cell? (Addr.mk w.heap.size 2 none) = some (.bool v3)) ∧ ∃ v4 : Bool, (∀ wq : World, Sw wq → wq.cell? (Addr.mk w.heap.size 3 none) = some (.bool v4)) ∧ Calls Tryd.prog fn_ref14_Active #[(.string (S v))] w2.drew (fun ed w3 => (∃ r : List UInt8, ed = .returned (.string (S r)) ∧ Sw w3 ∧ v2.length + r.length ≤ 9223372036854775807 ∧ bsel v3 (bsel v4 (stCells (Addr.mk w.heap.size 1 none) (fun (w4 : World) => stCells (Addr.mk w.heap.size 2 none) (fun (w5 : World) => stCells (Addr.mk w.heap.size 3 none) (fun (w6 : World) => xJ w6) 0 [(.bool (decide (v = ([] : List UInt8))))] w5) 0 [(.bool true)] w4) 0 [(.string (S (v2 ++ r)))] w3) (stCells (Addr.mk w.heap.size 1 none) (fun (w7 : World) => stCells (Addr.mk w.heap.size 2 none) (fun (w8 : World) => stCells (Addr.mk w.heap.size 3 none) (fun (w9 : World) => xJ w9) 0 [(.bool false)] w8) 0 [(.bool true)] w7) 0 [(.string (S (v2 ++ r)))] w3)) (bsel v4 (stCells (Addr.mk w.heap.size 1 none) (fun (w10 : World) => stCells (Addr.mk w.heap.size 2 none) (fun (w11 : World) => stCells (Addr.mk w.heap.size 3 none) (fun (w12 : World) => xJ w12) 0 [(.bool (decide (v = ([] : List UInt8))))] w11) 0 [(.bool (!(decide (v = ([] : List UInt8)))))] w10) 0 [(.string (S (v2 ++ r)))] w3) (stCells (Addr.mk w.heap.size 1 none) (fun (w13 : World) => stCells (Addr.mk w.heap.size 2 none) (fun (w14 : World) => stCells (Addr.mk w.heap.size 3 none) (fun (w15 : World) => xJ w15) 0 [(.bool false)] w14) 0 [(.bool (!(decide (v = ([] : List UInt8)))))] w13) 0 [(.string (S (v2 ++ r)))] w3))) ∨ (∃ ch, ed = .panicked ch ∧ R (.panicked ch) w3))) (bsel (decide (v1 = (1 : Int))) (∃ Sw1 : World → Prop, Sw1 w2.drew ∧ ∃ v5 : List UInt8, (∀ wq : World, Sw1 wq → wq.cell? (Addr.mk w.heap.size 1 none) = some (.string (S v5))) ∧ Calls Tryd.prog fn_ref11_Escape #[(.string (S v))] w2.drew (fun ed1 w16 => (∃ r1 : List UInt8, ed1 = .returned (.string (S r1)) ∧ Sw1 w16 ∧ v5.length + r1.length ≤ 9223372036854775807 ∧ stCells (Addr.mk w.heap.size 1 none) (fun (w17 : World) => stCells (Addr.mk w.heap.size 2 none) (fun (w18 : World) => stCells (Addr.mk w.heap.size 3 none) (fun (w19 : World) => xJ w19) 0 [(.bool false)] w18) 0 [(.bool true)] w17) 0 [(.string (S (v5 ++ r1)))] w16) ∨ (∃ ch1, ed1 = .panicked ch1 ∧ R (.panicked ch1) w16))) (bsel (decide (v1 = (2 : Int))) (Calls Tryd.prog fn_ref14_state_split #[(.pointer (some (Addr.mk w.heap.size 0 none))), (.string (S v)), (.string (S ifs))] w2 (fun ed2 w20 => (ed2 = .returned (.tuple #[]) ∧ xJ w20) ∨ (∃ ch2, ed2 = .panicked ch2 ∧ R (.panicked ch2) w20))) (bsel (decide (v1 = (3 : Int))) (∃ v6 : Bool, w2.cell? (Addr.mk w.heap.size 2 none) = some (.bool v6) ∧ bsel v6 (Calls Tryd.prog fn_ref14_state_end #[(.pointer (some (Addr.mk w.heap.size 0 none)))] w2 (fun ed3 w21 => (ed3 = .returned (.tuple #[]) ∧ stCells (Addr.mk w.heap.size 3 none) (fun (w22 : World) => xJ w22) 0 [(.bool false)] w21) ∨ (∃ ch3, ed3 = .panicked ch3 ∧ R (.panicked ch3) w21))) (stCells (Addr.mk w.heap.size 3 none) (fun (w23 : World) => xJ w23) 0 [(.bool false)] w2)) (xJ w2))))))) ∧ ∀ (_us2 : Nat → Value) (w24 : World), (xJ w24) → xI (IntKind.i64.wrap (i + (1 : Int))) w24 ∧ m (IntKind.i64.wrap (i + (1 : Int))) w24 < m i w2) (∃ v7 : Bool, w2.cell? (Addr.mk w.heap.size 2 none) = some (.bool v7) ∧ bsel v7 (Calls Tryd.prog fn_ref14_state_end #[(.pointer (some (Addr.mk w.heap.size 0 none)))] w2 (fun ed4 w25 => (ed4 = .returned (.tuple #[]) ∧ ∃ (v8 : Option Addr) (vL vC : Nat), w25.cell? (Addr.mk w.heap.size 0 none) = some (.slice v8 vL vC) ∧ R (.returned (.slice v8 vL vC)) w25) ∨ (∃ ch4, ed4 = .panicked ch4 ∧ R (.panicked ch4) w25))) (∃ (v9 : Option Addr) (vL1 vC1 : Nat), w2.cell? (Addr.mk w.heap.size 0 none) = some (.slice v9 vL1 vC1) ∧ R (.returned (.slice v9 vL1 vC1)) w2)))
set_option maxRecDepth 100000 in
theorem ref14_Fields_calls (l : Option Addr) (lL : Nat) (lC : Nat) (ifs : List UInt8) (w : World) (R : Ending → World → Prop) (hvc : vc_ref14_Fields l lL lC ifs w R) : Calls Tryd.prog fn_ref14_Fields #[(.slice l lL lC), (.string (S ifs))] w R :=
  calls_vc { live := [(58, [(6, (.leaf (.int .i64)))]), (233, [])], draws := [(8, .held), (10, .held)] } Tryd.func11 rfl (Eq.mp (α := vc_ref14_Fields l lL lC ifs w R) (by kernel_rfl) hvc)

/- scullion/fields.Joined -/
set_option maxRecDepth 100000 in
def vc_fields_Joined (l : Option Addr) (lL : Nat) (_lC : Nat) (isPattern : Bool) (w : World) (R : Ending → World → Prop) : Prop :=
  letW (w.alloc (.cells #[(.pointer none), (.slice none 0 0)] 43)) (fun (w1 : World) => ∃ (xI : Int → World → Prop) (m : Int → World → Nat), (xI (0 : Int) w1) ∧ ∀ (x : Int) (_us1 : Nat → Value) (w2 : World), (xI x w2) → bsel (decide (x < (((lL : Nat) : Int) : Int))) (∃ xJ : World → Prop, (0 ≤ x ∧ x < (lL : Nat) ∧ someK l (fun a => ∃ vKind : Int, ∃ vText : List UInt8, w2.cell? (a.add (Int.toNat x * 2)) = some (.int .i64 vKind) ∧ w2.cell? ((a.add (Int.toNat x * 2)).add 1) = some (.string (S vText)) ∧ letW (w2.alloc (.cells #[(.int .i64 0), (.string (S ([] : List UInt8)))] 32)) (fun (w3 : World) => stCells (Addr.mk w2.heap.size 0 none) (fun (w4 : World) => ∃ v : Int, w4.cell? (Addr.mk w2.heap.size 0 none) = some (.int .i64 v) ∧ bsel (decide (v = (3 : Int))) (Calls Tryd.prog fn_strings_Builder_WriteByte #[(.pointer (some (Addr.mk w.heap.size 0 none))), (.int .u8 (32 : Int))] w4 (fun ed w5 => (∃ r : Value, r.oneCell' = true ∧ ed = .returned r ∧ xJ w5) ∨ (∃ ch, ed = .panicked ch ∧ R (.panicked ch) w5))) (∃ xJ1 : Bool → World → Prop, (bsel isPattern (∃ v1 : Int, w4.cell? (Addr.mk w2.heap.size 0 none) = some (.int .i64 v1) ∧ xJ1 (decide (v1 = (1 : Int))) w4) (xJ1 false w4)) ∧ ∀ (x1 : Bool) (_us2 : Nat → Value) (w6 : World), (xJ1 x1 w6) → bsel x1 (∃ v2 : List UInt8, w6.cell? (Addr.mk w2.heap.size 1 none) = some (.string (S v2)) ∧ Calls Tryd.prog fn_pattern_Escape #[(.string (S v2))] w6 (fun ed1 w7 => (∃ r1 : List UInt8, ed1 = .returned (.string (S r1)) ∧ Calls Tryd.prog fn_strings_Builder_WriteString #[(.pointer (some (Addr.mk w.heap.size 0 none))), (.string (S r1))] w7 (fun ed2 w8 => (∃ r2 : Int, ∃ r3 : Value, r3.oneCell' = true ∧ ed2 = .returned (.tuple #[(.int .i64 r2), r3]) ∧ xJ w8) ∨ (∃ ch2, ed2 = .panicked ch2 ∧ R (.panicked ch2) w8))) ∨ (∃ ch1, ed1 = .panicked ch1 ∧ R (.panicked ch1) w7))) (bsel isPattern (∃ v3 : List UInt8, w6.cell? (Addr.mk w2.heap.size 1 none) = some (.string (S v3)) ∧ Calls Tryd.prog fn_fields_active #[(.string (S v3))] w6 (fun ed3 w9 => (∃ r4 : List UInt8, ed3 = .returned (.string (S r4)) ∧ Calls Tryd.prog fn_strings_Builder_WriteString #[(.pointer (some (Addr.mk w.heap.size 0 none))), (.string (S r4))] w9 (fun ed4 w10 => (∃ r5 : Int, ∃ r6 : Value, r6.oneCell' = true ∧ ed4 = .returned (.tuple #[(.int .i64 r5), r6]) ∧ xJ w10) ∨ (∃ ch4, ed4 = .panicked ch4 ∧ R (.panicked ch4) w10))) ∨ (∃ ch3, ed3 = .panicked ch3 ∧ R (.panicked ch3) w9))) (∃ v4 : List UInt8, w6.cell? (Addr.mk w2.heap.size 1 none) = some (.string (S v4)) ∧ Calls Tryd.prog fn_strings_Builder_WriteString #[(.pointer (some (Addr.mk w.heap.size 0 none))), (.string (S v4))] w6 (fun ed5 w11 => (∃ r7 : Int, ∃ r8 : Value, r8.oneCell' = true ∧ ed5 = .returned (.tuple #[(.int .i64 r7), r8]) ∧ xJ w11) ∨ (∃ ch5, ed5 = .panicked ch5 ∧ R (.panicked ch5) w11)))))) 0 [(.int .i64 vKind), (.string (S vText))] w3))) ∧ ∀ (_us3 : Nat → Value) (w12 : World), (xJ w12) → xI (IntKind.i64.wrap (x + (1 : Int))) w12 ∧ m (IntKind.i64.wrap (x + (1 : Int))) w12 < m x w2) (Calls Tryd.prog fn_strings_Builder_String #[(.pointer (some (Addr.mk w.heap.size 0 none)))] w2 (fun ed6 w13 => (∃ r9 : List UInt8, ed6 = .returned (.string (S r9)) ∧ R (.returned (.string (S r9))) w13) ∨ (∃ ch6, ed6 = .panicked ch6 ∧ R (.panicked ch6) w13))))
set_option maxRecDepth 100000 in
theorem fields_Joined_calls (l : Option Addr) (lL : Nat) (lC : Nat) (isPattern : Bool) (w : World) (R : Ending → World → Prop) (hvc : vc_fields_Joined l lL lC isPattern w R) : Calls Tryd.prog fn_fields_Joined #[(.slice l lL lC), (.bool isPattern)] w R :=
  calls_vc { live := [(58, [(10, (.leaf (.int .i64)))]), (467, []), (29899, [(22, (.leaf .bool))])], draws := [] } Tryd.func12 rfl (Eq.mp (α := vc_fields_Joined l lL lC isPattern w R) (by kernel_rfl) hvc)

/- scullion/scullionref14.Joined -/
set_option maxRecDepth 100000 in
def vc_ref14_Joined (l : Option Addr) (lL : Nat) (_lC : Nat) (pattern : Bool) (w : World) (R : Ending → World → Prop) : Prop :=
  ∃ (xI : List UInt8 → Int → World → Prop) (m : List UInt8 → Int → World → Nat), (xI ([] : List UInt8) (0 : Int) w) ∧ ∀ (out : List UInt8) (i : Int) (_us1 : Nat → Value) (w1 : World), (xI out i w1) → bsel (decide (i < (((lL : Nat) : Int) : Int))) (∃ xJ : List UInt8 → World → Prop, (0 ≤ i ∧ i < (lL : Nat) ∧ someK l (fun a => ∃ v : List UInt8, w1.cell? ((a.add (Int.toNat i * 2)).add 1) = some (.string (S v)) ∧ ∃ xJ1 : List UInt8 → World → Prop, (0 ≤ i ∧ i < (lL : Nat) ∧ someK l (fun a1 => ∃ v1 : Int, w1.cell? (a1.add (Int.toNat i * 2)) = some (.int .i64 v1) ∧ bsel (decide (v1 = (3 : Int))) (xJ1 ([32] : List UInt8) w1) (bsel pattern (0 ≤ i ∧ i < (lL : Nat) ∧ someK l (fun a2 => ∃ v2 : Int, w1.cell? (a2.add (Int.toNat i * 2)) = some (.int .i64 v2) ∧ bsel (decide (v2 = (1 : Int))) (Calls Tryd.prog fn_ref11_Escape #[(.string (S v))] w1 (fun ed w2 => (∃ r : List UInt8, ed = .returned (.string (S r)) ∧ xJ1 r w2) ∨ (∃ ch, ed = .panicked ch ∧ R (.panicked ch) w2))) (bsel pattern (Calls Tryd.prog fn_ref14_Active #[(.string (S v))] w1 (fun ed1 w3 => (∃ r1 : List UInt8, ed1 = .returned (.string (S r1)) ∧ xJ1 r1 w3) ∨ (∃ ch1, ed1 = .panicked ch1 ∧ R (.panicked ch1) w3))) (xJ1 v w1)))) (bsel pattern (Calls Tryd.prog fn_ref14_Active #[(.string (S v))] w1 (fun ed2 w4 => (∃ r2 : List UInt8, ed2 = .returned (.string (S r2)) ∧ xJ1 r2 w4) ∨ (∃ ch2, ed2 = .panicked ch2 ∧ R (.panicked ch2) w4))) (xJ1 v w1))))) ∧ ∀ (t : List UInt8) (_us2 : Nat → Value) (w5 : World), (xJ1 t w5) → out.length + t.length ≤ 9223372036854775807 ∧ xJ (out ++ t) w5)) ∧ ∀ (out1 : List UInt8) (_us3 : Nat → Value) (w6 : World), (xJ out1 w6) → xI out1 (IntKind.i64.wrap (i + (1 : Int))) w6 ∧ m out1 (IntKind.i64.wrap (i + (1 : Int))) w6 < m out i w1) (R (.returned (.string (S out))) w1)
set_option maxRecDepth 100000 in
theorem ref14_Joined_calls (l : Option Addr) (lL : Nat) (lC : Nat) (pattern : Bool) (w : World) (R : Ending → World → Prop) (hvc : vc_ref14_Joined l lL lC pattern w R) : Calls Tryd.prog fn_ref14_Joined #[(.slice l lL lC), (.bool pattern)] w R :=
  calls_vc { live := [(58, [(5, (.leaf .str)), (6, (.leaf (.int .i64)))]), (233, [(5, (.leaf .str))]), (1865, [(7, (.leaf .str))])], draws := [] } Tryd.func13 rfl (Eq.mp (α := vc_ref14_Joined l lL lC pattern w R) (by kernel_rfl) hvc)

/- scullion/scullionlaw07.Pieces -/
set_option maxRecDepth 100000 in
def vc_law07_Pieces (l : Option Addr) (lL : Nat) (_lC : Nat) (pieces : Option Addr) (piecesL : Nat) (_piecesC : Nat) (w : World) (R : Ending → World → Prop) : Prop :=
  ∃ (xI : List UInt8 → Int → World → Prop) (m : List UInt8 → Int → World → Nat), (xI ([] : List UInt8) (0 : Int) w) ∧ ∀ (s : List UInt8) (i : Int) (_us1 : Nat → Value) (w1 : World), (xI s i w1) → bsel (decide (i < (((lL : Nat) : Int) : Int))) (bsel (decide (i < (14 : Int))) (0 ≤ i ∧ i < (lL : Nat) ∧ someK l (fun a => ∃ v : Int, w1.cell? (a.add (Int.toNat i * 1)) = some (.int .u8 v) ∧ (((piecesL : Nat) : Int) : Int) ≠ 0 ∧ 0 ≤ (Int.tmod (IntKind.i64.wrap v) (((piecesL : Nat) : Int) : Int)) ∧ (Int.tmod (IntKind.i64.wrap v) (((piecesL : Nat) : Int) : Int)) < (piecesL : Nat) ∧ someK pieces (fun a1 => ∃ v1 : List UInt8, w1.cell? (a1.add (Int.toNat (Int.tmod (IntKind.i64.wrap v) (((piecesL : Nat) : Int) : Int)) * 1)) = some (.string (S v1)) ∧ s.length + v1.length ≤ 9223372036854775807 ∧ xI (s ++ v1) (IntKind.i64.wrap (i + (1 : Int))) w1 ∧ m (s ++ v1) (IntKind.i64.wrap (i + (1 : Int))) w1 < m s i w1))) (R (.returned (.string (S s))) w1)) (R (.returned (.string (S s))) w1)
set_option maxRecDepth 100000 in
theorem law07_Pieces_calls (l : Option Addr) (lL : Nat) (lC : Nat) (pieces : Option Addr) (piecesL : Nat) (piecesC : Nat) (w : World) (R : Ending → World → Prop) (hvc : vc_law07_Pieces l lL lC pieces piecesL piecesC w R) : Calls Tryd.prog fn_law07_Pieces #[(.slice l lL lC), (.slice pieces piecesL piecesC)] w R :=
  calls_vc { live := [(58, [(5, (.leaf .str)), (6, (.leaf (.int .i64)))])], draws := [] } Tryd.func14 rfl (Eq.mp (α := vc_law07_Pieces l lL lC pieces piecesL piecesC w R) (by kernel_rfl) hvc)

/- (*scullion/fields.splitter).take -/
set_option maxRecDepth 100000 in
def vc_fields_splitter_take (x : Option Addr) (sKind : Int) (sText : List UInt8) (w : World) (R : Ending → World → Prop) : Prop :=
  letW (w.alloc (.cells #[(.int .i64 sKind), (.string (S sText))] 32)) (fun (w1 : World) => ∃ v : Int, w1.cell? (Addr.mk w.heap.size 0 none) = some (.int .i64 v) ∧ bsel (decide (v = (0 : Int))) (∃ v1 : List UInt8, w1.cell? (Addr.mk w.heap.size 1 none) = some (.string (S v1)) ∧ bsel (!(decide (v1 = ([] : List UInt8)))) (∃ v2 : List UInt8, w1.cell? (Addr.mk w.heap.size 1 none) = some (.string (S v2)) ∧ Calls Tryd.prog fn_fields_active #[(.string (S v2))] w1 (fun ed w2 => (∃ r : List UInt8, ed = .returned (.string (S r)) ∧ Calls Tryd.prog fn_fields_splitter_put #[(.pointer x), (.string (S r))] w2 (fun ed1 w3 => (ed1 = .returned (.tuple #[]) ∧ R (.returned (.tuple #[])) w3) ∨ (∃ ch1, ed1 = .panicked ch1 ∧ R (.panicked ch1) w3))) ∨ (∃ ch, ed = .panicked ch ∧ R (.panicked ch) w2))) (R (.returned (.tuple #[])) w1)) (bsel (decide (v = (1 : Int))) (∃ v3 : List UInt8, w1.cell? (Addr.mk w.heap.size 1 none) = some (.string (S v3)) ∧ Calls Tryd.prog fn_pattern_Escape #[(.string (S v3))] w1 (fun ed2 w4 => (∃ r1 : List UInt8, ed2 = .returned (.string (S r1)) ∧ Calls Tryd.prog fn_fields_splitter_put #[(.pointer x), (.string (S r1))] w4 (fun ed3 w5 => (ed3 = .returned (.tuple #[]) ∧ R (.returned (.tuple #[])) w5) ∨ (∃ ch3, ed3 = .panicked ch3 ∧ R (.panicked ch3) w5))) ∨ (∃ ch2, ed2 = .panicked ch2 ∧ R (.panicked ch2) w4))) (bsel (decide (v = (2 : Int))) (∃ v4 : List UInt8, w1.cell? (Addr.mk w.heap.size 1 none) = some (.string (S v4)) ∧ Calls Tryd.prog fn_fields_splitter_split #[(.pointer x), (.string (S v4))] w1 (fun ed4 w6 => (ed4 = .returned (.tuple #[]) ∧ R (.returned (.tuple #[])) w6) ∨ (∃ ch4, ed4 = .panicked ch4 ∧ R (.panicked ch4) w6))) (bsel (decide (v = (3 : Int))) (someK x (fun a => ∃ v5 : Bool, w1.cell? (a.add 4) = some (.bool v5) ∧ bsel v5 (Calls Tryd.prog fn_fields_splitter_end #[(.pointer x)] w1 (fun ed5 w7 => (ed5 = .returned (.tuple #[]) ∧ someK x (fun a1 => stCells (a1.add 5) (fun (w8 : World) => R (.returned (.tuple #[])) w8) 0 [(.bool false)] w7)) ∨ (∃ ch5, ed5 = .panicked ch5 ∧ R (.panicked ch5) w7))) (someK x (fun a2 => stCells (a2.add 5) (fun (w9 : World) => R (.returned (.tuple #[])) w9) 0 [(.bool false)] w1)))) (R (.returned (.tuple #[])) w1)))))
set_option maxRecDepth 100000 in
theorem fields_splitter_take_calls (x : Option Addr) (sKind : Int) (sText : List UInt8) (w : World) (R : Ending → World → Prop) (hvc : vc_fields_splitter_take x sKind sText w R) : Calls Tryd.prog fn_fields_splitter_take #[(.pointer x), (.agg #[(.int .i64 sKind), (.string (S sText))])] w R :=
  calls_vc { live := [], draws := [] } Tryd.func15 rfl (Eq.mp (α := vc_fields_splitter_take x sKind sText w R) (by kernel_rfl) hvc)

/- (*scullion/fields.splitter).end -/
set_option maxRecDepth 100000 in
def vc_fields_splitter_end (x : Option Addr) (w : World) (R : Ending → World → Prop) : Prop :=
  ∃ Sw : World → Prop, Sw w.drew ∧ someK x (fun a => ∃ (v : Option Addr) (vL vC : Nat), (∀ wq : World, Sw wq → wq.cell? (a.add 1) = some (.slice v vL vC)) ∧ someK x (fun a1 => Calls Tryd.prog fn_strings_Builder_String #[(.pointer (some (a1.add 2)))] w.drew (fun ed w1 => (∃ r : List UInt8, ed = .returned (.string (S r)) ∧ Sw w1 ∧ letW (w1.alloc (.cells #[(.string (S r))] 9)) (fun (w2 : World) => Sw w2 ∧ appK w2 9 1 16 v vL vC (some (Addr.mk w1.heap.size 0 none)) 1 (fun (p : Option Addr) (cp : Nat) (w3 : World) => someK x (fun a3 => stCells (a3.add 1) (fun (w4 : World) => someK x (fun a4 => Calls Tryd.prog fn_strings_Builder_Reset #[(.pointer (some (a4.add 2)))] w4 (fun ed1 w5 => (ed1 = .returned (.tuple #[]) ∧ someK x (fun a5 => stCells (a5.add 4) (fun (w6 : World) => R (.returned (.tuple #[])) w6) 0 [(.bool false)] w5)) ∨ (∃ ch1, ed1 = .panicked ch1 ∧ R (.panicked ch1) w5)))) 0 [(.slice p (vL + 1) cp)] w3)))) ∨ (∃ ch, ed = .panicked ch ∧ R (.panicked ch) w1))))
set_option maxRecDepth 100000 in
theorem fields_splitter_end_calls (x : Option Addr) (w : World) (R : Ending → World → Prop) (hvc : vc_fields_splitter_end x w R) : Calls Tryd.prog fn_fields_splitter_end #[(.pointer x)] w R :=
  calls_vc { live := [], draws := [(0, .held)] } Tryd.func16 rfl (Eq.mp (α := vc_fields_splitter_end x w R) (by kernel_rfl) hvc)

/- scullion/scullionref14.Active -/
set_option maxRecDepth 100000 in
def vc_ref14_Active (s : List UInt8) (w : World) (R : Ending → World → Prop) : Prop :=
  ∃ (xI : List UInt8 → Int → World → Prop) (m : List UInt8 → Int → World → Nat), (xI ([] : List UInt8) (0 : Int) w) ∧ ∀ (out : List UInt8) (i : Int) (_us1 : Nat → Value) (w1 : World), (xI out i w1) → bsel (decide (i < (s.length : Int))) (0 ≤ i ∧ ∃ b : UInt8, s[Int.toNat i]? = some b ∧ bsel (decide ((b.toNat : Int) = (92 : Int))) (out.length + ([92] : List UInt8).length ≤ 9223372036854775807 ∧ 0 ≤ i ∧ i ≤ (IntKind.i64.wrap (i + (1 : Int))) ∧ (IntKind.i64.wrap (i + (1 : Int))) ≤ s.length ∧ (out ++ ([92] : List UInt8)).length + ((s.drop (Int.toNat i)).take (Int.toNat (IntKind.i64.wrap (i + (1 : Int))) - Int.toNat i)).length ≤ 9223372036854775807 ∧ xI ((out ++ ([92] : List UInt8)) ++ ((s.drop (Int.toNat i)).take (Int.toNat (IntKind.i64.wrap (i + (1 : Int))) - Int.toNat i))) (IntKind.i64.wrap (i + (1 : Int))) w1 ∧ m ((out ++ ([92] : List UInt8)) ++ ((s.drop (Int.toNat i)).take (Int.toNat (IntKind.i64.wrap (i + (1 : Int))) - Int.toNat i))) (IntKind.i64.wrap (i + (1 : Int))) w1 < m out i w1) (0 ≤ i ∧ i ≤ (IntKind.i64.wrap (i + (1 : Int))) ∧ (IntKind.i64.wrap (i + (1 : Int))) ≤ s.length ∧ out.length + ((s.drop (Int.toNat i)).take (Int.toNat (IntKind.i64.wrap (i + (1 : Int))) - Int.toNat i)).length ≤ 9223372036854775807 ∧ xI (out ++ ((s.drop (Int.toNat i)).take (Int.toNat (IntKind.i64.wrap (i + (1 : Int))) - Int.toNat i))) (IntKind.i64.wrap (i + (1 : Int))) w1 ∧ m (out ++ ((s.drop (Int.toNat i)).take (Int.toNat (IntKind.i64.wrap (i + (1 : Int))) - Int.toNat i))) (IntKind.i64.wrap (i + (1 : Int))) w1 < m out i w1)) (R (.returned (.string (S out))) w1)
set_option maxRecDepth 100000 in
theorem ref14_Active_calls (s : List UInt8) (w : World) (R : Ending → World → Prop) (hvc : vc_ref14_Active s w R) : Calls Tryd.prog fn_ref14_Active #[(.string (S s))] w R :=
  calls_vc { live := [(58, [(3, (.leaf .str)), (4, (.leaf (.int .i64)))])], draws := [] } Tryd.func17 rfl (Eq.mp (α := vc_ref14_Active s w R) (by kernel_rfl) hvc)

/- scullion/scullionref11.Escape -/
set_option maxRecDepth 100000 in
def vc_ref11_Escape (s : List UInt8) (w : World) (R : Ending → World → Prop) : Prop :=
  ∃ (xI : List UInt8 → Int → World → Prop) (m : List UInt8 → Int → World → Nat), (xI ([] : List UInt8) (0 : Int) w) ∧ ∀ (out : List UInt8) (i : Int) (_us1 : Nat → Value) (w1 : World), (xI out i w1) → bsel (decide (i < (s.length : Int))) (out.length + ([92] : List UInt8).length ≤ 9223372036854775807 ∧ 0 ≤ i ∧ i ≤ (IntKind.i64.wrap (i + (1 : Int))) ∧ (IntKind.i64.wrap (i + (1 : Int))) ≤ s.length ∧ (out ++ ([92] : List UInt8)).length + ((s.drop (Int.toNat i)).take (Int.toNat (IntKind.i64.wrap (i + (1 : Int))) - Int.toNat i)).length ≤ 9223372036854775807 ∧ xI ((out ++ ([92] : List UInt8)) ++ ((s.drop (Int.toNat i)).take (Int.toNat (IntKind.i64.wrap (i + (1 : Int))) - Int.toNat i))) (IntKind.i64.wrap (i + (1 : Int))) w1 ∧ m ((out ++ ([92] : List UInt8)) ++ ((s.drop (Int.toNat i)).take (Int.toNat (IntKind.i64.wrap (i + (1 : Int))) - Int.toNat i))) (IntKind.i64.wrap (i + (1 : Int))) w1 < m out i w1) (R (.returned (.string (S out))) w1)
set_option maxRecDepth 100000 in
theorem ref11_Escape_calls (s : List UInt8) (w : World) (R : Ending → World → Prop) (hvc : vc_ref11_Escape s w R) : Calls Tryd.prog fn_ref11_Escape #[(.string (S s))] w R :=
  calls_vc { live := [(58, [(3, (.leaf .str)), (4, (.leaf (.int .i64)))])], draws := [] } Tryd.func18 rfl (Eq.mp (α := vc_ref11_Escape s w R) (by kernel_rfl) hvc)

/- (*scullion/scullionref14.state).split -/
set_option maxRecDepth 100000 in
def vc_ref14_state_split (x : Option Addr) (s : List UInt8) (ifs : List UInt8) (w : World) (R : Ending → World → Prop) : Prop :=
  ∃ (xI : Int → World → Prop) (m : Int → World → Nat), (xI (0 : Int) w) ∧ ∀ (i : Int) (_us1 : Nat → Value) (w1 : World), (xI i w1) → bsel (decide (i < (s.length : Int))) (∃ xJ : World → Prop, (0 ≤ i ∧ ∃ b : UInt8, s[Int.toNat i]? = some b ∧ ∃ xJ1 : Bool → World → Prop, (Calls Tryd.prog fn_ref14_in #[(.int .u8 (b.toNat : Int)), (.string (S ifs))] w1 (fun ed w2 => (∃ r : Bool, ed = .returned (.bool r) ∧ bsel r (bsel (decide ((b.toNat : Int) = (32 : Int))) (xJ1 true w2) (bsel (decide ((b.toNat : Int) = (9 : Int))) (xJ1 true w2) (xJ1 (decide ((b.toNat : Int) = (10 : Int))) w2))) (xJ1 false w2)) ∨ (∃ ch, ed = .panicked ch ∧ R (.panicked ch) w2))) ∧ ∀ (x1 : Bool) (_us2 : Nat → Value) (w3 : World), (xJ1 x1 w3) → bsel x1 (someK x (fun a => ∃ v : Bool, w3.cell? (a.add 2) = some (.bool v) ∧ bsel v (Calls Tryd.prog fn_ref14_state_end #[(.pointer x)] w3 (fun ed1 w4 => (ed1 = .returned (.tuple #[]) ∧ someK x (fun a1 => stCells (a1.add 3) (fun (w5 : World) => xJ w5) 0 [(.bool true)] w4)) ∨ (∃ ch1, ed1 = .panicked ch1 ∧ R (.panicked ch1) w4))) (xJ w3))) (Calls Tryd.prog fn_ref14_in #[(.int .u8 (b.toNat : Int)), (.string (S ifs))] w3 (fun ed2 w6 => (∃ r1 : Bool, ed2 = .returned (.bool r1) ∧ bsel r1 (someK x (fun a2 => ∃ v1 : Bool, w6.cell? (a2.add 2) = some (.bool v1) ∧ bsel v1 (Calls Tryd.prog fn_ref14_state_end #[(.pointer x)] w6 (fun ed3 w7 => (ed3 = .returned (.tuple #[]) ∧ someK x (fun a3 => stCells (a3.add 3) (fun (w8 : World) => xJ w8) 0 [(.bool false)] w7)) ∨ (∃ ch3, ed3 = .panicked ch3 ∧ R (.panicked ch3) w7))) (someK x (fun a4 => ∃ v2 : Bool, w6.cell? (a4.add 3) = some (.bool v2) ∧ bsel (!v2) (Calls Tryd.prog fn_ref14_state_end #[(.pointer x)] w6 (fun ed4 w9 => (ed4 = .returned (.tuple #[]) ∧ someK x (fun a5 => stCells (a5.add 3) (fun (w10 : World) => xJ w10) 0 [(.bool false)] w9)) ∨ (∃ ch4, ed4 = .panicked ch4 ∧ R (.panicked ch4) w9))) (someK x (fun a6 => stCells (a6.add 3) (fun (w11 : World) => xJ w11) 0 [(.bool false)] w6)))))) (∃ Sw : World → Prop, Sw w6.drew ∧ someK x (fun a7 => ∃ v3 : List UInt8, (∀ wq : World, Sw wq → wq.cell? (a7.add 1) = some (.string (S v3))) ∧ 0 ≤ i ∧ i ≤ (IntKind.i64.wrap (i + (1 : Int))) ∧ (IntKind.i64.wrap (i + (1 : Int))) ≤ s.length ∧ Calls Tryd.prog fn_ref14_Active #[(.string (S ((s.drop (Int.toNat i)).take (Int.toNat (IntKind.i64.wrap (i + (1 : Int))) - Int.toNat i))))] w6.drew (fun ed5 w12 => (∃ r2 : List UInt8, ed5 = .returned (.string (S r2)) ∧ Sw w12 ∧ v3.length + r2.length ≤ 9223372036854775807 ∧ someK x (fun a8 => stCells (a8.add 1) (fun (w13 : World) => someK x (fun a9 => stCells (a9.add 2) (fun (w14 : World) => someK x (fun a10 => stCells (a10.add 3) (fun (w15 : World) => xJ w15) 0 [(.bool false)] w14)) 0 [(.bool true)] w13)) 0 [(.string (S (v3 ++ r2)))] w12)) ∨ (∃ ch5, ed5 = .panicked ch5 ∧ R (.panicked ch5) w12))))) ∨ (∃ ch2, ed2 = .panicked ch2 ∧ R (.panicked ch2) w6)))) ∧ ∀ (_us3 : Nat → Value) (w16 : World), (xJ w16) → xI (IntKind.i64.wrap (i + (1 : Int))) w16 ∧ m (IntKind.i64.wrap (i + (1 : Int))) w16 < m i w1) (R (.returned (.tuple #[])) w1)
set_option maxRecDepth 100000 in
theorem ref14_state_split_calls (x : Option Addr) (s : List UInt8) (ifs : List UInt8) (w : World) (R : Ending → World → Prop) (hvc : vc_ref14_state_split x s ifs w R) : Calls Tryd.prog fn_ref14_state_split #[(.pointer x), (.string (S s)), (.string (S ifs))] w R :=
  calls_vc { live := [(6, [(6, (.leaf (.int .i64)))]), (25, []), (402, [(37, (.leaf .bool))])], draws := [(4, .held)] } Tryd.func19 rfl (Eq.mp (α := vc_ref14_state_split x s ifs w R) (by kernel_rfl) hvc)

/- (*scullion/scullionref14.state).end -/
set_option maxRecDepth 100000 in
def vc_ref14_state_end (x : Option Addr) (w : World) (R : Ending → World → Prop) : Prop :=
  ∃ Sw : World → Prop, Sw w.drew ∧ someK x (fun a => ∃ (v : Option Addr) (vL vC : Nat), (∀ wq : World, Sw wq → wq.cell? a = some (.slice v vL vC)) ∧ someK x (fun a1 => ∃ v1 : List UInt8, (∀ wq : World, Sw wq → wq.cell? (a1.add 1) = some (.string (S v1))) ∧ letW (w.drew.alloc (.cells #[(.string (S v1))] 9)) (fun (w1 : World) => Sw w1 ∧ appK w1 9 1 16 v vL vC (some (Addr.mk w.drew.heap.size 0 none)) 1 (fun (p : Option Addr) (cp : Nat) (w2 : World) => someK x (fun a3 => stCells a3 (fun (w3 : World) => someK x (fun a4 => stCells (a4.add 1) (fun (w4 : World) => someK x (fun a5 => stCells (a5.add 2) (fun (w5 : World) => R (.returned (.tuple #[])) w5) 0 [(.bool false)] w4)) 0 [(.string (S ([] : List UInt8)))] w3)) 0 [(.slice p (vL + 1) cp)] w2)))))
set_option maxRecDepth 100000 in
theorem ref14_state_end_calls (x : Option Addr) (w : World) (R : Ending → World → Prop) (hvc : vc_ref14_state_end x w R) : Calls Tryd.prog fn_ref14_state_end #[(.pointer x)] w R :=
  calls_vc { live := [], draws := [(0, .held)] } Tryd.func20 rfl (Eq.mp (α := vc_ref14_state_end x w R) (by kernel_rfl) hvc)

/- (*strings.Builder).WriteByte -/
set_option maxRecDepth 100000 in
def vc_strings_Builder_WriteByte (b : Option Addr) (cx : Int) (w : World) (R : Ending → World → Prop) : Prop :=
  Calls Tryd.prog fn_strings_Builder_copyCheck #[(.pointer b)] w (fun ed w1 => (ed = .returned (.tuple #[]) ∧ someK b (fun a => ∃ (v : Option Addr) (vL vC : Nat), w1.cell? (a.add 1) = some (.slice v vL vC) ∧ letW (w1.alloc (.cells #[(.int .u8 cx)] 5)) (fun (w2 : World) => appK w2 5 1 1 v vL vC (some (Addr.mk w1.heap.size 0 none)) 1 (fun (p : Option Addr) (cp : Nat) (w3 : World) => someK b (fun a2 => stCells (a2.add 1) (fun (w4 : World) => R (.returned .nilIface) w4) 0 [(.slice p (vL + 1) cp)] w3))))) ∨ (∃ ch, ed = .panicked ch ∧ R (.panicked ch) w1))
set_option maxRecDepth 100000 in
theorem strings_Builder_WriteByte_calls (b : Option Addr) (cx : Int) (w : World) (R : Ending → World → Prop) (hvc : vc_strings_Builder_WriteByte b cx w R) : Calls Tryd.prog fn_strings_Builder_WriteByte #[(.pointer b), (.int .u8 cx)] w R :=
  calls_vc { live := [], draws := [] } Tryd.func21 rfl (Eq.mp (α := vc_strings_Builder_WriteByte b cx w R) (by kernel_rfl) hvc)

/- (*strings.Builder).WriteString -/
set_option maxRecDepth 100000 in
def vc_strings_Builder_WriteString (b : Option Addr) (s : List UInt8) (w : World) (R : Ending → World → Prop) : Prop :=
  Calls Tryd.prog fn_strings_Builder_copyCheck #[(.pointer b)] w (fun ed w1 => (ed = .returned (.tuple #[]) ∧ someK b (fun a => ∃ (v : Option Addr) (vL vC : Nat), w1.cell? (a.add 1) = some (.slice v vL vC) ∧ appS w1 5 1 1 v vL vC s (fun (p : Option Addr) (cp : Nat) (w2 : World) => someK b (fun a2 => stCells (a2.add 1) (fun (w3 : World) => R (.returned (.tuple #[(.int .i64 (s.length : Int)), .nilIface])) w3) 0 [(.slice p (vL + s.length) cp)] w2)))) ∨ (∃ ch, ed = .panicked ch ∧ R (.panicked ch) w1))
set_option maxRecDepth 100000 in
theorem strings_Builder_WriteString_calls (b : Option Addr) (s : List UInt8) (w : World) (R : Ending → World → Prop) (hvc : vc_strings_Builder_WriteString b s w R) : Calls Tryd.prog fn_strings_Builder_WriteString #[(.pointer b), (.string (S s))] w R :=
  calls_vc { live := [], draws := [] } Tryd.func22 rfl (Eq.mp (α := vc_strings_Builder_WriteString b s w R) (by kernel_rfl) hvc)

/- scullion/pattern.Escape -/
set_option maxRecDepth 100000 in
def vc_pattern_Escape (s : List UInt8) (w : World) (R : Ending → World → Prop) : Prop :=
  0 ≤ (0 : Int) ∧ (0 : Int) ≤ (IntKind.i64.wrap ((2 : Int) * (s.length : Int))) ∧ (1 : Int) * (IntKind.i64.wrap ((2 : Int) * (s.length : Int))) ≤ 281474976710656 ∧ (IntKind.i64.wrap ((2 : Int) * (s.length : Int))) ≤ 9223372036854775807 ∧ letW (w.alloc (.cells (madeCells #[(.int .u8 0)] (Int.toNat (IntKind.i64.wrap ((2 : Int) * (s.length : Int))) * 1)) 5)) (fun (w1 : World) => ∃ (xI : Option Addr → Nat → Nat → Int → World → Prop) (m : Option Addr → Nat → Nat → Int → World → Nat), (xI (some (Addr.mk w.heap.size 0 none)) (Int.toNat (0 : Int)) (Int.toNat (IntKind.i64.wrap ((2 : Int) * (s.length : Int)))) (0 : Int) w1) ∧ ∀ (b : Option Addr) (bL : Nat) (bC : Nat) (x : Int) (_us1 : Nat → Value) (w2 : World), (xI b bL bC x w2) → bsel (decide (x < (s.length : Int))) (0 ≤ x ∧ ∃ b1 : UInt8, s[Int.toNat x]? = some b1 ∧ letW (w2.alloc (.cells #[(.int .u8 (92 : Int)), (.int .u8 (b1.toNat : Int))] 5)) (fun (w3 : World) => appK w3 5 1 1 b bL bC (some (Addr.mk w2.heap.size 0 none)) 2 (fun (p : Option Addr) (cp : Nat) (w4 : World) => xI p (bL + 2) cp (IntKind.i64.wrap (x + (1 : Int))) w4 ∧ m p (bL + 2) cp (IntKind.i64.wrap (x + (1 : Int))) w4 < m b bL bC x w2))) (∃ bs : List UInt8, BytesAt (fun a v => w2.cell? a = some v) b bL bs ∧ R (.returned (.string (S bs))) w2))
set_option maxRecDepth 100000 in
theorem pattern_Escape_calls (s : List UInt8) (w : World) (R : Ending → World → Prop) (hvc : vc_pattern_Escape s w R) : Calls Tryd.prog fn_pattern_Escape #[(.string (S s))] w R :=
  calls_vc { live := [(58, [(3, (.leaf .slc)), (11, (.leaf (.int .i64)))])], draws := [] } Tryd.func23 rfl (Eq.mp (α := vc_pattern_Escape s w R) (by kernel_rfl) hvc)

/- scullion/fields.active -/
set_option maxRecDepth 100000 in
def vc_fields_active (s : List UInt8) (w : World) (R : Ending → World → Prop) : Prop :=
  Calls Tryd.prog fn_strings_ReplaceAll #[(.string (S s)), (.string (S ([92] : List UInt8))), (.string (S ([92, 92] : List UInt8)))] w (fun ed w1 => (∃ r : List UInt8, ed = .returned (.string (S r)) ∧ R (.returned (.string (S r))) w1) ∨ (∃ ch, ed = .panicked ch ∧ R (.panicked ch) w1))
set_option maxRecDepth 100000 in
theorem fields_active_calls (s : List UInt8) (w : World) (R : Ending → World → Prop) (hvc : vc_fields_active s w R) : Calls Tryd.prog fn_fields_active #[(.string (S s))] w R :=
  calls_vc { live := [], draws := [] } Tryd.func24 rfl (Eq.mp (α := vc_fields_active s w R) (by kernel_rfl) hvc)

/- (*strings.Builder).String -/
set_option maxRecDepth 100000 in
def vc_strings_Builder_String (b : Option Addr) (w : World) (R : Ending → World → Prop) : Prop :=
  someK b (fun a => ∃ (v : Option Addr) (vL vC : Nat), w.cell? (a.add 1) = some (.slice v vL vC) ∧ (v = none ∨ vC ≠ 0) ∧ someK b (fun a1 => ∃ (v1 : Option Addr) (vL1 vC1 : Nat), w.cell? (a1.add 1) = some (.slice v1 vL1 vC1) ∧ ustrK 5 v (((vL1 : Nat) : Int) : Int) w.drew (fun (us : List UInt8) (w1 : World) => R (.returned (.string (S us))) w1)))
set_option maxRecDepth 100000 in
theorem strings_Builder_String_calls (b : Option Addr) (w : World) (R : Ending → World → Prop) (hvc : vc_strings_Builder_String b w R) : Calls Tryd.prog fn_strings_Builder_String #[(.pointer b)] w R :=
  calls_vc { live := [], draws := [(1, .tail 10)] } Tryd.func25 rfl (Eq.mp (α := vc_strings_Builder_String b w R) (by kernel_rfl) hvc)

/- (*scullion/fields.splitter).put -/
set_option maxRecDepth 100000 in
def vc_fields_splitter_put (x : Option Addr) (p : List UInt8) (w : World) (R : Ending → World → Prop) : Prop :=
  someK x (fun a => Calls Tryd.prog fn_strings_Builder_WriteString #[(.pointer (some (a.add 2))), (.string (S p))] w (fun ed w1 => (∃ r : Int, ∃ r1 : Value, r1.oneCell' = true ∧ ed = .returned (.tuple #[(.int .i64 r), r1]) ∧ someK x (fun a1 => stCells (a1.add 4) (fun (w2 : World) => someK x (fun a2 => stCells (a2.add 5) (fun (w3 : World) => R (.returned (.tuple #[])) w3) 0 [(.bool false)] w2)) 0 [(.bool true)] w1)) ∨ (∃ ch, ed = .panicked ch ∧ R (.panicked ch) w1)))
set_option maxRecDepth 100000 in
theorem fields_splitter_put_calls (x : Option Addr) (p : List UInt8) (w : World) (R : Ending → World → Prop) (hvc : vc_fields_splitter_put x p w R) : Calls Tryd.prog fn_fields_splitter_put #[(.pointer x), (.string (S p))] w R :=
  calls_vc { live := [], draws := [] } Tryd.func26 rfl (Eq.mp (α := vc_fields_splitter_put x p w R) (by kernel_rfl) hvc)

/- (*scullion/fields.splitter).split -/
set_option maxRecDepth 100000 in
def vc_fields_splitter_split (x : Option Addr) (s : List UInt8) (w : World) (R : Ending → World → Prop) : Prop :=
  ∃ (xI : Int → World → Prop) (m : Int → World → Nat), (xI (0 : Int) w) ∧ ∀ (x1 : Int) (_us1 : Nat → Value) (w1 : World), (xI x1 w1) → bsel (decide (x1 < (s.length : Int))) (0 ≤ x1 ∧ x1 ≤ (IntKind.i64.wrap (x1 + (1 : Int))) ∧ (IntKind.i64.wrap (x1 + (1 : Int))) ≤ s.length ∧ someK x (fun a => ∃ v : List UInt8, w1.cell? a = some (.string (S v)) ∧ Calls Tryd.prog fn_strings_Contains #[(.string (S v)), (.string (S ((s.drop (Int.toNat x1)).take (Int.toNat (IntKind.i64.wrap (x1 + (1 : Int))) - Int.toNat x1))))] w1 (fun ed w2 => (∃ r : Bool, ed = .returned (.bool r) ∧ bsel (!r) (Calls Tryd.prog fn_fields_active #[(.string (S ((s.drop (Int.toNat x1)).take (Int.toNat (IntKind.i64.wrap (x1 + (1 : Int))) - Int.toNat x1))))] w2 (fun ed1 w3 => (∃ r1 : List UInt8, ed1 = .returned (.string (S r1)) ∧ Calls Tryd.prog fn_fields_splitter_put #[(.pointer x), (.string (S r1))] w3 (fun ed2 w4 => (ed2 = .returned (.tuple #[]) ∧ xI (IntKind.i64.wrap (x1 + (1 : Int))) w4 ∧ m (IntKind.i64.wrap (x1 + (1 : Int))) w4 < m x1 w1) ∨ (∃ ch2, ed2 = .panicked ch2 ∧ R (.panicked ch2) w4))) ∨ (∃ ch1, ed1 = .panicked ch1 ∧ R (.panicked ch1) w3))) (Calls Tryd.prog fn_strings_Contains #[(.string (S ([32, 9, 10] : List UInt8))), (.string (S ((s.drop (Int.toNat x1)).take (Int.toNat (IntKind.i64.wrap (x1 + (1 : Int))) - Int.toNat x1))))] w2 (fun ed3 w5 => (∃ r2 : Bool, ed3 = .returned (.bool r2) ∧ bsel r2 (someK x (fun a1 => ∃ v1 : Bool, w5.cell? (a1.add 4) = some (.bool v1) ∧ bsel v1 (Calls Tryd.prog fn_fields_splitter_end #[(.pointer x)] w5 (fun ed4 w6 => (ed4 = .returned (.tuple #[]) ∧ someK x (fun a2 => stCells (a2.add 5) (fun (w7 : World) => xI (IntKind.i64.wrap (x1 + (1 : Int))) w7 ∧ m (IntKind.i64.wrap (x1 + (1 : Int))) w7 < m x1 w1) 0 [(.bool true)] w6)) ∨ (∃ ch4, ed4 = .panicked ch4 ∧ R (.panicked ch4) w6))) (xI (IntKind.i64.wrap (x1 + (1 : Int))) w5 ∧ m (IntKind.i64.wrap (x1 + (1 : Int))) w5 < m x1 w1))) (someK x (fun a3 => ∃ v2 : Bool, w5.cell? (a3.add 4) = some (.bool v2) ∧ bsel v2 (bsel v2 (Calls Tryd.prog fn_fields_splitter_end #[(.pointer x)] w5 (fun ed5 w8 => (ed5 = .returned (.tuple #[]) ∧ someK x (fun a4 => stCells (a4.add 5) (fun (w9 : World) => xI (IntKind.i64.wrap (x1 + (1 : Int))) w9 ∧ m (IntKind.i64.wrap (x1 + (1 : Int))) w9 < m x1 w1) 0 [(.bool false)] w8)) ∨ (∃ ch5, ed5 = .panicked ch5 ∧ R (.panicked ch5) w8))) (someK x (fun a5 => stCells (a5.add 5) (fun (w10 : World) => xI (IntKind.i64.wrap (x1 + (1 : Int))) w10 ∧ m (IntKind.i64.wrap (x1 + (1 : Int))) w10 < m x1 w1) 0 [(.bool false)] w5))) (someK x (fun a6 => ∃ v3 : Bool, w5.cell? (a6.add 5) = some (.bool v3) ∧ bsel (!v3) (Calls Tryd.prog fn_fields_splitter_end #[(.pointer x)] w5 (fun ed6 w11 => (ed6 = .returned (.tuple #[]) ∧ someK x (fun a7 => stCells (a7.add 5) (fun (w12 : World) => xI (IntKind.i64.wrap (x1 + (1 : Int))) w12 ∧ m (IntKind.i64.wrap (x1 + (1 : Int))) w12 < m x1 w1) 0 [(.bool false)] w11)) ∨ (∃ ch6, ed6 = .panicked ch6 ∧ R (.panicked ch6) w11))) (someK x (fun a8 => stCells (a8.add 5) (fun (w13 : World) => xI (IntKind.i64.wrap (x1 + (1 : Int))) w13 ∧ m (IntKind.i64.wrap (x1 + (1 : Int))) w13 < m x1 w1) 0 [(.bool false)] w5))))))) ∨ (∃ ch3, ed3 = .panicked ch3 ∧ R (.panicked ch3) w5)))) ∨ (∃ ch, ed = .panicked ch ∧ R (.panicked ch) w2)))) (R (.returned (.tuple #[])) w1)
set_option maxRecDepth 100000 in
theorem fields_splitter_split_calls (x : Option Addr) (s : List UInt8) (w : World) (R : Ending → World → Prop) (hvc : vc_fields_splitter_split x s w R) : Calls Tryd.prog fn_fields_splitter_split #[(.pointer x), (.string (S s))] w R :=
  calls_vc { live := [(6, [(8, (.leaf (.int .i64)))])], draws := [] } Tryd.func27 rfl (Eq.mp (α := vc_fields_splitter_split x s w R) (by kernel_rfl) hvc)

/- (*strings.Builder).Reset -/
set_option maxRecDepth 100000 in
def vc_strings_Builder_Reset (b : Option Addr) (w : World) (R : Ending → World → Prop) : Prop :=
  someK b (fun a => stCells a (fun (w1 : World) => someK b (fun a1 => stCells (a1.add 1) (fun (w2 : World) => R (.returned (.tuple #[])) w2) 0 [(.slice none 0 0)] w1)) 0 [(.pointer none)] w)
set_option maxRecDepth 100000 in
theorem strings_Builder_Reset_calls (b : Option Addr) (w : World) (R : Ending → World → Prop) (hvc : vc_strings_Builder_Reset b w R) : Calls Tryd.prog fn_strings_Builder_Reset #[(.pointer b)] w R :=
  calls_vc { live := [], draws := [] } Tryd.func28 rfl (Eq.mp (α := vc_strings_Builder_Reset b w R) (by kernel_rfl) hvc)

/- scullion/scullionref14.in -/
set_option maxRecDepth 100000 in
def vc_ref14_in (cx : Int) (s : List UInt8) (w : World) (R : Ending → World → Prop) : Prop :=
  ∃ (xI : Int → World → Prop) (m : Int → World → Nat), (xI (0 : Int) w) ∧ ∀ (i : Int) (_us1 : Nat → Value) (w1 : World), (xI i w1) → bsel (decide (i < (s.length : Int))) (0 ≤ i ∧ ∃ b : UInt8, s[Int.toNat i]? = some b ∧ bsel (decide ((b.toNat : Int) = cx)) (R (.returned (.bool true)) w1) (xI (IntKind.i64.wrap (i + (1 : Int))) w1 ∧ m (IntKind.i64.wrap (i + (1 : Int))) w1 < m i w1)) (R (.returned (.bool false)) w1)
set_option maxRecDepth 100000 in
theorem ref14_in_calls (cx : Int) (s : List UInt8) (w : World) (R : Ending → World → Prop) (hvc : vc_ref14_in cx s w R) : Calls Tryd.prog fn_ref14_in #[(.int .u8 cx), (.string (S s))] w R :=
  calls_vc { live := [(26, [(5, (.leaf (.int .i64)))])], draws := [] } Tryd.func29 rfl (Eq.mp (α := vc_ref14_in cx s w R) (by kernel_rfl) hvc)

/- (*strings.Builder).copyCheck -/
set_option maxRecDepth 100000 in
def vc_strings_Builder_copyCheck (b : Option Addr) (w : World) (R : Ending → World → Prop) : Prop :=
  someK b (fun a => ∃ v : Option Addr, w.cell? a = some (.pointer v) ∧ bsel v.isNone (someK b (fun a1 => InRow w a1 ∧ ExtSame Tryd.prog fn_internal_abi_NoEscape ∧ LiesU Tryd.prog 43 w a1 ∧ someK b (fun a2 => stCells a2 (fun (w1 : World) => R (.returned (.tuple #[])) w1) 0 [(.pointer (some a1))] w))) (someK b (fun a3 => ∃ v1 : Option Addr, w.cell? a3 = some (.pointer v1) ∧ ptrB Tryd.prog 43 .neq v1 b (fun (pb : Bool) => bsel pb (False) (R (.returned (.tuple #[])) w)))))
set_option maxRecDepth 100000 in
theorem strings_Builder_copyCheck_calls (b : Option Addr) (w : World) (R : Ending → World → Prop) (hvc : vc_strings_Builder_copyCheck b w R) : Calls Tryd.prog fn_strings_Builder_copyCheck #[(.pointer b)] w R :=
  calls_vc { live := [], draws := [] } Tryd.func30 rfl (Eq.mp (α := vc_strings_Builder_copyCheck b w R) (by kernel_rfl) hvc)

/- strings.ReplaceAll -/
set_option maxRecDepth 100000 in
def vc_strings_ReplaceAll (s : List UInt8) (old : List UInt8) (new : List UInt8) (w : World) (R : Ending → World → Prop) : Prop :=
  Calls Tryd.prog fn_strings_Replace #[(.string (S s)), (.string (S old)), (.string (S new)), (.int .i64 (-1 : Int))] w (fun ed w1 => (∃ r : List UInt8, ed = .returned (.string (S r)) ∧ R (.returned (.string (S r))) w1) ∨ (∃ ch, ed = .panicked ch ∧ R (.panicked ch) w1))
set_option maxRecDepth 100000 in
theorem strings_ReplaceAll_calls (s : List UInt8) (old : List UInt8) (new : List UInt8) (w : World) (R : Ending → World → Prop) (hvc : vc_strings_ReplaceAll s old new w R) : Calls Tryd.prog fn_strings_ReplaceAll #[(.string (S s)), (.string (S old)), (.string (S new))] w R :=
  calls_vc { live := [], draws := [] } Tryd.func31 rfl (Eq.mp (α := vc_strings_ReplaceAll s old new w R) (by kernel_rfl) hvc)

/- strings.Replace -/
set_option maxRecDepth 100000 in
def vc_strings_Replace (s : List UInt8) (old : List UInt8) (new : List UInt8) (n : Int) (w : World) (R : Ending → World → Prop) : Prop :=
  bsel (decide (old = new)) (R (.returned (.string (S s))) w) (bsel (decide (n = (0 : Int))) (R (.returned (.string (S s))) w) (∃ xJ : Int → World → Prop, (Calls Tryd.prog fn_strings_Count #[(.string (S s)), (.string (S old))] w (fun ed w1 => (∃ r : Int, ed = .returned (.int .i64 r) ∧ bsel (decide (r = (0 : Int))) (R (.returned (.string (S s))) w1) (∃ xJ1 : Bool → World → Prop, (bsel (decide (n < (0 : Int))) (xJ1 true w1) (xJ1 (decide (r < n)) w1)) ∧ ∀ (x : Bool) (_us1 : Nat → Value) (w2 : World), (xJ1 x w2) → bsel x (xJ r w2) (xJ n w2))) ∨ (∃ ch, ed = .panicked ch ∧ R (.panicked ch) w1))) ∧ ∀ (n1 : Int) (_us2 : Nat → Value) (w3 : World), (xJ n1 w3) → letW (w3.alloc (.cells #[(.pointer none), (.slice none 0 0)] 43)) (fun (w4 : World) => Calls Tryd.prog fn_strings_Builder_Grow #[(.pointer (some (Addr.mk w3.heap.size 0 none))), (.int .i64 (IntKind.i64.wrap ((s.length : Int) + (IntKind.i64.wrap (n1 * (IntKind.i64.wrap ((new.length : Int) - (old.length : Int))))))))] w4 (fun ed1 w5 => (ed1 = .returned (.tuple #[]) ∧ bsel (decide ((0 : Int) < (old.length : Int))) (∃ (xI : Int → Int → World → Prop) (m : Int → Int → World → Nat), (xI (0 : Int) (0 : Int) w5) ∧ ∀ (start : Int) (x1 : Int) (_us3 : Nat → Value) (w6 : World), (xI start x1 w6) → bsel (decide (x1 < n1)) (0 ≤ start ∧ start ≤ s.length ∧ Calls Tryd.prog fn_strings_Index #[(.string (S (s.drop (Int.toNat start)))), (.string (S old))] w6 (fun ed2 w7 => (∃ r1 : Int, ed2 = .returned (.int .i64 r1) ∧ 0 ≤ start ∧ start ≤ (IntKind.i64.wrap (start + r1)) ∧ (IntKind.i64.wrap (start + r1)) ≤ s.length ∧ Calls Tryd.prog fn_strings_Builder_WriteString #[(.pointer (some (Addr.mk w3.heap.size 0 none))), (.string (S ((s.drop (Int.toNat start)).take (Int.toNat (IntKind.i64.wrap (start + r1)) - Int.toNat start))))] w7 (fun ed3 w8 => (∃ r2 : Int, ∃ r3 : Value, r3.oneCell' = true ∧ ed3 = .returned (.tuple #[(.int .i64 r2), r3]) ∧ Calls Tryd.prog fn_strings_Builder_WriteString #[(.pointer (some (Addr.mk w3.heap.size 0 none))), (.string (S new))] w8 (fun ed4 w9 => (∃ r4 : Int, ∃ r5 : Value, r5.oneCell' = true ∧ ed4 = .returned (.tuple #[(.int .i64 r4), r5]) ∧ xI (IntKind.i64.wrap ((IntKind.i64.wrap (start + r1)) + (old.length : Int))) (IntKind.i64.wrap (x1 + (1 : Int))) w9 ∧ m (IntKind.i64.wrap ((IntKind.i64.wrap (start + r1)) + (old.length : Int))) (IntKind.i64.wrap (x1 + (1 : Int))) w9 < m start x1 w6) ∨ (∃ ch4, ed4 = .panicked ch4 ∧ R (.panicked ch4) w9))) ∨ (∃ ch3, ed3 = .panicked ch3 ∧ R (.panicked ch3) w8))) ∨ (∃ ch2, ed2 = .panicked ch2 ∧ R (.panicked ch2) w7))) (0 ≤ start ∧ start ≤ s.length ∧ Calls Tryd.prog fn_strings_Builder_WriteString #[(.pointer (some (Addr.mk w3.heap.size 0 none))), (.string (S (s.drop (Int.toNat start))))] w6 (fun ed5 w10 => (∃ r6 : Int, ∃ r7 : Value, r7.oneCell' = true ∧ ed5 = .returned (.tuple #[(.int .i64 r6), r7]) ∧ Calls Tryd.prog fn_strings_Builder_String #[(.pointer (some (Addr.mk w3.heap.size 0 none)))] w10 (fun ed6 w11 => (∃ r8 : List UInt8, ed6 = .returned (.string (S r8)) ∧ R (.returned (.string (S r8))) w11) ∨ (∃ ch6, ed6 = .panicked ch6 ∧ R (.panicked ch6) w11))) ∨ (∃ ch5, ed5 = .panicked ch5 ∧ R (.panicked ch5) w10)))) (Calls Tryd.prog fn_strings_Builder_WriteString #[(.pointer (some (Addr.mk w3.heap.size 0 none))), (.string (S new))] w5 (fun ed7 w12 => (∃ r9 : Int, ∃ r10 : Value, r10.oneCell' = true ∧ ed7 = .returned (.tuple #[(.int .i64 r9), r10]) ∧ ∃ (xI1 : Int → Int → World → Prop) (m1 : Int → Int → World → Nat), (xI1 (0 : Int) (0 : Int) w12) ∧ ∀ (start1 : Int) (x2 : Int) (_us4 : Nat → Value) (w13 : World), (xI1 start1 x2 w13) → bsel (decide (x2 < (IntKind.i64.wrap (n1 - (1 : Int))))) (0 ≤ start1 ∧ start1 ≤ s.length ∧ Calls Tryd.prog fn_unicode_utf8_DecodeRuneInString #[(.string (S (s.drop (Int.toNat start1))))] w13 (fun ed8 w14 => (∃ r11 : Int, ∃ r12 : Int, ed8 = .returned (.tuple #[(.int .i32 r11), (.int .i64 r12)]) ∧ 0 ≤ start1 ∧ start1 ≤ (IntKind.i64.wrap (start1 + r12)) ∧ (IntKind.i64.wrap (start1 + r12)) ≤ s.length ∧ Calls Tryd.prog fn_strings_Builder_WriteString #[(.pointer (some (Addr.mk w3.heap.size 0 none))), (.string (S ((s.drop (Int.toNat start1)).take (Int.toNat (IntKind.i64.wrap (start1 + r12)) - Int.toNat start1))))] w14 (fun ed9 w15 => (∃ r13 : Int, ∃ r14 : Value, r14.oneCell' = true ∧ ed9 = .returned (.tuple #[(.int .i64 r13), r14]) ∧ Calls Tryd.prog fn_strings_Builder_WriteString #[(.pointer (some (Addr.mk w3.heap.size 0 none))), (.string (S new))] w15 (fun ed10 w16 => (∃ r15 : Int, ∃ r16 : Value, r16.oneCell' = true ∧ ed10 = .returned (.tuple #[(.int .i64 r15), r16]) ∧ xI1 (IntKind.i64.wrap (start1 + r12)) (IntKind.i64.wrap (x2 + (1 : Int))) w16 ∧ m1 (IntKind.i64.wrap (start1 + r12)) (IntKind.i64.wrap (x2 + (1 : Int))) w16 < m1 start1 x2 w13) ∨ (∃ ch10, ed10 = .panicked ch10 ∧ R (.panicked ch10) w16))) ∨ (∃ ch9, ed9 = .panicked ch9 ∧ R (.panicked ch9) w15))) ∨ (∃ ch8, ed8 = .panicked ch8 ∧ R (.panicked ch8) w14))) (0 ≤ start1 ∧ start1 ≤ s.length ∧ Calls Tryd.prog fn_strings_Builder_WriteString #[(.pointer (some (Addr.mk w3.heap.size 0 none))), (.string (S (s.drop (Int.toNat start1))))] w13 (fun ed11 w17 => (∃ r17 : Int, ∃ r18 : Value, r18.oneCell' = true ∧ ed11 = .returned (.tuple #[(.int .i64 r17), r18]) ∧ Calls Tryd.prog fn_strings_Builder_String #[(.pointer (some (Addr.mk w3.heap.size 0 none)))] w17 (fun ed12 w18 => (∃ r19 : List UInt8, ed12 = .returned (.string (S r19)) ∧ R (.returned (.string (S r19))) w18) ∨ (∃ ch12, ed12 = .panicked ch12 ∧ R (.panicked ch12) w18))) ∨ (∃ ch11, ed11 = .panicked ch11 ∧ R (.panicked ch11) w17)))) ∨ (∃ ch7, ed7 = .panicked ch7 ∧ R (.panicked ch7) w12)))) ∨ (∃ ch1, ed1 = .panicked ch1 ∧ R (.panicked ch1) w5)))))
set_option maxRecDepth 100000 in
theorem strings_Replace_calls (s : List UInt8) (old : List UInt8) (new : List UInt8) (n : Int) (w : World) (R : Ending → World → Prop) (hvc : vc_strings_Replace s old new n w R) : Calls Tryd.prog fn_strings_Replace #[(.string (S s)), (.string (S old)), (.string (S new)), (.int .i64 n)] w R :=
  calls_vc { live := [(7, [(3, (.leaf (.int .i64)))]), (119, [(36, (.leaf .bool))]), (4074, [(11, (.leaf (.int .i64))), (53, (.leaf (.int .i64)))]), (8158, [(11, (.leaf (.int .i64))), (78, (.leaf (.int .i64)))])], draws := [] } Tryd.func34 rfl (Eq.mp (α := vc_strings_Replace s old new n w R) (by kernel_rfl) hvc)

end Go.Proofs.YtfhdhokhddplhaaDoor
