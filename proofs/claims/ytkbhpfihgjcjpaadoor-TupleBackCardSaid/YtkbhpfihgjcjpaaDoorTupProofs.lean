/- The three laws of tuples: whatever the input, each returns true, and its arguments read as they did; the listed variables as the program's text lays them. Conditions: none but the given rows' own. -/
import Derived.Test.YtkbhpfihgjcjpaaDoorCards
import Derived.Test.YtkbhpfihgjcjpaaDoorTie
import Derived.Test.YtkbhpfihgjcjpaaDoorRowL
import Derived.Lay
import Derived.Deep.DeepWitnessRowRef
import Derived.Test.YtkbhpfihgjcjpaaDoorTupLaw2
import Derived.Test.YtkbhpfihgjcjpaaDoorOpenStrs
import Derived.Test.YtkbhpfihgjcjpaaDoorEnvOpen
import Derived.Test.YtkbhpfihgjcjpaaDoorOpenK
namespace Go.Proofs.YtkbhpfihgjcjpaaDoor
open Go.ChangeShapes Go.WideShapes Go.ChangeAt Go.RowKit Vc

set_option maxRecDepth 100000 in
theorem tupleEncodes_met (os : Os) : laidMet Tryd.prog Rows.tupleEncodesRow.laid ((World.laidAll Tryd.prog os Rows.tupleEncodesRow.laid).forCall (fun _ _ => 0) ⟨#[], #[.slice none 0 0, .string ⟨#[]⟩], []⟩).memory :=
  laidMet_laidAll _ (by kernel_rfl) (by kernel_rfl)
theorem tupleEncodes_reads (os : Os) {H : Type} (enc : TypeId × Value → H) : ∃ places, DataW.whole enc Tryd.prog ((World.laidAll Tryd.prog os Rows.tupleEncodesRow.laid).forCall (fun _ _ => 0) ⟨#[], #[.slice none 0 0, .string ⟨#[]⟩], []⟩).memory Tryd.f3.params.toList Rows.tupleEncodesSpec.vars false (#[.slice none 0 0, .string ⟨#[]⟩] : Array Value).toList 8 = some ([.nil, .lit (.string [])], [], places) :=
  ⟨[], by kernel_rfl⟩
set_option maxRecDepth 100000 in
theorem tupleEncodes_lifted (os : Os) (started : os.Started) (H : Type) (enc : TypeId × Value → H) (F : Stop.Interp) :
    ReturnsInHanded {} Tryd.checked os 3 .any ((OpenSpec.ofChange Rows.tupleEncodesSpec).preRow enc Tryd.prog Tryd.f3 Rows.tupleEncodesRow.domain false Rows.tupleEncodesRow.laid) (((OpenSpec.ofChange Rows.tupleEncodesSpec).at F).post enc Tryd.prog Tryd.f3 false true false false) := by
  obtain ⟨places, hx⟩ := tupleEncodes_reads os enc
  refine law_lifted_laid (C := Tryd.checked) (s := Rows.tupleEncodesSpec) Tryd.own Tryd.laidOut started (by kernel_rfl) Tryd.func3 (by kernel_rfl) (tb := 4) (by kernel_rfl) Tryd.underlying4 rfl ?_
    (witness_row_atRef (enc := enc) (C := Tryd.checked) false (World.laidAll Tryd.prog os Rows.tupleEncodesRow.laid) #[.slice none 0 0, .string ⟨#[]⟩] (World.laidAll_os _ _ _) (by kernel_rfl) (by kernel_rfl) (by kernel_rfl)
      (OpenSpec.preRow_of_cond 8 hx (by kernel_rfl) (fun k hk => by cases hk) (by kernel_rfl) (tupleEncodes_met os))) ?_
  · intro ds hl
    rw [Tryd.params3] at hl
    match ds, hl with
    | [d0, d1], _ => rfl
  · intro W base args ds ps hval0 hA hz0 hL
    have hval : ∀ (j : Nat) t v, Tryd.f3.params[j]? = some t → args[j]? = some v → Value.okWide Tryd.prog W .any base t v := hval0
    have hA : DataW.TrodAll enc Tryd.prog W 0 (fun _ => true) true Tryd.f3.params.toList args.toList ds ps := hA
    have hz : ∀ (j : Nat) t d, Tryd.f3.params.toList[j]? = some t → ds[j]? = some d → Sized Tryd.prog t d := hz0
    clear hval0 hz0
    rw [Tryd.params3] at hA hval hz
    obtain ⟨v0, vs0, d0, ds0, p0, q0, hargs, rfl, rfl, h0, r0⟩ := trodAll_cons hA
    obtain ⟨v1, vs1, d1, ds1, p1, q1, rfl, rfl, rfl, h1, r1⟩ := trodAll_cons r0
    obtain ⟨rfl, rfl, rfl⟩ := trodAll_nil r1
    obtain rfl : args = #[v0, v1] := Array.ext' hargs
    rw [MakeChecks.laidMetH_plain _ _ _ (by kernel_rfl)] at hL
    have he := env_of (laidMet.tail (laidMet.tail hL))
    obtain ⟨p0, L0, C0, ls0, rfl, st0, bs0, lb0⟩ := open_strs (hval 0 _ v0 rfl rfl) h0 (hz 0 _ d0 rfl rfl)
    obtain ⟨x1, rfl, l1⟩ := open_strS Tryd.underlying9 (hval 1 _ v1 rfl rfl) h1 (hz 1 _ d1 rfl rfl)
    exact (TupleEncodes_spec he st0 bs0 lb0 x1).mono fun e W' h => ⟨h.1, h.2.toBelow⟩
theorem tupleEncodes_said : Rows.TupleEncodesSaid :=
  OpenClaim.holds_of_cond 3 Tryd.f3 rfl rfl rfl rfl rfl rfl rfl ⟨rfl, rfl, rfl, rfl, rfl⟩ rfl rfl rfl rfl rfl (by kernel_rfl) Tryd.func3 (by kernel_rfl)
    (of_decide_eq_true (by kernel_rfl)) (by unfold Func.isWrapper; rw [if_neg (of_decide_eq_false (by kernel_rfl))]; exact ⟨rfl, rfl⟩)
    (fun os started H enc _ F => by rw [OpenClaim.pre_eq_preRow]; exact tupleEncodes_lifted os started H enc F)
theorem tupleEncodes_plain (f : FuncId) (fn : Func) (hf : Tryd.pinned.checked.prog.funcNamed "scullion/scullionlaw02.TupleEncodes" = some f) (hfn : Tryd.pinned.checked.prog.funcs[f]? = some fn) :
    true = Tryd.pinned.checked.prog.looks [] ∧ ∀ (j : Nat) t, fn.params[j]? = some t → Tryd.pinned.checked.prog.wantsStandIn t = false := by
  obtain rfl : f = 3 := Option.some.inj ((show Tryd.prog.funcNamed "scullion/scullionlaw02.TupleEncodes" = some 3 by kernel_rfl).symm.trans hf) |>.symm
  obtain rfl : fn = Tryd.f3 := (Option.some.inj (Tryd.func3.symm.trans hfn)).symm
  refine ⟨by kernel_rfl, fun j t ht => ?_⟩
  have h : (Tryd.f3.params.toList.all fun t => !Tryd.prog.wantsStandIn t) = true := by kernel_rfl
  show Tryd.prog.wantsStandIn t = false
  simpa using List.all_eq_true.1 h t (Array.mem_toList_iff.2 (Array.mem_of_getElem? ht))
theorem tupleEncodes_holds : Rows.TupleEncodesCardSaid :=
  Claim7.holds_tied_plain_at .later [] _ _ _ _ tupleEncodes_said (fun _ h => by cases h) (by kernel_rfl) (fun _ h => by cases h) tupleEncodes_row_tie rfl ⟨rfl, rfl⟩ (by kernel_rfl) rfl tupleEncodes_plain (by kernel_rfl)

set_option maxRecDepth 100000 in
theorem tupleBack_met (os : Os) : laidMet Tryd.prog Rows.tupleBackRow.laid ((World.laidAll Tryd.prog os Rows.tupleBackRow.laid).forCall (fun _ _ => 0) ⟨#[], #[.slice none 0 0, .string ⟨#[]⟩], []⟩).memory :=
  laidMet_laidAll _ (by kernel_rfl) (by kernel_rfl)
theorem tupleBack_reads (os : Os) {H : Type} (enc : TypeId × Value → H) : ∃ places, DataW.whole enc Tryd.prog ((World.laidAll Tryd.prog os Rows.tupleBackRow.laid).forCall (fun _ _ => 0) ⟨#[], #[.slice none 0 0, .string ⟨#[]⟩], []⟩).memory Tryd.f4.params.toList Rows.tupleBackSpec.vars false (#[.slice none 0 0, .string ⟨#[]⟩] : Array Value).toList 8 = some ([.nil, .lit (.string [])], [], places) :=
  ⟨[], by kernel_rfl⟩
set_option maxRecDepth 100000 in
theorem tupleBack_lifted (os : Os) (started : os.Started) (H : Type) (enc : TypeId × Value → H) (F : Stop.Interp) :
    ReturnsInHanded {} Tryd.checked os 4 .any ((OpenSpec.ofChange Rows.tupleBackSpec).preRow enc Tryd.prog Tryd.f4 Rows.tupleBackRow.domain false Rows.tupleBackRow.laid) (((OpenSpec.ofChange Rows.tupleBackSpec).at F).post enc Tryd.prog Tryd.f4 false true false false) := by
  obtain ⟨places, hx⟩ := tupleBack_reads os enc
  refine law_lifted_laid (C := Tryd.checked) (s := Rows.tupleBackSpec) Tryd.own Tryd.laidOut started (by kernel_rfl) Tryd.func4 (by kernel_rfl) (tb := 4) (by kernel_rfl) Tryd.underlying4 rfl ?_
    (witness_row_atRef (enc := enc) (C := Tryd.checked) false (World.laidAll Tryd.prog os Rows.tupleBackRow.laid) #[.slice none 0 0, .string ⟨#[]⟩] (World.laidAll_os _ _ _) (by kernel_rfl) (by kernel_rfl) (by kernel_rfl)
      (OpenSpec.preRow_of_cond 8 hx (by kernel_rfl) (fun k hk => by cases hk) (by kernel_rfl) (tupleBack_met os))) ?_
  · intro ds hl
    rw [Tryd.params4] at hl
    match ds, hl with
    | [d0, d1], _ => rfl
  · intro W base args ds ps hval0 hA hz0 hL
    have hval : ∀ (j : Nat) t v, Tryd.f4.params[j]? = some t → args[j]? = some v → Value.okWide Tryd.prog W .any base t v := hval0
    have hA : DataW.TrodAll enc Tryd.prog W 0 (fun _ => true) true Tryd.f4.params.toList args.toList ds ps := hA
    have hz : ∀ (j : Nat) t d, Tryd.f4.params.toList[j]? = some t → ds[j]? = some d → Sized Tryd.prog t d := hz0
    clear hval0 hz0
    rw [Tryd.params4] at hA hval hz
    obtain ⟨v0, vs0, d0, ds0, p0, q0, hargs, rfl, rfl, h0, r0⟩ := trodAll_cons hA
    obtain ⟨v1, vs1, d1, ds1, p1, q1, rfl, rfl, rfl, h1, r1⟩ := trodAll_cons r0
    obtain ⟨rfl, rfl, rfl⟩ := trodAll_nil r1
    obtain rfl : args = #[v0, v1] := Array.ext' hargs
    rw [MakeChecks.laidMetH_plain _ _ _ (by kernel_rfl)] at hL
    have he := env_of (laidMet.tail (laidMet.tail hL))
    obtain ⟨p0, L0, C0, ls0, rfl, st0, bs0, lb0⟩ := open_strs (hval 0 _ v0 rfl rfl) h0 (hz 0 _ d0 rfl rfl)
    obtain ⟨x1, rfl, l1⟩ := open_strS Tryd.underlying9 (hval 1 _ v1 rfl rfl) h1 (hz 1 _ d1 rfl rfl)
    exact (TupleBack_spec he st0 bs0 lb0 x1).mono fun e W' h => ⟨h.1, h.2.toBelow⟩
theorem tupleBack_said : Rows.TupleBackSaid :=
  OpenClaim.holds_of_cond 4 Tryd.f4 rfl rfl rfl rfl rfl rfl rfl ⟨rfl, rfl, rfl, rfl, rfl⟩ rfl rfl rfl rfl rfl (by kernel_rfl) Tryd.func4 (by kernel_rfl)
    (of_decide_eq_true (by kernel_rfl)) (by unfold Func.isWrapper; rw [if_neg (of_decide_eq_false (by kernel_rfl))]; exact ⟨rfl, rfl⟩)
    (fun os started H enc _ F => by rw [OpenClaim.pre_eq_preRow]; exact tupleBack_lifted os started H enc F)
theorem tupleBack_plain (f : FuncId) (fn : Func) (hf : Tryd.pinned.checked.prog.funcNamed "scullion/scullionlaw02.TupleBack" = some f) (hfn : Tryd.pinned.checked.prog.funcs[f]? = some fn) :
    true = Tryd.pinned.checked.prog.looks [] ∧ ∀ (j : Nat) t, fn.params[j]? = some t → Tryd.pinned.checked.prog.wantsStandIn t = false := by
  obtain rfl : f = 4 := Option.some.inj ((show Tryd.prog.funcNamed "scullion/scullionlaw02.TupleBack" = some 4 by kernel_rfl).symm.trans hf) |>.symm
  obtain rfl : fn = Tryd.f4 := (Option.some.inj (Tryd.func4.symm.trans hfn)).symm
  refine ⟨by kernel_rfl, fun j t ht => ?_⟩
  have h : (Tryd.f4.params.toList.all fun t => !Tryd.prog.wantsStandIn t) = true := by kernel_rfl
  show Tryd.prog.wantsStandIn t = false
  simpa using List.all_eq_true.1 h t (Array.mem_toList_iff.2 (Array.mem_of_getElem? ht))
theorem tupleBack_holds : Rows.TupleBackCardSaid :=
  Claim7.holds_tied_plain_at .later [] _ _ _ _ tupleBack_said (fun _ h => by cases h) (by kernel_rfl) (fun _ h => by cases h) tupleBack_row_tie rfl ⟨rfl, rfl⟩ (by kernel_rfl) rfl tupleBack_plain (by kernel_rfl)

set_option maxRecDepth 100000 in
theorem tupleTwo_met (os : Os) : laidMet Tryd.prog Rows.tupleTwoRow.laid ((World.laidAll Tryd.prog os Rows.tupleTwoRow.laid).forCall (fun _ _ => 0) ⟨#[], #[.slice none 0 0, .slice none 0 0], []⟩).memory :=
  laidMet_laidAll _ (by kernel_rfl) (by kernel_rfl)
theorem tupleTwo_reads (os : Os) {H : Type} (enc : TypeId × Value → H) : ∃ places, DataW.whole enc Tryd.prog ((World.laidAll Tryd.prog os Rows.tupleTwoRow.laid).forCall (fun _ _ => 0) ⟨#[], #[.slice none 0 0, .slice none 0 0], []⟩).memory Tryd.f5.params.toList Rows.tupleTwoSpec.vars false (#[.slice none 0 0, .slice none 0 0] : Array Value).toList 8 = some ([.nil, .nil], [], places) :=
  ⟨[], by kernel_rfl⟩
set_option maxRecDepth 100000 in
theorem tupleTwo_lifted (os : Os) (started : os.Started) (H : Type) (enc : TypeId × Value → H) (F : Stop.Interp) :
    ReturnsInHanded {} Tryd.checked os 5 .any ((OpenSpec.ofChange Rows.tupleTwoSpec).preRow enc Tryd.prog Tryd.f5 Rows.tupleTwoRow.domain false Rows.tupleTwoRow.laid) (((OpenSpec.ofChange Rows.tupleTwoSpec).at F).post enc Tryd.prog Tryd.f5 false true false false) := by
  obtain ⟨places, hx⟩ := tupleTwo_reads os enc
  refine law_lifted_laid (C := Tryd.checked) (s := Rows.tupleTwoSpec) Tryd.own Tryd.laidOut started (by kernel_rfl) Tryd.func5 (by kernel_rfl) (tb := 4) (by kernel_rfl) Tryd.underlying4 rfl ?_
    (witness_row_atRef (enc := enc) (C := Tryd.checked) false (World.laidAll Tryd.prog os Rows.tupleTwoRow.laid) #[.slice none 0 0, .slice none 0 0] (World.laidAll_os _ _ _) (by kernel_rfl) (by kernel_rfl) (by kernel_rfl)
      (OpenSpec.preRow_of_cond 8 hx (by kernel_rfl) (fun k hk => by cases hk) (by kernel_rfl) (tupleTwo_met os))) ?_
  · intro ds hl
    rw [Tryd.params5] at hl
    match ds, hl with
    | [d0, d1], _ => rfl
  · intro W base args ds ps hval0 hA hz0 hL
    have hval : ∀ (j : Nat) t v, Tryd.f5.params[j]? = some t → args[j]? = some v → Value.okWide Tryd.prog W .any base t v := hval0
    have hA : DataW.TrodAll enc Tryd.prog W 0 (fun _ => true) true Tryd.f5.params.toList args.toList ds ps := hA
    have hz : ∀ (j : Nat) t d, Tryd.f5.params.toList[j]? = some t → ds[j]? = some d → Sized Tryd.prog t d := hz0
    clear hval0 hz0
    rw [Tryd.params5] at hA hval hz
    obtain ⟨v0, vs0, d0, ds0, p0, q0, hargs, rfl, rfl, h0, r0⟩ := trodAll_cons hA
    obtain ⟨v1, vs1, d1, ds1, p1, q1, rfl, rfl, rfl, h1, r1⟩ := trodAll_cons r0
    obtain ⟨rfl, rfl, rfl⟩ := trodAll_nil r1
    obtain rfl : args = #[v0, v1] := Array.ext' hargs
    rw [MakeChecks.laidMetH_plain _ _ _ (by kernel_rfl)] at hL
    have he := env_of (laidMet.tail (laidMet.tail hL))
    obtain ⟨p0, L0, C0, ls0, rfl, st0, bs0, lb0⟩ := open_strs (hval 0 _ v0 rfl rfl) h0 (hz 0 _ d0 rfl rfl)
    obtain ⟨p1, L1, C1, ls1, rfl, st1, bs1, lb1⟩ := open_strs (hval 1 _ v1 rfl rfl) h1 (hz 1 _ d1 rfl rfl)
    exact (TupleTwo_spec he st0 bs0 lb0 st1 bs1 lb1).mono fun e W' h => ⟨h.1, h.2.toBelow⟩
theorem tupleTwo_said : Rows.TupleTwoSaid :=
  OpenClaim.holds_of_cond 5 Tryd.f5 rfl rfl rfl rfl rfl rfl rfl ⟨rfl, rfl, rfl, rfl, rfl⟩ rfl rfl rfl rfl rfl (by kernel_rfl) Tryd.func5 (by kernel_rfl)
    (of_decide_eq_true (by kernel_rfl)) (by unfold Func.isWrapper; rw [if_neg (of_decide_eq_false (by kernel_rfl))]; exact ⟨rfl, rfl⟩)
    (fun os started H enc _ F => by rw [OpenClaim.pre_eq_preRow]; exact tupleTwo_lifted os started H enc F)
theorem tupleTwo_plain (f : FuncId) (fn : Func) (hf : Tryd.pinned.checked.prog.funcNamed "scullion/scullionlaw02.TupleTwo" = some f) (hfn : Tryd.pinned.checked.prog.funcs[f]? = some fn) :
    true = Tryd.pinned.checked.prog.looks [] ∧ ∀ (j : Nat) t, fn.params[j]? = some t → Tryd.pinned.checked.prog.wantsStandIn t = false := by
  obtain rfl : f = 5 := Option.some.inj ((show Tryd.prog.funcNamed "scullion/scullionlaw02.TupleTwo" = some 5 by kernel_rfl).symm.trans hf) |>.symm
  obtain rfl : fn = Tryd.f5 := (Option.some.inj (Tryd.func5.symm.trans hfn)).symm
  refine ⟨by kernel_rfl, fun j t ht => ?_⟩
  have h : (Tryd.f5.params.toList.all fun t => !Tryd.prog.wantsStandIn t) = true := by kernel_rfl
  show Tryd.prog.wantsStandIn t = false
  simpa using List.all_eq_true.1 h t (Array.mem_toList_iff.2 (Array.mem_of_getElem? ht))
theorem tupleTwo_holds : Rows.TupleTwoCardSaid :=
  Claim7.holds_tied_plain_at .later [] _ _ _ _ tupleTwo_said (fun _ h => by cases h) (by kernel_rfl) (fun _ h => by cases h) tupleTwo_row_tie rfl ⟨rfl, rfl⟩ (by kernel_rfl) rfl tupleTwo_plain (by kernel_rfl)

end Go.Proofs.YtkbhpfihgjcjpaaDoor
