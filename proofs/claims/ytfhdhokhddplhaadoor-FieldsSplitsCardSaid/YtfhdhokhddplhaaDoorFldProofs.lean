/- The four laws of fields: whatever the input, each returns true, and its arguments read as they did; the listed variables as the program's text lays them. Conditions: none but the given rows' own. -/
import Derived.Test.YtfhdhokhddplhaaDoorCards
import Derived.Test.YtfhdhokhddplhaaDoorTie
import Derived.Test.YtfhdhokhddplhaaDoorRowL
import Derived.Test.YtfhdhokhddplhaaDoorFldOpen
namespace Go.Proofs.YtfhdhokhddplhaaDoor
open Go.ChangeShapes Go.WideShapes Go.ChangeAt Go.RowKit Vc

/-- A world that holds the listed variables. -/
noncomputable def laidWorld (os : Os) : World := { World.holding Tryd.prog os ⟨#[], #[], []⟩ with heap := (((World.holding Tryd.prog os ⟨#[], #[], []⟩).heap.modify 1 (putObj (flatD Rows.laid_unicode_utf8_first))).modify 2 (putObj (flatD Rows.laid_unicode_utf8_acceptRanges))) }

set_option maxRecDepth 100000 in
theorem fieldsSmall_met (os : Os) : laidMet Tryd.prog Rows.fieldsSmallRow.laid ((laidWorld os).forCall (fun _ _ => 0) ⟨#[], #[.slice none 0 0, .int .u8 0], []⟩).memory :=
  laidMet_of_run' 8 (by kernel_rfl) (by kernel_rfl)
theorem fieldsSmall_reads (os : Os) {H : Type} (enc : TypeId × Value → H) : ∃ places, DataW.whole enc Tryd.prog ((laidWorld os).forCall (fun _ _ => 0) ⟨#[], #[.slice none 0 0, .int .u8 0], []⟩).memory Tryd.f3.params.toList Rows.fieldsSmallSpec.vars false (#[.slice none 0 0, .int .u8 0] : Array Value).toList 8 = some ([.nil, .lit (.int .u8 0)], [], places) :=
  ⟨[], by kernel_rfl⟩
set_option maxRecDepth 100000 in
theorem fieldsSmall_lifted (os : Os) (started : os.Started) (H : Type) (enc : TypeId × Value → H) (F : Stop.Interp) :
    ReturnsInHanded {} Tryd.checked os 3 .any ((OpenSpec.ofChange Rows.fieldsSmallSpec).preRow enc Tryd.prog Tryd.f3 Rows.fieldsSmallRow.domain false Rows.fieldsSmallRow.laid) (((OpenSpec.ofChange Rows.fieldsSmallSpec).at F).post enc Tryd.prog Tryd.f3 false true false false) := by
  obtain ⟨places, hx⟩ := fieldsSmall_reads os enc
  refine law_lifted_laid (C := Tryd.checked) (s := Rows.fieldsSmallSpec) Tryd.own Tryd.laidOut started (by kernel_rfl) Tryd.func3 (by kernel_rfl) (tb := 4) (by kernel_rfl) Tryd.underlying4 rfl ?_
    (witness_row_at (enc := enc) (C := Tryd.checked) false (laidWorld os) #[.slice none 0 0, .int .u8 0] rfl (by kernel_rfl) (by kernel_rfl) (by kernel_rfl)
      (OpenSpec.preRow_of_cond 8 hx (by kernel_rfl) (fun k hk => by cases hk) (by kernel_rfl) (fieldsSmall_met os))) ?_
  · intro ds hl
    rw [Tryd.params3] at hl
    match ds, hl with
    | [d0, d1], _ => rfl
  · intro W base args ds ps hval0 hA hz0 hL
    have hval : ∀ (j : Nat) t v, Tryd.f3.params[j]? = some t → args[j]? = some v → Value.okWide Tryd.prog W .any base t v := hval0
    have hA : DataW.TrodAll enc Tryd.prog W 0 (fun _ => true) true Tryd.f3.params.toList args.toList ds ps := hA
    have hz : ∀ (j : Nat) t d, Tryd.f3.params.toList[j]? = some t → ds[j]? = some d → Sized Tryd.prog t d := hz0
    clear hval0 hz0
    rw [Tryd.params3] at hA hval hz
    obtain ⟨v0, vs0, d0, ds0, p0, q0, hargs, rfl, rfl, h0, r0⟩ := trodAll_cons hA
    obtain ⟨v1, vs1, d1, ds1, p1, q1, rfl, rfl, rfl, h1, r1⟩ := trodAll_cons r0
    obtain ⟨rfl, rfl, rfl⟩ := trodAll_nil r1
    obtain rfl : args = #[v0, v1] := Array.ext' hargs
    obtain ⟨p0, L0, C0, rfl, u0⟩ := open_bits (hval 0 _ v0 rfl rfl) h0 (hz 0 _ d0 rfl rfl)
    obtain ⟨x1, rfl, _, _, w1⟩ := open_int Tryd.underlying5 (hval 1 _ v1 rfl rfl) h1
    exact (FieldsSmall_spec p0 L0 C0 u0 x1 (wf_u8 w1).1 (wf_u8 w1).2).mono fun e W' h => ⟨h.1, h.2.toBelow⟩
theorem fieldsSmall_said : Rows.FieldsSmallSaid :=
  OpenClaim.holds_of_cond 3 Tryd.f3 rfl rfl rfl rfl rfl rfl rfl ⟨rfl, rfl, rfl, rfl, rfl⟩ rfl rfl rfl rfl rfl (by kernel_rfl) Tryd.func3 (by kernel_rfl)
    (of_decide_eq_true (by kernel_rfl)) (by unfold Func.isWrapper; rw [if_neg (of_decide_eq_false (by kernel_rfl))]; exact ⟨rfl, rfl⟩)
    (fun os started H enc _ F => by rw [OpenClaim.pre_eq_preRow]; exact fieldsSmall_lifted os started H enc F)
theorem fieldsSmall_plain (f : FuncId) (fn : Func) (hf : Tryd.pinned.checked.prog.funcNamed "scullion/scullionlaw14.FieldsSmall" = some f) (hfn : Tryd.pinned.checked.prog.funcs[f]? = some fn) :
    false = Tryd.pinned.checked.prog.looks [] ∧ ∀ (j : Nat) t, fn.params[j]? = some t → Tryd.pinned.checked.prog.wantsStandIn t = false := by
  obtain rfl : f = 3 := Option.some.inj ((show Tryd.prog.funcNamed "scullion/scullionlaw14.FieldsSmall" = some 3 by kernel_rfl).symm.trans hf) |>.symm
  obtain rfl : fn = Tryd.f3 := (Option.some.inj (Tryd.func3.symm.trans hfn)).symm
  refine ⟨by kernel_rfl, fun j t ht => ?_⟩
  have h : (Tryd.f3.params.toList.all fun t => !Tryd.prog.wantsStandIn t) = true := by kernel_rfl
  show Tryd.prog.wantsStandIn t = false
  simpa using List.all_eq_true.1 h t (Array.mem_toList_iff.2 (Array.mem_of_getElem? ht))
theorem fieldsSmall_holds : Rows.FieldsSmallCardSaid :=
  Claim7.holds_tied_plain_at .later [] _ _ _ _ fieldsSmall_said (fun _ h => by cases h) (by kernel_rfl) (fun _ h => by cases h) fieldsSmall_row_tie rfl ⟨rfl, rfl⟩ (by kernel_rfl) rfl fieldsSmall_plain (by kernel_rfl)

set_option maxRecDepth 100000 in
theorem fieldsWhole_met (os : Os) : laidMet Tryd.prog Rows.fieldsWholeRow.laid ((laidWorld os).forCall (fun _ _ => 0) ⟨#[], #[.slice none 0 0], []⟩).memory :=
  laidMet_of_run' 8 (by kernel_rfl) (by kernel_rfl)
theorem fieldsWhole_reads (os : Os) {H : Type} (enc : TypeId × Value → H) : ∃ places, DataW.whole enc Tryd.prog ((laidWorld os).forCall (fun _ _ => 0) ⟨#[], #[.slice none 0 0], []⟩).memory Tryd.f4.params.toList Rows.fieldsWholeSpec.vars false (#[.slice none 0 0] : Array Value).toList 8 = some ([.nil], [], places) :=
  ⟨[], by kernel_rfl⟩
set_option maxRecDepth 100000 in
theorem fieldsWhole_lifted (os : Os) (started : os.Started) (H : Type) (enc : TypeId × Value → H) (F : Stop.Interp) :
    ReturnsInHanded {} Tryd.checked os 4 .any ((OpenSpec.ofChange Rows.fieldsWholeSpec).preRow enc Tryd.prog Tryd.f4 Rows.fieldsWholeRow.domain false Rows.fieldsWholeRow.laid) (((OpenSpec.ofChange Rows.fieldsWholeSpec).at F).post enc Tryd.prog Tryd.f4 false true false false) := by
  obtain ⟨places, hx⟩ := fieldsWhole_reads os enc
  refine law_lifted_laid (C := Tryd.checked) (s := Rows.fieldsWholeSpec) Tryd.own Tryd.laidOut started (by kernel_rfl) Tryd.func4 (by kernel_rfl) (tb := 4) (by kernel_rfl) Tryd.underlying4 rfl ?_
    (witness_row_at (enc := enc) (C := Tryd.checked) false (laidWorld os) #[.slice none 0 0] rfl (by kernel_rfl) (by kernel_rfl) (by kernel_rfl)
      (OpenSpec.preRow_of_cond 8 hx (by kernel_rfl) (fun k hk => by cases hk) (by kernel_rfl) (fieldsWhole_met os))) ?_
  · intro ds hl
    rw [Tryd.params4] at hl
    match ds, hl with
    | [d0], _ => rfl
  · intro W base args ds ps hval0 hA hz0 hL
    have hval : ∀ (j : Nat) t v, Tryd.f4.params[j]? = some t → args[j]? = some v → Value.okWide Tryd.prog W .any base t v := hval0
    have hA : DataW.TrodAll enc Tryd.prog W 0 (fun _ => true) true Tryd.f4.params.toList args.toList ds ps := hA
    have hz : ∀ (j : Nat) t d, Tryd.f4.params.toList[j]? = some t → ds[j]? = some d → Sized Tryd.prog t d := hz0
    clear hval0 hz0
    rw [Tryd.params4] at hA hval hz
    obtain ⟨v0, vs0, d0, ds0, p0, q0, hargs, rfl, rfl, h0, r0⟩ := trodAll_cons hA
    obtain ⟨rfl, rfl, rfl⟩ := trodAll_nil r0
    obtain rfl : args = #[v0] := Array.ext' hargs
    obtain ⟨p0, L0, C0, rfl, u0⟩ := open_bits (hval 0 _ v0 rfl rfl) h0 (hz 0 _ d0 rfl rfl)
    exact (FieldsWhole_spec p0 L0 C0 u0).mono fun e W' h => ⟨h.1, h.2.toBelow⟩
theorem fieldsWhole_said : Rows.FieldsWholeSaid :=
  OpenClaim.holds_of_cond 4 Tryd.f4 rfl rfl rfl rfl rfl rfl rfl ⟨rfl, rfl, rfl, rfl, rfl⟩ rfl rfl rfl rfl rfl (by kernel_rfl) Tryd.func4 (by kernel_rfl)
    (of_decide_eq_true (by kernel_rfl)) (by unfold Func.isWrapper; rw [if_neg (of_decide_eq_false (by kernel_rfl))]; exact ⟨rfl, rfl⟩)
    (fun os started H enc _ F => by rw [OpenClaim.pre_eq_preRow]; exact fieldsWhole_lifted os started H enc F)
theorem fieldsWhole_plain (f : FuncId) (fn : Func) (hf : Tryd.pinned.checked.prog.funcNamed "scullion/scullionlaw14.FieldsWhole" = some f) (hfn : Tryd.pinned.checked.prog.funcs[f]? = some fn) :
    false = Tryd.pinned.checked.prog.looks [] ∧ ∀ (j : Nat) t, fn.params[j]? = some t → Tryd.pinned.checked.prog.wantsStandIn t = false := by
  obtain rfl : f = 4 := Option.some.inj ((show Tryd.prog.funcNamed "scullion/scullionlaw14.FieldsWhole" = some 4 by kernel_rfl).symm.trans hf) |>.symm
  obtain rfl : fn = Tryd.f4 := (Option.some.inj (Tryd.func4.symm.trans hfn)).symm
  refine ⟨by kernel_rfl, fun j t ht => ?_⟩
  have h : (Tryd.f4.params.toList.all fun t => !Tryd.prog.wantsStandIn t) = true := by kernel_rfl
  show Tryd.prog.wantsStandIn t = false
  simpa using List.all_eq_true.1 h t (Array.mem_toList_iff.2 (Array.mem_of_getElem? ht))
theorem fieldsWhole_holds : Rows.FieldsWholeCardSaid :=
  Claim7.holds_tied_plain_at .later [] _ _ _ _ fieldsWhole_said (fun _ h => by cases h) (by kernel_rfl) (fun _ h => by cases h) fieldsWhole_row_tie rfl ⟨rfl, rfl⟩ (by kernel_rfl) rfl fieldsWhole_plain (by kernel_rfl)

set_option maxRecDepth 100000 in
theorem fieldsBlanks_met (os : Os) : laidMet Tryd.prog Rows.fieldsBlanksRow.laid ((laidWorld os).forCall (fun _ _ => 0) ⟨#[], #[.string ⟨#[]⟩, .string ⟨#[]⟩], []⟩).memory :=
  laidMet_of_run' 8 (by kernel_rfl) (by kernel_rfl)
theorem fieldsBlanks_reads (os : Os) {H : Type} (enc : TypeId × Value → H) : ∃ places, DataW.whole enc Tryd.prog ((laidWorld os).forCall (fun _ _ => 0) ⟨#[], #[.string ⟨#[]⟩, .string ⟨#[]⟩], []⟩).memory Tryd.f5.params.toList Rows.fieldsBlanksSpec.vars false (#[.string ⟨#[]⟩, .string ⟨#[]⟩] : Array Value).toList 8 = some ([.lit (.string []), .lit (.string [])], [], places) :=
  ⟨[], by kernel_rfl⟩
set_option maxRecDepth 100000 in
theorem fieldsBlanks_lifted (os : Os) (started : os.Started) (H : Type) (enc : TypeId × Value → H) (F : Stop.Interp) :
    ReturnsInHanded {} Tryd.checked os 5 .any ((OpenSpec.ofChange Rows.fieldsBlanksSpec).preRow enc Tryd.prog Tryd.f5 Rows.fieldsBlanksRow.domain false Rows.fieldsBlanksRow.laid) (((OpenSpec.ofChange Rows.fieldsBlanksSpec).at F).post enc Tryd.prog Tryd.f5 false true false false) := by
  obtain ⟨places, hx⟩ := fieldsBlanks_reads os enc
  refine law_lifted_laid (C := Tryd.checked) (s := Rows.fieldsBlanksSpec) Tryd.own Tryd.laidOut started (by kernel_rfl) Tryd.func5 (by kernel_rfl) (tb := 4) (by kernel_rfl) Tryd.underlying4 rfl ?_
    (witness_row_at (enc := enc) (C := Tryd.checked) false (laidWorld os) #[.string ⟨#[]⟩, .string ⟨#[]⟩] rfl (by kernel_rfl) (by kernel_rfl) (by kernel_rfl)
      (OpenSpec.preRow_of_cond 8 hx (by kernel_rfl) (fun k hk => by cases hk) (by kernel_rfl) (fieldsBlanks_met os))) ?_
  · intro ds hl
    rw [Tryd.params5] at hl
    match ds, hl with
    | [d0, d1], _ => rfl
  · intro W base args ds ps hval0 hA hz0 hL
    have hval : ∀ (j : Nat) t v, Tryd.f5.params[j]? = some t → args[j]? = some v → Value.okWide Tryd.prog W .any base t v := hval0
    have hA : DataW.TrodAll enc Tryd.prog W 0 (fun _ => true) true Tryd.f5.params.toList args.toList ds ps := hA
    have hz : ∀ (j : Nat) t d, Tryd.f5.params.toList[j]? = some t → ds[j]? = some d → Sized Tryd.prog t d := hz0
    clear hval0 hz0
    rw [Tryd.params5] at hA hval hz
    obtain ⟨v0, vs0, d0, ds0, p0, q0, hargs, rfl, rfl, h0, r0⟩ := trodAll_cons hA
    obtain ⟨v1, vs1, d1, ds1, p1, q1, rfl, rfl, rfl, h1, r1⟩ := trodAll_cons r0
    obtain ⟨rfl, rfl, rfl⟩ := trodAll_nil r1
    obtain rfl : args = #[v0, v1] := Array.ext' hargs
    obtain ⟨x0, rfl, l0⟩ := open_strS Tryd.underlying9 (hval 0 _ v0 rfl rfl) h0 (hz 0 _ d0 rfl rfl)
    obtain ⟨x1, rfl, l1⟩ := open_strS Tryd.underlying9 (hval 1 _ v1 rfl rfl) h1 (hz 1 _ d1 rfl rfl)
    exact (FieldsBlanks_spec x0 l0 x1 l1).mono fun e W' h => ⟨h.1, h.2.toBelow⟩
theorem fieldsBlanks_said : Rows.FieldsBlanksSaid :=
  OpenClaim.holds_of_cond 5 Tryd.f5 rfl rfl rfl rfl rfl rfl rfl ⟨rfl, rfl, rfl, rfl, rfl⟩ rfl rfl rfl rfl rfl (by kernel_rfl) Tryd.func5 (by kernel_rfl)
    (of_decide_eq_true (by kernel_rfl)) (by unfold Func.isWrapper; rw [if_neg (of_decide_eq_false (by kernel_rfl))]; exact ⟨rfl, rfl⟩)
    (fun os started H enc _ F => by rw [OpenClaim.pre_eq_preRow]; exact fieldsBlanks_lifted os started H enc F)
theorem fieldsBlanks_plain (f : FuncId) (fn : Func) (hf : Tryd.pinned.checked.prog.funcNamed "scullion/scullionlaw14.FieldsBlanks" = some f) (hfn : Tryd.pinned.checked.prog.funcs[f]? = some fn) :
    false = Tryd.pinned.checked.prog.looks [] ∧ ∀ (j : Nat) t, fn.params[j]? = some t → Tryd.pinned.checked.prog.wantsStandIn t = false := by
  obtain rfl : f = 5 := Option.some.inj ((show Tryd.prog.funcNamed "scullion/scullionlaw14.FieldsBlanks" = some 5 by kernel_rfl).symm.trans hf) |>.symm
  obtain rfl : fn = Tryd.f5 := (Option.some.inj (Tryd.func5.symm.trans hfn)).symm
  refine ⟨by kernel_rfl, fun j t ht => ?_⟩
  have h : (Tryd.f5.params.toList.all fun t => !Tryd.prog.wantsStandIn t) = true := by kernel_rfl
  show Tryd.prog.wantsStandIn t = false
  simpa using List.all_eq_true.1 h t (Array.mem_toList_iff.2 (Array.mem_of_getElem? ht))
theorem fieldsBlanks_holds : Rows.FieldsBlanksCardSaid :=
  Claim7.holds_tied_plain_at .later [] _ _ _ _ fieldsBlanks_said (fun _ h => by cases h) (by kernel_rfl) (fun _ h => by cases h) fieldsBlanks_row_tie rfl ⟨rfl, rfl⟩ (by kernel_rfl) rfl fieldsBlanks_plain (by kernel_rfl)

set_option maxRecDepth 100000 in
theorem fieldsSplits_met (os : Os) : laidMet Tryd.prog Rows.fieldsSplitsRow.laid ((laidWorld os).forCall (fun _ _ => 0) ⟨#[], #[.string ⟨#[]⟩, .string ⟨#[]⟩, .string ⟨#[]⟩], []⟩).memory :=
  laidMet_of_run' 8 (by kernel_rfl) (by kernel_rfl)
theorem fieldsSplits_reads (os : Os) {H : Type} (enc : TypeId × Value → H) : ∃ places, DataW.whole enc Tryd.prog ((laidWorld os).forCall (fun _ _ => 0) ⟨#[], #[.string ⟨#[]⟩, .string ⟨#[]⟩, .string ⟨#[]⟩], []⟩).memory Tryd.f6.params.toList Rows.fieldsSplitsSpec.vars false (#[.string ⟨#[]⟩, .string ⟨#[]⟩, .string ⟨#[]⟩] : Array Value).toList 8 = some ([.lit (.string []), .lit (.string []), .lit (.string [])], [], places) :=
  ⟨[], by kernel_rfl⟩
set_option maxRecDepth 100000 in
theorem fieldsSplits_lifted (os : Os) (started : os.Started) (H : Type) (enc : TypeId × Value → H) (F : Stop.Interp) :
    ReturnsInHanded {} Tryd.checked os 6 .any ((OpenSpec.ofChange Rows.fieldsSplitsSpec).preRow enc Tryd.prog Tryd.f6 Rows.fieldsSplitsRow.domain false Rows.fieldsSplitsRow.laid) (((OpenSpec.ofChange Rows.fieldsSplitsSpec).at F).post enc Tryd.prog Tryd.f6 false true false false) := by
  obtain ⟨places, hx⟩ := fieldsSplits_reads os enc
  refine law_lifted_laid (C := Tryd.checked) (s := Rows.fieldsSplitsSpec) Tryd.own Tryd.laidOut started (by kernel_rfl) Tryd.func6 (by kernel_rfl) (tb := 4) (by kernel_rfl) Tryd.underlying4 rfl ?_
    (witness_row_at (enc := enc) (C := Tryd.checked) false (laidWorld os) #[.string ⟨#[]⟩, .string ⟨#[]⟩, .string ⟨#[]⟩] rfl (by kernel_rfl) (by kernel_rfl) (by kernel_rfl)
      (OpenSpec.preRow_of_cond 8 hx (by kernel_rfl) (fun k hk => by cases hk) (by kernel_rfl) (fieldsSplits_met os))) ?_
  · intro ds hl
    rw [Tryd.params6] at hl
    match ds, hl with
    | [d0, d1, d2], _ => rfl
  · intro W base args ds ps hval0 hA hz0 hL
    have hval : ∀ (j : Nat) t v, Tryd.f6.params[j]? = some t → args[j]? = some v → Value.okWide Tryd.prog W .any base t v := hval0
    have hA : DataW.TrodAll enc Tryd.prog W 0 (fun _ => true) true Tryd.f6.params.toList args.toList ds ps := hA
    have hz : ∀ (j : Nat) t d, Tryd.f6.params.toList[j]? = some t → ds[j]? = some d → Sized Tryd.prog t d := hz0
    clear hval0 hz0
    rw [Tryd.params6] at hA hval hz
    obtain ⟨v0, vs0, d0, ds0, p0, q0, hargs, rfl, rfl, h0, r0⟩ := trodAll_cons hA
    obtain ⟨v1, vs1, d1, ds1, p1, q1, rfl, rfl, rfl, h1, r1⟩ := trodAll_cons r0
    obtain ⟨v2, vs2, d2, ds2, p2, q2, rfl, rfl, rfl, h2, r2⟩ := trodAll_cons r1
    obtain ⟨rfl, rfl, rfl⟩ := trodAll_nil r2
    obtain rfl : args = #[v0, v1, v2] := Array.ext' hargs
    obtain ⟨x0, rfl, l0⟩ := open_strS Tryd.underlying9 (hval 0 _ v0 rfl rfl) h0 (hz 0 _ d0 rfl rfl)
    obtain ⟨x1, rfl, l1⟩ := open_strS Tryd.underlying9 (hval 1 _ v1 rfl rfl) h1 (hz 1 _ d1 rfl rfl)
    obtain ⟨x2, rfl, l2⟩ := open_strS Tryd.underlying9 (hval 2 _ v2 rfl rfl) h2 (hz 2 _ d2 rfl rfl)
    exact (FieldsSplits_spec x0 l0 x1 l1 x2 l2).mono fun e W' h => ⟨h.1, h.2.toBelow⟩
theorem fieldsSplits_said : Rows.FieldsSplitsSaid :=
  OpenClaim.holds_of_cond 6 Tryd.f6 rfl rfl rfl rfl rfl rfl rfl ⟨rfl, rfl, rfl, rfl, rfl⟩ rfl rfl rfl rfl rfl (by kernel_rfl) Tryd.func6 (by kernel_rfl)
    (of_decide_eq_true (by kernel_rfl)) (by unfold Func.isWrapper; rw [if_neg (of_decide_eq_false (by kernel_rfl))]; exact ⟨rfl, rfl⟩)
    (fun os started H enc _ F => by rw [OpenClaim.pre_eq_preRow]; exact fieldsSplits_lifted os started H enc F)
theorem fieldsSplits_plain (f : FuncId) (fn : Func) (hf : Tryd.pinned.checked.prog.funcNamed "scullion/scullionlaw14.FieldsSplits" = some f) (hfn : Tryd.pinned.checked.prog.funcs[f]? = some fn) :
    false = Tryd.pinned.checked.prog.looks [] ∧ ∀ (j : Nat) t, fn.params[j]? = some t → Tryd.pinned.checked.prog.wantsStandIn t = false := by
  obtain rfl : f = 6 := Option.some.inj ((show Tryd.prog.funcNamed "scullion/scullionlaw14.FieldsSplits" = some 6 by kernel_rfl).symm.trans hf) |>.symm
  obtain rfl : fn = Tryd.f6 := (Option.some.inj (Tryd.func6.symm.trans hfn)).symm
  refine ⟨by kernel_rfl, fun j t ht => ?_⟩
  have h : (Tryd.f6.params.toList.all fun t => !Tryd.prog.wantsStandIn t) = true := by kernel_rfl
  show Tryd.prog.wantsStandIn t = false
  simpa using List.all_eq_true.1 h t (Array.mem_toList_iff.2 (Array.mem_of_getElem? ht))
theorem fieldsSplits_holds : Rows.FieldsSplitsCardSaid :=
  Claim7.holds_tied_plain_at .later [] _ _ _ _ fieldsSplits_said (fun _ h => by cases h) (by kernel_rfl) (fun _ h => by cases h) fieldsSplits_row_tie rfl ⟨rfl, rfl⟩ (by kernel_rfl) rfl fieldsSplits_plain (by kernel_rfl)

end Go.Proofs.YtfhdhokhddplhaaDoor
