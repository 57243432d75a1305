/- The law of scripts parsed, told, and parsed again: whatever the input, it returns true, and its arguments read as they did; the listed variables as the program's text lays them. Conditions: none but the given rows' own. -/
import Derived.Test.YthommfjiaalecaaDoorQ11
import Derived.Test.YthommfjiaalecaaDoorCards
import Derived.Test.YthommfjiaalecaaDoorTie
import Derived.Lay
import Derived.Deep.DeepWitnessRowRef
namespace Go.Proofs.YthommfjiaalecaaDoor
open Go.ChangeShapes Go.WideShapes Go.ChangeAt Go.RowKit Vc

set_option maxRecDepth 100000 in
theorem unparseBack_met (os : Os) : laidMet Tryd.prog Rows.unparseBackRow.laid ((World.laidAll Tryd.prog os Rows.unparseBackRow.laid).forCall (fun _ _ => 0) ⟨#[], #[.string ⟨#[]⟩, .slice none 0 0, .slice none 0 0, .int .u8 0], []⟩).memory :=
  laidMet_laidAll _ (by kernel_rfl) (by kernel_rfl)
theorem unparseBack_reads (os : Os) {H : Type} (enc : TypeId × Value → H) : ∃ places, DataW.whole enc Tryd.prog ((World.laidAll Tryd.prog os Rows.unparseBackRow.laid).forCall (fun _ _ => 0) ⟨#[], #[.string ⟨#[]⟩, .slice none 0 0, .slice none 0 0, .int .u8 0], []⟩).memory Tryd.f3.params.toList Rows.unparseBackSpec.vars false (#[.string ⟨#[]⟩, .slice none 0 0, .slice none 0 0, .int .u8 0] : Array Value).toList 8 = some ([.lit (.string []), .nil, .nil, .lit (.int .u8 0)], [], places) :=
  ⟨[], by kernel_rfl⟩
set_option maxRecDepth 100000 in
theorem unparseBack_lifted (os : Os) (started : os.Started) (H : Type) (enc : TypeId × Value → H) (F : Stop.Interp) :
    ReturnsInHanded {} Tryd.checked os 3 .any ((OpenSpec.ofChange Rows.unparseBackSpec).preRow enc Tryd.prog Tryd.f3 Rows.unparseBackRow.domain false Rows.unparseBackRow.laid) (((OpenSpec.ofChange Rows.unparseBackSpec).at F).post enc Tryd.prog Tryd.f3 false true false false) := by
  obtain ⟨places, hx⟩ := unparseBack_reads os enc
  refine law_lifted_laid (C := Tryd.checked) (s := Rows.unparseBackSpec) Tryd.own Tryd.laidOut started (by kernel_rfl) Tryd.func3 (by kernel_rfl) (tb := 4) (by kernel_rfl) Tryd.underlying4 rfl ?_
    (witness_row_atRef (enc := enc) (C := Tryd.checked) false (World.laidAll Tryd.prog os Rows.unparseBackRow.laid) #[.string ⟨#[]⟩, .slice none 0 0, .slice none 0 0, .int .u8 0] (World.laidAll_os _ _ _) (by kernel_rfl) (by kernel_rfl) (by kernel_rfl)
      (OpenSpec.preRow_of_cond 8 hx (by kernel_rfl) (fun k hk => by cases hk) (by kernel_rfl) (unparseBack_met os))) ?_
  · intro ds hl
    rw [Tryd.params3] at hl
    match ds, hl with
    | [d0, d1, d2, d3], _ => rfl
  · intro W base args ds ps hval0 hA hz0 hL
    have hval : ∀ (j : Nat) t v, Tryd.f3.params[j]? = some t → args[j]? = some v → Value.okWide Tryd.prog W .any base t v := hval0
    have hA : DataW.TrodAll enc Tryd.prog W 0 (fun _ => true) true Tryd.f3.params.toList args.toList ds ps := hA
    have hz : ∀ (j : Nat) t d, Tryd.f3.params.toList[j]? = some t → ds[j]? = some d → Sized Tryd.prog t d := hz0
    clear hval0 hz0
    rw [Tryd.params3] at hA hval hz
    obtain ⟨v0, vs0, d0, ds0, p0, q0, hargs, rfl, rfl, h0, r0⟩ := trodAll_cons hA
    obtain ⟨v1, vs1, d1, ds1, p1, q1, rfl, rfl, rfl, h1, r1⟩ := trodAll_cons r0
    obtain ⟨v2, vs2, d2, ds2, p2, q2, rfl, rfl, rfl, h2, r2⟩ := trodAll_cons r1
    obtain ⟨v3, vs3, d3, ds3, p3, q3, rfl, rfl, rfl, h3, r3⟩ := trodAll_cons r2
    obtain ⟨rfl, rfl, rfl⟩ := trodAll_nil r3
    obtain rfl : args = #[v0, v1, v2, v3] := Array.ext' hargs
    obtain ⟨x0, rfl, l0⟩ := open_strS Tryd.underlying9 (hval 0 _ v0 rfl rfl) h0 (hz 0 _ d0 rfl rfl)
    obtain ⟨p1, L1, C1, vs1, rfl, u1⟩ := open_u8l (hval 1 _ v1 rfl rfl) h1 (hz 1 _ d1 rfl rfl)
    obtain ⟨p2, L2, C2, vs2, rfl, u2⟩ := open_u8l (hval 2 _ v2 rfl rfl) h2 (hz 2 _ d2 rfl rfl)
    obtain ⟨x3, rfl, _, _, w3⟩ := open_int Tryd.underlying5 (hval 3 _ v3 rfl rfl) h3
    exact (UnparseBack_spec x0 u1 u2 x3 (wf_u8 w3).1 (wf_u8 w3).2).mono fun e W' h => ⟨h.1, h.2.toBelow⟩
theorem unparseBack_said : Rows.UnparseBackSaid :=
  OpenClaim.holds_of_cond 3 Tryd.f3 rfl rfl rfl rfl rfl rfl rfl ⟨rfl, rfl, rfl, rfl, rfl⟩ rfl rfl rfl rfl rfl (by kernel_rfl) Tryd.func3 (by kernel_rfl)
    (of_decide_eq_true (by kernel_rfl)) (by unfold Func.isWrapper; rw [if_neg (of_decide_eq_false (by kernel_rfl))]; exact ⟨rfl, rfl⟩)
    (fun os started H enc _ F => by rw [OpenClaim.pre_eq_preRow]; exact unparseBack_lifted os started H enc F)
theorem unparseBack_plain (f : FuncId) (fn : Func) (hf : Tryd.pinned.checked.prog.funcNamed "scullion/scullionlaw10.UnparseBack" = some f) (hfn : Tryd.pinned.checked.prog.funcs[f]? = some fn) :
    false = Tryd.pinned.checked.prog.looks [] ∧ ∀ (j : Nat) t, fn.params[j]? = some t → Tryd.pinned.checked.prog.wantsStandIn t = false := by
  obtain rfl : f = 3 := Option.some.inj ((show Tryd.prog.funcNamed "scullion/scullionlaw10.UnparseBack" = some 3 by kernel_rfl).symm.trans hf) |>.symm
  obtain rfl : fn = Tryd.f3 := (Option.some.inj (Tryd.func3.symm.trans hfn)).symm
  refine ⟨by kernel_rfl, fun j t ht => ?_⟩
  have h : (Tryd.f3.params.toList.all fun t => !Tryd.prog.wantsStandIn t) = true := by kernel_rfl
  show Tryd.prog.wantsStandIn t = false
  simpa using List.all_eq_true.1 h t (Array.mem_toList_iff.2 (Array.mem_of_getElem? ht))
theorem unparseBack_holds : Rows.UnparseBackCardSaid :=
  Claim7.holds_tied_plain_at .later [] _ _ _ _ unparseBack_said (fun _ h => by cases h) (by kernel_rfl) (fun _ h => by cases h) unparseBack_row_tie rfl ⟨rfl, rfl⟩ (by kernel_rfl) rfl unparseBack_plain (by kernel_rfl)

end Go.Proofs.YthommfjiaalecaaDoor
