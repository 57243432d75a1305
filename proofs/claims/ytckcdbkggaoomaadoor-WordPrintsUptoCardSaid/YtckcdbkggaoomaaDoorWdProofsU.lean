/- The law of words' texts, for arguments of bounded bulk: it returns true, and its arguments read as they did; the listed variables as the program's text lays them. Conditions: none but the given rows' own. -/
import Derived.Test.YtckcdbkggaoomaaDoorCards
import Derived.Test.YtckcdbkggaoomaaDoorTie
import Derived.Test.YtckcdbkggaoomaaDoorRowU
import Derived.Lay
import Derived.Deep.DeepWitnessRowRef
import Derived.Test.YtckcdbkggaoomaaDoorWdOpenP
namespace Go.Proofs.YtckcdbkggaoomaaDoor
open Go.ChangeShapes Go.WideShapes Go.ChangeAt Go.RowKit Vc

set_option maxRecDepth 100000 in
theorem wordPrints_met (os : Os) : laidMet Tryd.prog Rows.wordPrintsUptoRow.laid ((World.laidAll Tryd.prog os Rows.wordPrintsUptoRow.laid).forCall (fun _ _ => 0) ⟨#[], #[.slice none 0 0], []⟩).memory :=
  laidMet_laidAll _ (by kernel_rfl) (by kernel_rfl)
theorem wordPrints_reads (os : Os) {H : Type} (enc : TypeId × Value → H) : ∃ places, DataW.whole enc Tryd.prog ((World.laidAll Tryd.prog os Rows.wordPrintsUptoRow.laid).forCall (fun _ _ => 0) ⟨#[], #[.slice none 0 0], []⟩).memory Tryd.f5.params.toList Rows.wordPrintsSpec.vars false (#[.slice none 0 0] : Array Value).toList 8 = some ([.nil], [], places) :=
  ⟨[], by kernel_rfl⟩
set_option maxRecDepth 100000 in
theorem wordPrints_lifted (os : Os) (started : os.Started) (H : Type) (enc : TypeId × Value → H) (F : Stop.Interp) :
    ReturnsInHanded {} Tryd.checked os 5 .any ((Rows.OpenSpec.upto Rows.wordPrintsSpec).preRow enc Tryd.prog Tryd.f5 Rows.wordPrintsUptoRow.domain false Rows.wordPrintsUptoRow.laid) (((Rows.OpenSpec.upto Rows.wordPrintsSpec).at F).post enc Tryd.prog Tryd.f5 false true false false) := by
  obtain ⟨places, hx⟩ := wordPrints_reads os enc
  refine law_lifted_upto (C := Tryd.checked) (s := Rows.wordPrintsSpec) Tryd.own Tryd.laidOut started (by kernel_rfl) Tryd.func5 (by kernel_rfl) (tb := 4) (by kernel_rfl) Tryd.underlying4 rfl ?_
    (witness_row_atRef (enc := enc) (C := Tryd.checked) false (World.laidAll Tryd.prog os Rows.wordPrintsUptoRow.laid) #[.slice none 0 0] (World.laidAll_os _ _ _) (by kernel_rfl) (by kernel_rfl) (by kernel_rfl)
      (OpenSpec.preRow_of_cond 8 hx (by kernel_rfl) (fun k hk => by cases hk; kernel_rfl) (by kernel_rfl) (wordPrints_met os))) ?_
  · intro ds hl
    rw [Tryd.params5] at hl
    match ds, hl with
    | [d0], _ => rfl
  · intro W base args ds ps hval0 hA hz0 hB hL
    have hval : ∀ (j : Nat) t v, Tryd.f5.params[j]? = some t → args[j]? = some v → Value.okWide Tryd.prog W .any base t v := hval0
    have hA : DataW.TrodAll enc Tryd.prog W 0 (fun _ => true) true Tryd.f5.params.toList args.toList ds ps := hA
    have hz : ∀ (j : Nat) t d, Tryd.f5.params.toList[j]? = some t → ds[j]? = some d → Sized Tryd.prog t d := hz0
    clear hval0 hz0
    rw [Tryd.params5] at hA hval hz
    obtain ⟨v0, vs0, d0, ds0, p0, q0, hargs, rfl, rfl, h0, r0⟩ := trodAll_cons hA
    obtain ⟨rfl, rfl, rfl⟩ := trodAll_nil r0
    obtain rfl : args = #[v0] := Array.ext' hargs
    obtain ⟨p0, C0, m0, rfl, s0, g0⟩ := open_parts (hval 0 _ v0 rfl rfl) h0 (hz 0 _ d0 rfl rfl) hB
    exact (WordPrints_spec s0 g0).mono fun e W' h => ⟨h.1, h.2.toBelow⟩
theorem wordPrints_said : Rows.WordPrintsUptoSaid :=
  OpenClaim.holds_of_cond 5 Tryd.f5 rfl rfl rfl rfl rfl rfl rfl ⟨rfl, rfl, rfl, rfl, rfl⟩ rfl rfl rfl rfl rfl (by kernel_rfl) Tryd.func5 (by kernel_rfl)
    (of_decide_eq_true (by kernel_rfl)) (by unfold Func.isWrapper; rw [if_neg (of_decide_eq_false (by kernel_rfl))]; exact ⟨rfl, rfl⟩)
    (fun os started H enc _ F => by rw [OpenClaim.pre_eq_preRow]; exact wordPrints_lifted os started H enc F)
theorem wordPrints_plain (f : FuncId) (fn : Func) (hf : Tryd.pinned.checked.prog.funcNamed "scullion/scullionlaw08.WordPrints" = some f) (hfn : Tryd.pinned.checked.prog.funcs[f]? = some fn) :
    true = Tryd.pinned.checked.prog.looks [] ∧ ∀ (j : Nat) t, fn.params[j]? = some t → Tryd.pinned.checked.prog.wantsStandIn t = false := by
  obtain rfl : f = 5 := Option.some.inj ((show Tryd.prog.funcNamed "scullion/scullionlaw08.WordPrints" = some 5 by kernel_rfl).symm.trans hf) |>.symm
  obtain rfl : fn = Tryd.f5 := (Option.some.inj (Tryd.func5.symm.trans hfn)).symm
  refine ⟨by kernel_rfl, fun j t ht => ?_⟩
  have h : (Tryd.f5.params.toList.all fun t => !Tryd.prog.wantsStandIn t) = true := by kernel_rfl
  show Tryd.prog.wantsStandIn t = false
  simpa using List.all_eq_true.1 h t (Array.mem_toList_iff.2 (Array.mem_of_getElem? ht))
theorem wordPrints_holds : Rows.WordPrintsUptoCardSaid :=
  Claim7.holds_tied_plain_at .later [] _ _ _ _ wordPrints_said (fun _ h => by cases h) (by kernel_rfl) (fun _ h => by cases h) wordPrintsUpto_row_tie rfl ⟨rfl, rfl⟩ (by kernel_rfl) rfl wordPrints_plain (by kernel_rfl)

end Go.Proofs.YtckcdbkggaoomaaDoor
