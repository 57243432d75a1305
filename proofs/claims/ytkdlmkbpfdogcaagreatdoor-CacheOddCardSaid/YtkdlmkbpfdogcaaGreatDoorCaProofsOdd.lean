/- A law of caches: whatever the input, it returns true, and its arguments read as they did; the listed variables as the program's text lays them. Conditions: none but the given rows' own. -/
import Derived.Test.YtkdlmkbpfdogcaaGreatDoorQ8
import Derived.Test.YtkdlmkbpfdogcaaGreatDoorCards
import Derived.Test.YtkdlmkbpfdogcaaGreatDoorTie
import Derived.Lay
import Derived.Deep.DeepWitnessRowRef
namespace Go.Proofs.YtkdlmkbpfdogcaaGreatDoor
open Go.ChangeShapes Go.WideShapes Go.ChangeAt Go.RowKit Vc

set_option maxRecDepth 100000 in
theorem cacheOdd_met (os : Os) : laidMet Tryz.prog Rows.cacheOddRow.laid ((World.laidAll Tryz.prog os Rows.cacheOddRow.laid).forCall (fun _ _ => 0) ⟨#[], #[.slice none 0 0, .slice none 0 0], []⟩).memory :=
  laidMet_laidAll _ (by kernel_rfl) (by kernel_rfl)
theorem cacheOdd_reads (os : Os) {H : Type} (enc : TypeId × Value → H) : ∃ places, DataW.whole enc Tryz.prog ((World.laidAll Tryz.prog os Rows.cacheOddRow.laid).forCall (fun _ _ => 0) ⟨#[], #[.slice none 0 0, .slice none 0 0], []⟩).memory Tryz.f3.params.toList Rows.cacheOddSpec.vars false (#[.slice none 0 0, .slice none 0 0] : Array Value).toList 8 = some ([.nil, .nil], [], places) :=
  ⟨[], by kernel_rfl⟩
set_option maxRecDepth 100000 in
theorem cacheOdd_lifted (os : Os) (started : os.Started) (H : Type) (enc : TypeId × Value → H) (F : Stop.Interp) :
    ReturnsInHanded {} Tryz.checked os 3 .any ((OpenSpec.ofChange Rows.cacheOddSpec).preRow enc Tryz.prog Tryz.f3 Rows.cacheOddRow.domain false Rows.cacheOddRow.laid) (((OpenSpec.ofChange Rows.cacheOddSpec).at F).post enc Tryz.prog Tryz.f3 false true false false) := by
  obtain ⟨places, hx⟩ := cacheOdd_reads os enc
  refine law_lifted_laid (C := Tryz.checked) (s := Rows.cacheOddSpec) Tryz.own Tryz.laidOut started (by kernel_rfl) Tryz.func3 (by kernel_rfl) (tb := 4) (by kernel_rfl) Tryz.underlying4 rfl ?_
    (witness_row_atRef (enc := enc) (C := Tryz.checked) false (World.laidAll Tryz.prog os Rows.cacheOddRow.laid) #[.slice none 0 0, .slice none 0 0] (World.laidAll_os _ _ _) (by kernel_rfl) (by kernel_rfl) (by kernel_rfl)
      (OpenSpec.preRow_of_cond 8 hx (by kernel_rfl) (fun k hk => by cases hk) (by kernel_rfl) (cacheOdd_met os))) ?_
  · intro ds hl
    rw [Tryz.params3] at hl
    match ds, hl with
    | [d0, d1], _ => rfl
  · intro W base args ds ps hval0 hA hz0 hL
    have hval : ∀ (j : Nat) t v, Tryz.f3.params[j]? = some t → args[j]? = some v → Value.okWide Tryz.prog W .any base t v := hval0
    have hA : DataW.TrodAll enc Tryz.prog W 0 (fun _ => true) true Tryz.f3.params.toList args.toList ds ps := hA
    have hz : ∀ (j : Nat) t d, Tryz.f3.params.toList[j]? = some t → ds[j]? = some d → Sized Tryz.prog t d := hz0
    clear hval0 hz0
    rw [Tryz.params3] at hA hval hz
    obtain ⟨v0, vs0, d0, ds0, p0, q0, hargs, rfl, rfl, h0, r0⟩ := trodAll_cons hA
    obtain ⟨v1, vs1, d1, ds1, p1, q1, rfl, rfl, rfl, h1, r1⟩ := trodAll_cons r0
    obtain ⟨rfl, rfl, rfl⟩ := trodAll_nil r1
    obtain rfl : args = #[v0, v1] := Array.ext' hargs
    rw [MakeChecks.laidMetH_plain _ _ _ (by kernel_rfl)] at hL
    have he := env4_of (laidMet.tail (laidMet.tail hL))
    obtain ⟨p0, L0, C0, ls0, rfl, a0, _, _⟩ := open_strs (hval 0 _ v0 rfl rfl) h0 (hz 0 _ d0 rfl rfl)
    obtain ⟨p1, L1, C1, la1, rfl, a1⟩ := open_memos (hval 1 _ v1 rfl rfl) h1 (hz 1 _ d1 rfl rfl)
    exact (CacheOdd_spec he a0 a1).mono fun e W' h => ⟨h.1, h.2.toBelow⟩
theorem cacheOdd_said : Rows.CacheOddSaid :=
  OpenClaim.holds_of_cond 3 Tryz.f3 rfl rfl rfl rfl rfl rfl rfl ⟨rfl, rfl, rfl, rfl, rfl⟩ rfl rfl rfl rfl rfl (by kernel_rfl) Tryz.func3 (by kernel_rfl)
    (of_decide_eq_true (by kernel_rfl)) (by unfold Func.isWrapper; rw [if_neg (of_decide_eq_false (by kernel_rfl))]; exact ⟨rfl, rfl⟩)
    (fun os started H enc _ F => by rw [OpenClaim.pre_eq_preRow]; exact cacheOdd_lifted os started H enc F)
theorem cacheOdd_plain (f : FuncId) (fn : Func) (hf : Tryz.pinned.checked.prog.funcNamed "scullion/scullionlaw22.CacheOdd" = some f) (hfn : Tryz.pinned.checked.prog.funcs[f]? = some fn) :
    true = Tryz.pinned.checked.prog.looks [] ∧ ∀ (j : Nat) t, fn.params[j]? = some t → Tryz.pinned.checked.prog.wantsStandIn t = false := by
  obtain rfl : f = 3 := Option.some.inj ((show Tryz.prog.funcNamed "scullion/scullionlaw22.CacheOdd" = some 3 by kernel_rfl).symm.trans hf) |>.symm
  obtain rfl : fn = Tryz.f3 := (Option.some.inj (Tryz.func3.symm.trans hfn)).symm
  refine ⟨by kernel_rfl, fun j t ht => ?_⟩
  have h : (Tryz.f3.params.toList.all fun t => !Tryz.prog.wantsStandIn t) = true := by kernel_rfl
  show Tryz.prog.wantsStandIn t = false
  simpa using List.all_eq_true.1 h t (Array.mem_toList_iff.2 (Array.mem_of_getElem? ht))
theorem cacheOdd_holds : Rows.CacheOddCardSaid :=
  Claim7.holds_tied_plain_at .later [] _ _ _ _ cacheOdd_said (fun _ h => by cases h) (by kernel_rfl) (fun _ h => by cases h) cacheOdd_row_tie rfl ⟨rfl, rfl⟩ (by kernel_rfl) rfl cacheOdd_plain (by kernel_rfl)

end Go.Proofs.YtkdlmkbpfdogcaaGreatDoor
