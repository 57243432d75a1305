/- A law of caches: whatever the input, it returns true, and its arguments read as they did; the listed variables as the program's text lays them. Conditions: none but the given rows' own. -/
import Derived.Test.YtkdlmkbpfdogcaaGreatDoorQ8
import Derived.Test.YtkdlmkbpfdogcaaGreatDoorCards
import Derived.Test.YtkdlmkbpfdogcaaGreatDoorTie
import Derived.Lay
import Derived.Deep.DeepWitnessRowRef
namespace Go.Proofs.YtkdlmkbpfdogcaaGreatDoor
open Go.ChangeShapes Go.WideShapes Go.ChangeAt Go.RowKit Vc

set_option maxRecDepth 100000 in
theorem cacheWhole_met (os : Os) : laidMet Tryz.prog Rows.cacheWholeRow.laid ((World.laidAll Tryz.prog os Rows.cacheWholeRow.laid).forCall (fun _ _ => 0) ⟨#[], #[.slice none 0 0, .slice none 0 0, .int .u8 0, .int .u64 0], []⟩).memory :=
  laidMet_laidAll _ (by kernel_rfl) (by kernel_rfl)
theorem cacheWhole_reads (os : Os) {H : Type} (enc : TypeId × Value → H) : ∃ places, DataW.whole enc Tryz.prog ((World.laidAll Tryz.prog os Rows.cacheWholeRow.laid).forCall (fun _ _ => 0) ⟨#[], #[.slice none 0 0, .slice none 0 0, .int .u8 0, .int .u64 0], []⟩).memory Tryz.f6.params.toList Rows.cacheWholeSpec.vars false (#[.slice none 0 0, .slice none 0 0, .int .u8 0, .int .u64 0] : Array Value).toList 8 = some ([.nil, .nil, .lit (.int .u8 0), .lit (.int .u64 0)], [], places) :=
  ⟨[], by kernel_rfl⟩
set_option maxRecDepth 100000 in
theorem cacheWhole_lifted (os : Os) (started : os.Started) (H : Type) (enc : TypeId × Value → H) (F : Stop.Interp) :
    ReturnsInHanded {} Tryz.checked os 6 .any ((OpenSpec.ofChange Rows.cacheWholeSpec).preRow enc Tryz.prog Tryz.f6 Rows.cacheWholeRow.domain false Rows.cacheWholeRow.laid) (((OpenSpec.ofChange Rows.cacheWholeSpec).at F).post enc Tryz.prog Tryz.f6 false true false false) := by
  obtain ⟨places, hx⟩ := cacheWhole_reads os enc
  refine law_lifted_laid (C := Tryz.checked) (s := Rows.cacheWholeSpec) Tryz.own Tryz.laidOut started (by kernel_rfl) Tryz.func6 (by kernel_rfl) (tb := 4) (by kernel_rfl) Tryz.underlying4 rfl ?_
    (witness_row_atRef (enc := enc) (C := Tryz.checked) false (World.laidAll Tryz.prog os Rows.cacheWholeRow.laid) #[.slice none 0 0, .slice none 0 0, .int .u8 0, .int .u64 0] (World.laidAll_os _ _ _) (by kernel_rfl) (by kernel_rfl) (by kernel_rfl)
      (OpenSpec.preRow_of_cond 8 hx (by kernel_rfl) (fun k hk => by cases hk) (by kernel_rfl) (cacheWhole_met os))) ?_
  · intro ds hl
    rw [Tryz.params6] at hl
    match ds, hl with
    | [d0, d1, d2, d3], _ => rfl
  · intro W base args ds ps hval0 hA hz0 hL
    have hval : ∀ (j : Nat) t v, Tryz.f6.params[j]? = some t → args[j]? = some v → Value.okWide Tryz.prog W .any base t v := hval0
    have hA : DataW.TrodAll enc Tryz.prog W 0 (fun _ => true) true Tryz.f6.params.toList args.toList ds ps := hA
    have hz : ∀ (j : Nat) t d, Tryz.f6.params.toList[j]? = some t → ds[j]? = some d → Sized Tryz.prog t d := hz0
    clear hval0 hz0
    rw [Tryz.params6] at hA hval hz
    obtain ⟨v0, vs0, d0, ds0, p0, q0, hargs, rfl, rfl, h0, r0⟩ := trodAll_cons hA
    obtain ⟨v1, vs1, d1, ds1, p1, q1, rfl, rfl, rfl, h1, r1⟩ := trodAll_cons r0
    obtain ⟨v2, vs2, d2, ds2, p2, q2, rfl, rfl, rfl, h2, r2⟩ := trodAll_cons r1
    obtain ⟨v3, vs3, d3, ds3, p3, q3, rfl, rfl, rfl, h3, r3⟩ := trodAll_cons r2
    obtain ⟨rfl, rfl, rfl⟩ := trodAll_nil r3
    obtain rfl : args = #[v0, v1, v2, v3] := Array.ext' hargs
    rw [MakeChecks.laidMetH_plain _ _ _ (by kernel_rfl)] at hL
    have he := env4_of (laidMet.tail (laidMet.tail hL))
    obtain ⟨p0, L0, C0, la0, rfl, a0⟩ := open_memos (hval 0 _ v0 rfl rfl) h0 (hz 0 _ d0 rfl rfl)
    obtain ⟨p1, L1, C1, la1, rfl, a1⟩ := open_memos (hval 1 _ v1 rfl rfl) h1 (hz 1 _ d1 rfl rfl)
    obtain ⟨x2, rfl, _, _, w2⟩ := open_int Tryz.underlying5 (hval 2 _ v2 rfl rfl) h2
    obtain ⟨x3, rfl, _, _, w3⟩ := open_int Tryz.underlying51 (hval 3 _ v3 rfl rfl) h3
    exact (CacheWhole_spec he a0 a1 x2 (wf_u8 w2).1 (wf_u8 w2).2 x3 (wf_u64 w3).1 (wf_u64 w3).2).mono fun e W' h => ⟨h.1, h.2.toBelow⟩
theorem cacheWhole_said : Rows.CacheWholeSaid :=
  OpenClaim.holds_of_cond 6 Tryz.f6 rfl rfl rfl rfl rfl rfl rfl ⟨rfl, rfl, rfl, rfl, rfl⟩ rfl rfl rfl rfl rfl (by kernel_rfl) Tryz.func6 (by kernel_rfl)
    (of_decide_eq_true (by kernel_rfl)) (by unfold Func.isWrapper; rw [if_neg (of_decide_eq_false (by kernel_rfl))]; exact ⟨rfl, rfl⟩)
    (fun os started H enc _ F => by rw [OpenClaim.pre_eq_preRow]; exact cacheWhole_lifted os started H enc F)
theorem cacheWhole_plain (f : FuncId) (fn : Func) (hf : Tryz.pinned.checked.prog.funcNamed "scullion/scullionlaw22.CacheWhole" = some f) (hfn : Tryz.pinned.checked.prog.funcs[f]? = some fn) :
    true = Tryz.pinned.checked.prog.looks [] ∧ ∀ (j : Nat) t, fn.params[j]? = some t → Tryz.pinned.checked.prog.wantsStandIn t = false := by
  obtain rfl : f = 6 := Option.some.inj ((show Tryz.prog.funcNamed "scullion/scullionlaw22.CacheWhole" = some 6 by kernel_rfl).symm.trans hf) |>.symm
  obtain rfl : fn = Tryz.f6 := (Option.some.inj (Tryz.func6.symm.trans hfn)).symm
  refine ⟨by kernel_rfl, fun j t ht => ?_⟩
  have h : (Tryz.f6.params.toList.all fun t => !Tryz.prog.wantsStandIn t) = true := by kernel_rfl
  show Tryz.prog.wantsStandIn t = false
  simpa using List.all_eq_true.1 h t (Array.mem_toList_iff.2 (Array.mem_of_getElem? ht))
theorem cacheWhole_holds : Rows.CacheWholeCardSaid :=
  Claim7.holds_tied_plain_at .later [] _ _ _ _ cacheWhole_said (fun _ h => by cases h) (by kernel_rfl) (fun _ h => by cases h) cacheWhole_row_tie rfl ⟨rfl, rfl⟩ (by kernel_rfl) rfl cacheWhole_plain (by kernel_rfl)

end Go.Proofs.YtkdlmkbpfdogcaaGreatDoor
