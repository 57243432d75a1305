/- A law of journals and of power that fails: whatever the input, it returns true, and its arguments read as they did; the listed variables as the program's text lays them. Conditions: none but the given rows' own. -/
import Derived.Test.YtddkalfffhkkkaaDoorQ7
import Derived.Test.YtddkalfffhkkkaaDoorCards
import Derived.Test.YtddkalfffhkkkaaDoorTie
import Derived.Lay
import Derived.Deep.DeepWitnessRowRef
namespace Go.Proofs.YtddkalfffhkkkaaDoor
open Go.ChangeShapes Go.WideShapes Go.ChangeAt Go.RowKit Vc

set_option maxRecDepth 100000 in
theorem journalAgain_met (os : Os) : laidMet Tryd.prog Rows.journalAgainRow.laid ((World.laidAll Tryd.prog os Rows.journalAgainRow.laid).forCall (fun _ _ => 0) ⟨#[], #[.slice none 0 0, .string ⟨#[]⟩, .int .u8 0, .int .u64 0, .string ⟨#[]⟩], []⟩).memory :=
  laidMet_laidAll _ (by kernel_rfl) (by kernel_rfl)
theorem journalAgain_reads (os : Os) {H : Type} (enc : TypeId × Value → H) : ∃ places, DataW.whole enc Tryd.prog ((World.laidAll Tryd.prog os Rows.journalAgainRow.laid).forCall (fun _ _ => 0) ⟨#[], #[.slice none 0 0, .string ⟨#[]⟩, .int .u8 0, .int .u64 0, .string ⟨#[]⟩], []⟩).memory Tryd.f4.params.toList Rows.journalAgainSpec.vars false (#[.slice none 0 0, .string ⟨#[]⟩, .int .u8 0, .int .u64 0, .string ⟨#[]⟩] : Array Value).toList 8 = some ([.nil, .lit (.string []), .lit (.int .u8 0), .lit (.int .u64 0), .lit (.string [])], [], places) :=
  ⟨[], by kernel_rfl⟩
set_option maxRecDepth 100000 in
theorem journalAgain_lifted (os : Os) (started : os.Started) (H : Type) (enc : TypeId × Value → H) (F : Stop.Interp) :
    ReturnsInHanded {} Tryd.checked os 4 .any ((OpenSpec.ofChange Rows.journalAgainSpec).preRow enc Tryd.prog Tryd.f4 Rows.journalAgainRow.domain false Rows.journalAgainRow.laid) (((OpenSpec.ofChange Rows.journalAgainSpec).at F).post enc Tryd.prog Tryd.f4 false true false false) := by
  obtain ⟨places, hx⟩ := journalAgain_reads os enc
  refine law_lifted_laid (C := Tryd.checked) (s := Rows.journalAgainSpec) Tryd.own Tryd.laidOut started (by kernel_rfl) Tryd.func4 (by kernel_rfl) (tb := 4) (by kernel_rfl) Tryd.underlying4 rfl ?_
    (witness_row_atRef (enc := enc) (C := Tryd.checked) false (World.laidAll Tryd.prog os Rows.journalAgainRow.laid) #[.slice none 0 0, .string ⟨#[]⟩, .int .u8 0, .int .u64 0, .string ⟨#[]⟩] (World.laidAll_os _ _ _) (by kernel_rfl) (by kernel_rfl) (by kernel_rfl)
      (OpenSpec.preRow_of_cond 8 hx (by kernel_rfl) (fun k hk => by cases hk) (by kernel_rfl) (journalAgain_met os))) ?_
  · intro ds hl
    rw [Tryd.params4] at hl
    match ds, hl with
    | [d0, d1, d2, d3, d4], _ => rfl
  · intro W base args ds ps hval0 hA hz0 hL
    have hval : ∀ (j : Nat) t v, Tryd.f4.params[j]? = some t → args[j]? = some v → Value.okWide Tryd.prog W .any base t v := hval0
    have hA : DataW.TrodAll enc Tryd.prog W 0 (fun _ => true) true Tryd.f4.params.toList args.toList ds ps := hA
    have hz : ∀ (j : Nat) t d, Tryd.f4.params.toList[j]? = some t → ds[j]? = some d → Sized Tryd.prog t d := hz0
    clear hval0 hz0
    rw [Tryd.params4] at hA hval hz
    obtain ⟨v0, vs0, d0, ds0, p0, q0, hargs, rfl, rfl, h0, r0⟩ := trodAll_cons hA
    obtain ⟨v1, vs1, d1, ds1, p1, q1, rfl, rfl, rfl, h1, r1⟩ := trodAll_cons r0
    obtain ⟨v2, vs2, d2, ds2, p2, q2, rfl, rfl, rfl, h2, r2⟩ := trodAll_cons r1
    obtain ⟨v3, vs3, d3, ds3, p3, q3, rfl, rfl, rfl, h3, r3⟩ := trodAll_cons r2
    obtain ⟨v4, vs4, d4, ds4, p4, q4, rfl, rfl, rfl, h4, r4⟩ := trodAll_cons r3
    obtain ⟨rfl, rfl, rfl⟩ := trodAll_nil r4
    obtain rfl : args = #[v0, v1, v2, v3, v4] := Array.ext' hargs
    rw [MakeChecks.laidMetH_plain _ _ _ (by kernel_rfl)] at hL
    have he := env4_of (laidMet.tail (laidMet.tail hL))
    obtain ⟨p0, L0, C0, ls0, rfl, a0, _, _⟩ := open_strs (hval 0 _ v0 rfl rfl) h0 (hz 0 _ d0 rfl rfl)
    obtain ⟨x1, rfl, l1⟩ := open_strS Tryd.underlying9 (hval 1 _ v1 rfl rfl) h1 (hz 1 _ d1 rfl rfl)
    obtain ⟨x2, rfl, _, _, w2⟩ := open_int Tryd.underlying5 (hval 2 _ v2 rfl rfl) h2
    obtain ⟨x3, rfl, _, _, w3⟩ := open_int Tryd.underlying23 (hval 3 _ v3 rfl rfl) h3
    obtain ⟨x4, rfl, l4⟩ := open_strS Tryd.underlying9 (hval 4 _ v4 rfl rfl) h4 (hz 4 _ d4 rfl rfl)
    exact (JournalAgain_spec he a0 x1 x2 (wf_u8 w2).1 (wf_u8 w2).2 x3 (wf_u64 w3).1 (wf_u64 w3).2 x4).mono fun e W' h => ⟨h.1, h.2.toBelow⟩
theorem journalAgain_said : Rows.JournalAgainSaid :=
  OpenClaim.holds_of_cond 4 Tryd.f4 rfl rfl rfl rfl rfl rfl rfl ⟨rfl, rfl, rfl, rfl, rfl⟩ rfl rfl rfl rfl rfl (by kernel_rfl) Tryd.func4 (by kernel_rfl)
    (of_decide_eq_true (by kernel_rfl)) (by unfold Func.isWrapper; rw [if_neg (of_decide_eq_false (by kernel_rfl))]; exact ⟨rfl, rfl⟩)
    (fun os started H enc _ F => by rw [OpenClaim.pre_eq_preRow]; exact journalAgain_lifted os started H enc F)
theorem journalAgain_plain (f : FuncId) (fn : Func) (hf : Tryd.pinned.checked.prog.funcNamed "scullion/scullionlaw04.JournalAgain" = some f) (hfn : Tryd.pinned.checked.prog.funcs[f]? = some fn) :
    true = Tryd.pinned.checked.prog.looks [] ∧ ∀ (j : Nat) t, fn.params[j]? = some t → Tryd.pinned.checked.prog.wantsStandIn t = false := by
  obtain rfl : f = 4 := Option.some.inj ((show Tryd.prog.funcNamed "scullion/scullionlaw04.JournalAgain" = some 4 by kernel_rfl).symm.trans hf) |>.symm
  obtain rfl : fn = Tryd.f4 := (Option.some.inj (Tryd.func4.symm.trans hfn)).symm
  refine ⟨by kernel_rfl, fun j t ht => ?_⟩
  have h : (Tryd.f4.params.toList.all fun t => !Tryd.prog.wantsStandIn t) = true := by kernel_rfl
  show Tryd.prog.wantsStandIn t = false
  simpa using List.all_eq_true.1 h t (Array.mem_toList_iff.2 (Array.mem_of_getElem? ht))
theorem journalAgain_holds : Rows.JournalAgainCardSaid :=
  Claim7.holds_tied_plain_at .later [] _ _ _ _ journalAgain_said (fun _ h => by cases h) (by kernel_rfl) (fun _ h => by cases h) journalAgain_row_tie rfl ⟨rfl, rfl⟩ (by kernel_rfl) rfl journalAgain_plain (by kernel_rfl)

end Go.Proofs.YtddkalfffhkkkaaDoor
