/- Scripts: where reading fails, the number is not 0. Plain law; no program is named. Conditions: none. -/
import Derived.Test.YtcoeiiihmpnagaaDoorWdParse
import Derived.Test.YtcoeiiihmpnagaaDoorM2
namespace Go.Proofs.YtcoeiiihmpnagaaDoor

theorem nz_and {α β : Type} {r : Rs α} {f : α → Rs β} (h : r ≠ .bad 0) (hf : ∀ x, f x ≠ .bad 0) : r.and f ≠ .bad 0 := by
  cases r with
  | ok x => exact hf x
  | bad k => exact fun e => h (by injection e with e; rw [e])
theorem nz_ok {α : Type} {x : α} : (Rs.ok x) ≠ .bad 0 := fun e => by cases e
theorem nz_100 {α : Type} : (Rs.bad 100 : Rs α) ≠ .bad 0 := fun e => by cases e
def Nz {α : Type} (f : Pr α) : Prop := ∀ s, f s ≠ .bad 0
def NzS {σ α : Type} (step : σ → Ts → Rs ((σ × Ts) ⊕ (α × Ts))) : Prop := ∀ a s, step a s ≠ .bad 0
theorem many_nz {σ α : Type} {step : σ → Ts → Rs ((σ × Ts) ⊕ (α × Ts))} (hs : Sinks step) (hn : NzS step) : ∀ (n : Nat) (a : σ) (s : Ts), s.length < n → many step n a s ≠ .bad 0
  | 0, _, _, h => by omega
  | n + 1, a, s, h => by
    simp only [many]
    cases h1 : step a s with
    | bad k => exact fun e => hn a s (by rw [h1]; injection e with e; rw [e])
    | ok x =>
      have h3 := hs _ _ _ h1
      cases x with
      | inr y => exact nz_ok
      | inl y =>
        have h3 : y.2.length < s.length := h3
        exact many_nz hs hn n y.1 y.2 (by omega)
theorem manyF_nz {σ α : Type} {step : σ → Ts → Rs ((σ × Ts) ⊕ (α × Ts))} (hs : Sinks step) (hn : NzS step) (a : σ) : Nz (manyF step a) := fun s => many_nz hs hn _ a s (Nat.lt_succ_self _)
theorem partsF_nz : Nz partsF := by
  intro s
  match s with
  | [] => exact nz_100
  | (k, t) :: r =>
    simp only [partsF]
    split
    · exact nz_and (wpL_nz 30 t) fun _ => nz_ok
    · exact nz_100
theorem redirF_nz : Nz redirF := by
  intro s
  match s with
  | [] => exact nz_100
  | (k, t) :: r => exact nz_and (partsF_nz r) fun _ => nz_ok
theorem redirsS_nz : NzS redirsS := by
  intro a s
  unfold redirsS
  split
  · exact nz_and (redirF_nz s) fun _ => nz_ok
  · exact nz_ok
theorem simpleS_nz : NzS simpleS := by
  intro a s
  unfold simpleS
  split
  · exact nz_and (redirF_nz s) fun _ => nz_ok
  · split
    · split
      · split
        · exact nz_and (wpL_nz 30 _) fun _ => nz_ok
        · exact nz_and (wpL_nz 30 _) fun _ => nz_ok
      · split
        · exact nz_100
        · exact nz_ok
    · split
      · exact nz_100
      · exact nz_ok
theorem pipeF_nz {cmd : Pr Nd} (he : Eats cmd) (hc : Nz cmd) : Nz (pipeF cmd) := fun s => nz_and (hc _) fun x => manyF_nz (pipeS_sinks he _) (fun a s => by
  unfold pipeS
  split
  · exact nz_and (hc _) fun _ => nz_ok
  · exact nz_ok) _ _
theorem andF_nz {cmd : Pr Nd} (he : Eats cmd) (hc : Nz cmd) : Nz (andF cmd) := fun s => nz_and (pipeF_nz he hc s) fun x => manyF_nz (andS_sinks he) (fun a s => by
  unfold andS
  split
  · split
    · exact nz_and (pipeF_nz he hc _) fun _ => nz_ok
    · exact nz_ok
  · exact nz_ok) _ _
theorem listF_nz {cmd : Pr Nd} (he : Eats cmd) (hc : Nz cmd) : Nz (listF cmd) := fun s => manyF_nz (listS_sinks he) (fun a s => by
  unfold listS
  split
  · exact nz_ok
  · refine nz_and (andF_nz he hc s) fun x => ?_
    split
    · exact nz_ok
    · split
      · exact nz_ok
      · exact nz_ok) _ _
theorem someF_nz {cmd : Pr Nd} (he : Eats cmd) (hc : Nz cmd) : Nz (someF cmd) := fun s => nz_and (listF_nz he hc s) fun x => by
  split
  · exact nz_100
  · exact nz_ok
theorem tookF_nz (k : Nat) (t : Txt) (x : Nd × Ts) : tookF k t x ≠ .bad 0 := by
  unfold tookF
  split
  · exact nz_ok
  · exact nz_100
theorem insideF_nz {cmd : Pr Nd} (he : Eats cmd) (hc : Nz cmd) (kind : Int) (k : Nat) (t : Txt) : Nz (insideF cmd kind k t) := fun s => nz_and (someF_nz he hc s) fun x => tookF_nz _ _ _
theorem branchF_nz {cmd br : Pr Nd} (he : Eats cmd) (hc : Nz cmd) (hb : Nz br) : Nz (branchF cmd br) := fun s => nz_and (someF_nz he hc s) fun c => nz_and (tookF_nz _ _ _) fun c => nz_and (someF_nz he hc _) fun t => by
  split
  · exact nz_and (hb _) fun _ => nz_ok
  · split
    · exact nz_and (someF_nz he hc _) fun _ => nz_ok
    · exact nz_ok
theorem bodyF_nz {cmd : Pr Nd} (he : Eats cmd) (hc : Nz cmd) : Nz (bodyF cmd) := fun s => by
  unfold bodyF
  split
  · exact nz_and (someF_nz he hc _) fun x => tookF_nz _ _ _
  · exact nz_100
theorem loopSF_nz {cmd : Pr Nd} (he : Eats cmd) (hc : Nz cmd) (nm : Txt) : Nz (loopSF cmd nm) := fun s => nz_and (someF_nz he hc s) fun c => nz_and (bodyF_nz he hc _) fun _ => nz_ok
theorem eachE_nz {cmd : Pr Nd} (he : Eats cmd) (hc : Nz cmd) (nm : Txt) (ws : List (List Pt)) (os : List Txt) : Nz (eachE cmd nm ws os) := fun s => nz_and (bodyF_nz he hc _) fun _ => nz_ok
theorem eachF_nz {cmd : Pr Nd} (he : Eats cmd) (hc : Nz cmd) : Nz (eachF cmd) := fun s => by
  match s with
  | [] => exact nz_100
  | (k, t) :: r =>
    simp only [eachF]
    split
    · split
      · refine nz_and (manyF_nz wordsS_sinks (fun a s => ?_) _ _) fun x => ?_
        · unfold wordsS
          split
          · exact nz_and (partsF_nz _) fun _ => nz_ok
          · exact nz_ok
        · split
          · exact eachE_nz he hc _ _ _ _
          · exact nz_100
      · exact eachE_nz he hc _ _ _ _
    · exact nz_100
theorem itemF_nz {cmd : Pr Nd} (he : Eats cmd) (hc : Nz cmd) : Nz (itemF cmd) := fun s => nz_and (partsF_nz _) fun w => nz_and (manyF_nz orsS_sinks (fun a s => by
  unfold orsS
  split
  · exact nz_and (partsF_nz _) fun _ => nz_ok
  · exact nz_ok) _ _) fun ws => by
  split
  · exact nz_and (listF_nz he hc _) fun _ => nz_ok
  · exact nz_100
theorem casesF_nz {cmd : Pr Nd} (he : Eats cmd) (hc : Nz cmd) : Nz (casesF cmd) := fun s => nz_and (partsF_nz _) fun w => by
  split
  · refine manyF_nz (caseS_sinks he _) (fun a s => ?_) _ _
    unfold caseS
    split
    · exact nz_ok
    · refine nz_and (itemF_nz he hc s) fun x => ?_
      split
      · exact nz_ok
      · split
        · exact nz_ok
        · exact nz_100
  · exact nz_100
theorem defF_nz {cmd : Pr Nd} (hc : Nz cmd) : Nz (defF cmd) := fun s => by
  match s with
  | [] => exact nz_100
  | (k, t) :: r =>
    refine nz_and (hc _) fun x => ?_
    split
    · exact nz_ok
    · exact nz_100
theorem commandF_nz {cmd br : Pr Nd} (he : Eats cmd) (hc : Nz cmd) (hb : Nz br) : Nz (commandF cmd br) := fun s => by
  unfold commandF
  split
  · rename_i f hf
    refine nz_and ?_ fun x => nz_and (manyF_nz redirsS_sinks redirsS_nz _ _) fun _ => nz_ok
    unfold compF at hf
    split at hf
    · rw [← Option.some.inj hf]; exact insideF_nz he hc _ _ _ _
    split at hf
    · rw [← Option.some.inj hf]; exact insideF_nz he hc _ _ _ _
    split at hf
    · rw [← Option.some.inj hf]; exact nz_and (hb _) fun x => tookF_nz _ _ _
    split at hf
    · rw [← Option.some.inj hf]; exact loopSF_nz he hc _ _
    split at hf
    · rw [← Option.some.inj hf]; exact loopSF_nz he hc _ _
    split at hf
    · rw [← Option.some.inj hf]; exact eachF_nz he hc _
    split at hf
    · rw [← Option.some.inj hf]; exact casesF_nz he hc _
    · cases hf
  · split
    · exact nz_100
    · split
      · exact defF_nz hc _
      · exact manyF_nz simpleS_sinks simpleS_nz _ _
theorem lvS_nz : ∀ L, Nz (lvS L).1 ∧ Nz (lvS L).2
  | 0 => ⟨fun s h => (by cases h), fun s h => (by cases h)⟩
  | L + 1 => by
    obtain ⟨h1, h2⟩ := lvS_nz L
    obtain ⟨e1, e2⟩ := lvS_eats L
    have hb := branchF_nz e1 h1 h2
    exact ⟨commandF_nz e1 h1 hb, hb⟩
theorem scriptF_nz (s : Ts) : scriptF s ≠ .bad 0 := nz_and (listF_nz (lvS_eats 30).1 (lvS_nz 30).1 s) fun x => by
  split
  · exact nz_ok
  · exact nz_100
end Go.Proofs.YtcoeiiihmpnagaaDoor
