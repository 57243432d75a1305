/- The digest: a text's sum. Conditions: the text has fewer than a million bytes. -/
import Derived.Test.YtpomdpokbdaahaaDigest3
namespace Go.Proofs.Ytpomdpokbdaahaa
open Go.RowKit Vc
variable {w : World}

theorem padding_length (n : Nat) : (padding n).length = (119 - n % 64) % 64 + 9 := by rw [← padAt_eight, padAt_length (by omega)]
theorem blocks_of (s : List UInt8) : (s ++ padding s.length).length = (s ++ padding s.length).length / 64 * 64 := by
  rw [List.length_append, padding_length]
  omega
theorem sum_spec (s : List UInt8) (hs : s.length < 1000000) : Calls Try.prog fn_digest_Sum #[.string (S s)] w (fun e w' => e = .returned (.string (S (sha s))) ∧ Still w w') := by
  refine digest_Sum_calls _ _ _ ?_
  refine fill8_wr w 29 init8 ?_
  change Calls _ _ _ (fill8 w 29 init8) _
  have hr0 := fill8_row w 29 init8
  have hm0 : Still w (fill8 w 29 init8) := fill8_mod (Mod.refl _ _) 29 init8
  generalize fill8 w 29 init8 = w0 at hr0 hm0 ⊢
  refine (padding_spec (by omega)).mono ?_
  rintro _ w1 ⟨rfl, hm1⟩
  have hpl := padding_length s.length
  refine .inl ⟨_, rfl, by omega, ?_⟩
  have hb := blocks_of s
  unfold sha
  generalize (s ++ padding s.length).length / 64 = N at hb ⊢
  generalize s ++ padding s.length = T at hb ⊢
  have hr1 := hr0.mod hm1 (fun h => h)
  have hmm : Still w w1 := hm0.trans hm1 (fun _ h => h) (fun _ _ h => h)
  refine ⟨fun t w2 => ∃ (n : Nat) (st : S8), t.length = n * 64 ∧ absorb n t st = absorb N T init8 ∧ Row w2 w.heap.size 29 ⟨uvs st.list⟩ ∧ Still w w2, fun t _ => t.length, ⟨N, init8, hb, rfl, hr1, hmm⟩, ?_⟩
  rintro t _ w2 ⟨n, st, hn, hab, hr, hm⟩
  refine bsel_of (fun hx => ?_) (fun hx => ?_)
  · have hx : t ≠ [] := by simpa using hx
    obtain ⟨m, rfl⟩ : ∃ m, n = m + 1 := by
      cases n with
      | zero => exact (hx (List.length_eq_zero_iff.1 (by omega))).elim
      | succ m => exact ⟨m, rfl⟩
    rw [absorb_succ] at hab
    have e64 : Int.toNat 64 = 64 := rfl
    rw [e64]
    generalize hcc : comp st (t.take 64) = st' at hab
    refine ⟨by decide, by omega, (add_spec hr (t.take 64) (by simp; omega)).mono ?_⟩
    rintro _ w3 ⟨rfl, hm3, hr3⟩
    rw [hcc] at hr3
    refine .inl ⟨rfl, by decide, by omega, ⟨m, _, ?_, hab, hr3, hm.trans hm3 (fun _ h => h) (fun i hi h => by omega)⟩, ?_⟩
    · show (t.drop 64).length = m * 64
      simp; omega
    · show (t.drop 64).length < t.length
      simp; omega
  · have hx : t = [] := by simpa using hx
    subst hx
    obtain rfl : n = 0 := by simp at hn; omega
    rw [absorb_zero] at hab
    rw [← hab]
    refine ⟨_, _, _, _, _, _, _, _, hr.cellv rfl, hr.cellv rfl, hr.cellv rfl, hr.cellv rfl, hr.cellv rfl, hr.cellv rfl, hr.cellv rfl, hr.cellv rfl, (digits_spec st).mono ?_⟩
    rintro _ w3 ⟨rfl, hm3⟩
    exact .inl ⟨_, rfl, rfl, hm.trans hm3 (fun _ h => h) (fun _ _ h => h)⟩

set_option maxRecDepth 1000000 in
theorem sha_abc : sha [97, 98, 99] = [98, 97, 55, 56, 49, 54, 98, 102, 56, 102, 48, 49, 99, 102, 101, 97, 52, 49, 52, 49, 52, 48, 100, 101, 53, 100, 97, 101, 50, 50, 50, 51, 98, 48, 48, 51, 54, 49, 97, 51, 57, 54, 49, 55, 55, 97, 57, 99, 98, 52, 49, 48, 102, 102, 54, 49, 102, 50, 48, 48, 49, 53, 97, 100] := by kernel_rfl
theorem awake_spec : Calls Try.prog fn_law01_awake #[] w (fun e w' => e = .returned (.bool true) ∧ Still w w') := by
  refine law01_awake_calls _ _ ?_
  refine (sum_spec _ (by decide)).mono ?_
  rintro _ w1 ⟨rfl, hm⟩
  refine .inl ⟨_, rfl, ?_, hm⟩
  rw [sha_abc]
  rw [decide_eq_true rfl]
end Go.Proofs.Ytpomdpokbdaahaa
