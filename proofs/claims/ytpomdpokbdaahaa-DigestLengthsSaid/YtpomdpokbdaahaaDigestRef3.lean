/- The digest's reference: a text's sum. Conditions: the text has fewer than a million bytes. -/
import Derived.Test.YtpomdpokbdaahaaDigestRef2
namespace Go.Proofs.Ytpomdpokbdaahaa
open Go.RowKit Vc
variable {w : World}

/-- A slice of bytes that stand in some row. -/
def SrcB (w : World) (b : Option Addr) (bL bC : Nat) (T : List UInt8) : Prop := T.length = bL ∧ bL ≤ bC ∧ (0 < bL → ∃ g o, b = some ⟨g, o, none⟩ ∧ Src w g o T)
theorem Src.take {g o : Nat} {T : List UInt8} (h : Src w g o T) (n : Nat) : Src w g o (T.take n) := by
  obtain ⟨t, cs, hr, hc⟩ := h.row
  refine ⟨t, cs, hr, fun j x hx => ?_⟩
  rw [List.getElem?_take] at hx
  split at hx
  · exact hc j x hx
  · cases hx
theorem Src.drop {g o : Nat} {T : List UInt8} (h : Src w g o T) (n : Nat) : Src w g (o + n) (T.drop n) := by
  obtain ⟨t, cs, hr, hc⟩ := h.row
  refine ⟨t, cs, hr, fun j x hx => ?_⟩
  rw [List.getElem?_drop] at hx
  rw [Nat.add_assoc]
  exact hc _ x hx
theorem Owns.src {B : Nat} {p : Option Addr} {L C : Nat} {T : List UInt8} (h : Owns w B 5 1 (.slice p L C) L (bc T)) : SrcB w p L C T := by
  have hl := h.length
  rw [bc_length] at hl
  refine ⟨by omega, ?_, fun hL => ?_⟩
  · obtain ⟨_, ⟨e, e2⟩ | ⟨g, cap, cur, e, _, _, hc, _⟩⟩ := h
    · omega
    · injection e with _ _ e3
      omega
  · obtain ⟨g, cap, cur, e, _, hr, hc, hs, ht⟩ := h.row hL
    injection e with e1 e2 e3
    refine ⟨g, 0, e1, 5, cur, hr, fun j x hx => ?_⟩
    have hb := bc_get hx
    rw [← ht, List.getElem?_take] at hb
    split at hb
    · rw [Nat.zero_add]
      simpa using hb
    · cases hb

theorem ref_sum_spec (s : List UInt8) (hs : s.length < 1000000) : Calls Try.prog fn_ref01_Sum #[.string (S s)] w (fun e w' => e = .returned (.string (S (sha s))) ∧ Still w w') := by
  refine ref01_Sum_calls _ _ _ ?_
  refine initial_spec.mono ?_
  rintro _ w1 ⟨gi, rfl, hgi, hri, hm1⟩
  refine .inl ⟨_, _, _, rfl, (padded_spec s hs).mono ?_⟩
  rintro _ w2 ⟨pp, pL, pC, rfl, hop, hm2⟩
  have hm12 : Still w w2 := hm1.trans hm2 (fun _ h => h) (fun _ _ h => h)
  have hi2 : Owns w2 0 27 1 (.slice (some ⟨gi, 0, none⟩) 8 8) 8 (uvs init8.list) := Owns.of_row (hri.mod hm2 (fun h => h)) (Nat.zero_le _) rfl (by decide)
  have hT := hop.src
  have hb := blocks_of s
  unfold sha
  generalize (s ++ padding s.length).length / 64 = N at hb ⊢
  generalize s ++ padding s.length = T at hb hT hop ⊢
  refine .inl ⟨_, _, _, rfl, fun h hL hC b bL bC w3 => ∃ (n : Nat) (st : S8) (t : List UInt8), bL = n * 64 ∧ hL = 8 ∧ SrcB w3 b bL bC t ∧ absorb n t st = absorb N T init8 ∧ Owns w3 0 27 1 (.slice h 8 hC) 8 (uvs st.list) ∧ Still w w3,
    fun _ _ _ _ bL _ _ => bL, ⟨N, init8, T, by rw [← hT.1, hb], rfl, hT, rfl, hi2, hm12⟩, ?_⟩
  rintro h _ hC b bL bC _ w3 ⟨n, st, t, hbL, rfl, hsb, hab, ho, hm⟩
  obtain ⟨gh, ch, he, _, _, _, _⟩ := ho.ownAddr (by omega)
  injection he with he1 he2 he3
  subst he1
  obtain ⟨htl, hbC, hsrc⟩ := hsb
  refine bsel_of (fun hx => ?_) (fun hx => ?_)
  · have hx := of_decide_eq_true hx
    obtain ⟨m, rfl⟩ : ∃ m, n = m + 1 := by
      cases n with
      | zero => omega
      | succ m => exact ⟨m, rfl⟩
    obtain ⟨g, o, rfl, hsr⟩ := hsrc (by omega)
    rw [absorb_succ] at hab
    have e64 : Int.toNat 64 = 64 := rfl
    rw [e64]
    refine ⟨by decide, by omega, (block_spec (hsr.take 64) (by simp; omega) ho).mono ?_⟩
    rintro _ w4 ⟨p4, C4, rfl, ho4, hm4⟩
    refine .inl ⟨_, _, _, rfl, by decide, by omega, ⟨m, _, t.drop 64, by omega, rfl, ⟨by simp; omega, by omega, fun hpos => ?_⟩, hab, ho4.base0, hm.trans hm4 (fun _ h => h) (fun _ _ h => h)⟩, by dsimp only; omega⟩
    rw [if_neg (by omega)]
    refine ⟨g, o + 64, ?_, (hsr.mod hm4 (fun h => h)).drop 64⟩
    simp [add_row]
  · have hx := of_decide_eq_false hx
    obtain rfl : n = 0 := by omega
    rw [absorb_zero] at hab
    rw [← hab]
    clear hab hsrc htl hbL hx
    refine ⟨fun p L C i w5 => ∃ n : Nat, i = (n : Int) ∧ n ≤ 8 ∧ Dig w w5 w3.heap.size p L C (hexUp st.list n) ∧ Owns w5 0 27 1 (.slice (some ⟨gh, 0, none⟩) 8 hC) 8 (uvs st.list) ∧ w3.heap.size ≤ w5.heap.size, fun _ _ _ i _ => (8 - i).toNat,
      ⟨0, rfl, by omega, ⟨Owns.nil _ _ _ _, hm⟩, ho, Nat.le_refl _⟩, ?_⟩
    rintro p L C _ _ w5 ⟨n, rfl, hn, hd, ho5, hsz⟩
    refine bsel_of (fun hx => ?_) (fun hx => ?_)
    · have hx := of_decide_eq_true hx
      have hx' : n < 8 := by omega
      have hl := hexUp_length st.list n
      generalize hxx : st.list.getD n 0 = x
      refine ⟨fun p L C k w1 => ∃ j : Nat, k = 28 - 4 * (j : Int) ∧ j ≤ 8 ∧ Dig w w1 w3.heap.size p L C (hexUp st.list n ++ (hex8 x).take j) ∧ Owns w1 0 27 1 (.slice (some ⟨gh, 0, none⟩) 8 hC) 8 (uvs st.list) ∧ w3.heap.size ≤ w1.heap.size, fun _ _ _ k _ => (k + 8).toNat, ⟨0, rfl, by omega, by simpa using hd, ho5, hsz⟩, ?_⟩
      rintro p1 L1 C1 _ _ w6 ⟨j, rfl, hj, hd1, ho6, hsz6⟩
      refine bsel_of (fun hk => ?_) (fun hk => ?_)
      · have hk := of_decide_eq_true hk
        have hj' : j < 8 := by omega
        have e4 : IntKind.i64.wrap (28 - 4 * (j : Int) - 4) = 28 - 4 * ((j + 1 : Nat) : Int) := by rw [wrap_i64 (by omega) (by omega)]; omega
        have ek : Int.toNat (28 - 4 * (j : Int)) = 28 - 4 * j := by omega
        have hcell : (uvs st.list)[n]? = some (.int .u32 (x.toNat : Int)) := by rw [← hxx]; exact uvs_get (l := st.list) hx'
        rw [ek, e4, Int.toNat_natCast]
        obtain ⟨hh, hh0⟩ := hex_at x (28 - 4 * j)
        have hL := hd1.own.length
        have hL2 : (hex8 x).length = 8 := rfl
        simp only [bc_length, List.length_append, List.length_take, hL2] at hL
        refine ⟨by omega, by omega, _, ho6.at hcell, hk, hh0, _, hh, _, [.int .u8 ((hexd x (28 - 4 * j)).toNat : Int)], (hd1.own.alloc _).base0, rfl, one_one rfl, one_src _ _ _, by omega, by omega, ?_⟩
        intro p2 c2 w7 ho7 hg7 hb7
        have hgh : ∀ k, (Value.slice (some ⟨gh, 0, none⟩) 8 hC).ownBlock = some k → k < w3.heap.size := fun k hk => (ho.lt k hk).2
        refine ⟨⟨j + 1, rfl, by omega, ⟨?_, hd1.still.pushed hd1.own hm.size hg7⟩, ho6.pushedOther hd1.own hgh hg7, ?_⟩, by dsimp only; omega⟩
        · have := hd1.own.pushed hsz6 ho7 hb7
          rw [hex8_get x hj', ← List.append_assoc, bc_append]
          exact this
        · refine Nat.le_trans hsz6 (Nat.le_trans ?_ hg7.size)
          simp
      · have hk := of_decide_eq_false hk
        obtain rfl : j = 8 := by omega
        have e1 : IntKind.i64.wrap ((n : Int) + 1) = ((n + 1 : Nat) : Int) := by rw [wrap_i64 (by omega) (by omega)]; omega
        rw [e1]
        refine ⟨⟨n + 1, rfl, by omega, ?_, ho6, hsz6⟩, by dsimp only; omega⟩
        rw [hexUp_succ (by simpa [S8.list] using hx'), hxx]
        exact hd1
    · have hx := of_decide_eq_false hx
      obtain rfl : n = 8 := by omega
      exact ⟨_, hd.own.bytes, rfl, hd.still⟩
end Go.Proofs.Ytpomdpokbdaahaa
