/- The digest's reference: a block, a text's sum. Conditions: as each theorem names them. -/
import Derived.Test.YtpomdpokbdaahaaDigestRef
namespace Go.Proofs.Ytpomdpokbdaahaa
open Go.RowKit Vc
variable {w : World}

theorem plus_take {s x : S8} {i : Nat} (h : i < 8) : uvs ((s.plus x).list.take (i + 1)) = uvs ((s.plus x).list.take i) ++ [uv (s.list.getD i 0 + x.list.getD i 0)] := by
  match i, h with
  | 0, _ => rfl
  | 1, _ => rfl
  | 2, _ => rfl
  | 3, _ => rfl
  | 4, _ => rfl
  | 5, _ => rfl
  | 6, _ => rfl
  | 7, _ => rfl
theorem Owns.heap {w w' : World} {B : Nat} {e : TypeId} {v : Value} {n : Nat} {xs : List Value} (h : Owns w B e 1 v n xs) (he : w'.heap = w.heap) : Owns w' B e 1 v n xs := h.block (fun k _ => by rw [he])

set_option maxRecDepth 20000 in
set_option maxHeartbeats 2000000 in
theorem block_spec {g o C gh hC Bh : Nat} {blk : List UInt8} {s : S8} (hsrc : Src w g o blk) (hb : blk.length = 64) (hh : Owns w Bh 27 1 (.slice (some ⟨gh, 0, none⟩) 8 hC) 8 (uvs s.list)) :
    Calls Try.prog fn_ref01_block #[.slice (some ⟨gh, 0, none⟩) 8 hC, .slice (some ⟨g, o, none⟩) 64 C] w
    (fun e w' => ∃ p C', e = .returned (.slice p 8 C') ∧ Owns w' w.heap.size 27 1 (.slice p 8 C') 8 (uvs (comp s blk).list) ∧ Still w w') := by
  refine ref01_block_calls _ _ _ _ _ _ _ _ ?_
  refine (schedule_spec hsrc hb).mono ?_
  rintro _ w1 ⟨ps, Cs, rfl, hs1, hm1⟩
  obtain ⟨gs, cs, he, _, _, _, _⟩ := hs1.ownAddr (by omega)
  injection he with he1 he2 he3
  subst he1
  refine .inl ⟨_, _, _, rfl, rounds_spec.mono ?_⟩
  rintro _ w2 ⟨gk, rfl, hgk, hk2, hm2⟩
  have hs2 := hs1.mod hm2 (fun _ _ h => h)
  have hh2 := (hh.mod hm1 (fun _ _ h => h)).mod hm2 (fun _ _ h => h)
  have hm12 : Still w w2 := hm1.trans hm2 (fun _ h => h) (fun _ _ h => h)
  have hk2 : Owns w2 0 27 1 (.slice (some ⟨gk, 0, none⟩) 64 64) 64 (uvs ks) := Owns.of_row hk2 (Nat.zero_le _) rfl (by decide)
  refine .inl ⟨_, _, _, rfl, [], uvs s.list, Owns.nil _ _ _ _, rfl, uvs_one _, ⟨fun _ => ⟨_, rfl, ?_⟩, by decide, by decide, fun p3 c3 w3 ho3 hg3 hb3 => ?_⟩⟩
  · intro j u hu
    rw [add_row, Nat.zero_add]
    exact hh2.cells rfl j u hu
  have hs3 := hs2.grown hg3 (fun _ _ h => by cases h)
  have hh3 := hh2.grown hg3 (fun _ _ h => by cases h)
  have hk3 := hk2.grown hg3 (fun _ _ h => by cases h)
  have hm3 : Still w w3 := hm12.grown hg3 (fun _ h => by cases h)
  have ho3 : Owns w3 0 27 1 (.slice p3 8 c3) 8 (uvs s.list) := ho3
  refine ⟨fun p L C i w4 => ∃ (n : Nat) (x8 : S8), i = (n : Int) ∧ n ≤ 64 ∧ L = 8 ∧ rnds (ks.drop n) ((sched blk).drop n) x8 = rnds ks (sched blk) s ∧ Owns w4 0 27 1 (.slice p 8 C) 8 (uvs x8.list) ∧
      Owns w4 w.heap.size 27 1 (.slice (some ⟨gs, 0, none⟩) 64 Cs) 64 (uvs (sched blk)) ∧ Owns w4 0 27 1 (.slice (some ⟨gk, 0, none⟩) 64 64) 64 (uvs ks) ∧ Owns w4 Bh 27 1 (.slice (some ⟨gh, 0, none⟩) 8 hC) 8 (uvs s.list) ∧ Still w w4,
    fun _ _ _ i _ => (64 - i).toNat, ⟨0, s, rfl, by omega, rfl, rfl, ho3, hs3, hk3, hh3, hm3⟩, ?_⟩
  rintro p4 _ C4 _ _ w4 ⟨n, x8, rfl, hn, rfl, hx8, ho4, hs4, hk4, hh4, hm4⟩
  obtain ⟨ga, ca, he, _, _, _, _⟩ := ho4.ownAddr (by omega)
  injection he with he1 he2 he3
  subst he1
  have e1 : IntKind.i64.wrap ((n : Int) + 1) = ((n + 1 : Nat) : Int) := by rw [wrap_i64 (by omega) (by omega)]; omega
  refine bsel_of (fun hx => ?_) (fun hx => ?_)
  · have hx := of_decide_eq_true hx
    have hx' : n < 64 := by omega
    have hks : n < ks.length := hx'
    rw [rnds_step hx'] at hx8
    simp only [e1, Int.toNat_natCast]
    have A : ∀ {k : Nat} {u : Value} (wq : World), wq.heap = w4.heap → (uvs x8.list)[k]? = some u → wq.cell? ((Addr.mk ga 0 none).add (k * 1)) = some u := fun wq hq hu => (ho4.heap hq).at hu
    refine ⟨fun wq => wq.heap = w4.heap, rfl, by decide, by decide, _, fun wq hq => A (k := 4) wq hq rfl, by decide, by decide, _, fun wq hq => A (k := 4) wq hq rfl, by decide, by decide, _, fun wq hq => A (k := 4) wq hq rfl, ?_⟩
    refine (turn_spec _ 6 (by decide)).mono ?_
    rintro _ _ ⟨rfl, rfl⟩
    refine .inl ⟨_, rfl, rfl, (turn_spec _ 11 (by decide)).mono ?_⟩
    rintro _ _ ⟨rfl, rfl⟩
    refine .inl ⟨_, rfl, rfl, (turn_spec _ 25 (by decide)).mono ?_⟩
    rintro _ _ ⟨rfl, rfl⟩
    refine .inl ⟨_, rfl, by decide, by decide, _, A (k := 4) _ rfl rfl, by decide, by decide, _, A (k := 5) _ rfl rfl, by decide, by decide, _, A (k := 4) _ rfl rfl, by decide, by decide, _, A (k := 6) _ rfl rfl,
      by decide, by decide, _, A (k := 7) _ rfl rfl, by omega, by omega, _, (hk4.heap rfl).at (uvs_get hks), by omega, by omega, _, (hs4.heap rfl).at (uvs_get (by rw [sched_length]; exact hx')),
      fun wq => wq.heap = w4.heap, rfl, by decide, by decide, _, fun wq hq => A (k := 0) wq hq rfl, by decide, by decide, _, fun wq hq => A (k := 0) wq hq rfl, by decide, by decide, _, fun wq hq => A (k := 0) wq hq rfl, ?_⟩
    refine (turn_spec _ 2 (by decide)).mono ?_
    rintro _ _ ⟨rfl, rfl⟩
    refine .inl ⟨_, rfl, rfl, (turn_spec _ 13 (by decide)).mono ?_⟩
    rintro _ _ ⟨rfl, rfl⟩
    refine .inl ⟨_, rfl, rfl, (turn_spec _ 22 (by decide)).mono ?_⟩
    rintro _ _ ⟨rfl, rfl⟩
    refine .inl ⟨_, rfl, by decide, by decide, _, A (k := 0) _ rfl rfl, by decide, by decide, _, A (k := 1) _ rfl rfl, by decide, by decide, _, A (k := 0) _ rfl rfl, by decide, by decide, _, A (k := 2) _ rfl rfl, by decide, by decide, _, A (k := 1) _ rfl rfl, by decide, by decide, _, A (k := 2) _ rfl rfl,
      fun wq => wq.heap = w4.heap, rfl, by decide, by decide, _, fun wq hq => A (k := 0) wq hq rfl, by decide, by decide, _, fun wq hq => A (k := 1) wq hq rfl, by decide, by decide, _, fun wq hq => A (k := 2) wq hq rfl, by decide, by decide, _, fun wq hq => A (k := 3) wq hq rfl,
      by decide, by decide, _, fun wq hq => A (k := 4) wq hq rfl, by decide, by decide, _, fun wq hq => A (k := 5) wq hq rfl, by decide, by decide, _, fun wq hq => A (k := 6) wq hq rfl, ?_⟩
    simp only [b_add, b_xor, b_and, b_not]
    refine ⟨⟨n + 1, _, rfl, by omega, by trivial, hx8, ?_, hs4.drew.drew.drew.drew.drew.drew.drew.drew.drew.drew.drew.drew.alloc _, hk4.drew.drew.drew.drew.drew.drew.drew.drew.drew.drew.drew.drew.alloc _, hh4.drew.drew.drew.drew.drew.drew.drew.drew.drew.drew.drew.drew.alloc _, ?_⟩, by omega⟩
    · exact Owns.of_row (Row.new _ 27 ⟨uvs (rnd x8 (ks.getD n 0) ((sched blk).getD n 0)).list⟩) (Nat.zero_le _) rfl (by decide)
    · exact hm4.drew.drew.drew.drew.drew.drew.drew.drew.drew.drew.drew.drew.alloc _
  · have hx := of_decide_eq_false hx
    obtain rfl : n = 64 := by omega
    have hdone : x8 = rnds ks (sched blk) s := by
      have he : ks.drop 64 = [] := rfl
      rw [← hx8, he, rnds]
      intro a b c d h _
      cases h
    have hcs : comp s blk = s.plus x8 := by rw [hdone]; rfl
    rw [hcs]
    clear hcs hdone hx8
    refine ⟨fun p L C i w5 => ∃ n : Nat, i = (n : Int) ∧ n ≤ 8 ∧ L = n ∧ Owns w5 w4.heap.size 27 1 (.slice p L C) L (uvs ((s.plus x8).list.take n)) ∧ Owns w5 0 27 1 (.slice (some ⟨ga, 0, none⟩) 8 C4) 8 (uvs x8.list) ∧
        Owns w5 Bh 27 1 (.slice (some ⟨gh, 0, none⟩) 8 hC) 8 (uvs s.list) ∧ Still w w5 ∧ w4.heap.size ≤ w5.heap.size, fun _ _ _ i _ => (8 - i).toNat, ⟨0, rfl, by omega, rfl, Owns.nil _ _ _ _, ho4, hh4, hm4, Nat.le_refl _⟩, ?_⟩
    rintro p5 n C5 _ _ w5 ⟨_, rfl, hn, rfl, ho5, ha5, hh5, hm5, hsz⟩
    have e1 : IntKind.i64.wrap ((n : Int) + 1) = ((n + 1 : Nat) : Int) := by rw [wrap_i64 (by omega) (by omega)]; omega
    refine bsel_of (fun hx => ?_) (fun hx => ?_)
    · have hx := of_decide_eq_true hx
      have hx' : n < 8 := by omega
      simp only [e1, Int.toNat_natCast]
      refine ⟨fun wq => wq.heap = w5.heap, rfl, by omega, by omega, _, fun wq hq => (hh5.heap hq).at (uvs_get (l := s.list) hx'), by omega, by omega, _, fun wq hq => (ha5.heap hq).at (uvs_get (l := x8.list) hx'), ?_⟩
      simp only [b_add]
      have hgh : ∀ k, (Value.slice (some ⟨gh, 0, none⟩) 8 hC).ownBlock = some k → k < w4.heap.size := fun k hk => (hh4.lt k hk).2
      have hga : ∀ k, (Value.slice (some ⟨ga, 0, none⟩) 8 C4).ownBlock = some k → k < w4.heap.size := fun k hk => (ho4.lt k hk).2
      refine ⟨_, [uv (s.list.getD n 0 + x8.list.getD n 0)], (ho5.drew.alloc _).base0, rfl, one_one rfl, one_src _ _ _, by omega, by omega, fun p6 c6 w6 ho6 hg6 hb6 => ?_⟩
      have hg6' : ((w5.drew).alloc (.cells #[uv (s.list.getD n 0 + x8.list.getD n 0)] 27)).grownBy w6 (Value.slice p5 n C5).ownBlock := hg6
      refine ⟨⟨n + 1, rfl, by omega, rfl, ?_, ha5.drew.pushedOther ho5.drew hga hg6', hh5.drew.pushedOther ho5.drew hgh hg6', hm5.drew.pushed ho5.drew hm4.size hg6', ?_⟩, by omega⟩
      · have h := ho5.drew.pushed (w2 := w5.drew) hsz ho6 hb6
        rw [plus_take hx']
        exact h
      · have h1 := hg6.size
        have h2 : w5.drew.heap.size ≤ ((w5.drew).alloc (.cells #[uv (s.list.getD n 0 + x8.list.getD n 0)] 27)).heap.size := by simp
        have h3 : w5.drew.heap.size = w5.heap.size := rfl
        have h4 : ((w5.drew).alloc (.cells #[uv (s.list.getD n 0 + x8.list.getD n 0)] 27)).heap.size ≤ w6.heap.size := h1
        omega
    · have hx := of_decide_eq_false hx
      obtain rfl : n = 8 := by omega
      exact ⟨_, _, rfl, ho5.base (fun k hk => Nat.le_trans hm4.size (ho5.lt k hk).1), hm5⟩
end Go.Proofs.Ytpomdpokbdaahaa
