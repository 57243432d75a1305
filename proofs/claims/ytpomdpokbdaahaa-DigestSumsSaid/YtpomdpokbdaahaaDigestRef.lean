/- The digest's reference, function for function: what each answers. Conditions: as each theorem names them. -/
import Derived.Test.YtpomdpokbdaahaaDigest4
namespace Go.Proofs.Ytpomdpokbdaahaa
open Go.RowKit Vc
variable {w : World}

theorem Owns.at {w : World} {B : Nat} {e : TypeId} {g n c k : Nat} {xs : List Value} {u : Value} (h : Owns w B e 1 (.slice (some ⟨g, 0, none⟩) n c) n xs) (hu : xs[k]? = some u) : w.cell? ((Addr.mk g 0 none).add (k * 1)) = some u := by
  rw [add_row, Nat.zero_add, Nat.mul_one]
  exact h.cells rfl _ _ hu
theorem Owns.of_row {w : World} {B g : Nat} {e : TypeId} {xs : List Value} {n : Nat} (h : Row w g e ⟨xs⟩) (hB : B ≤ g) (hn : xs.length = n) (hm : n ≤ maxLen) : Owns w B e 1 (.slice (some ⟨g, 0, none⟩) n n) n xs :=
  ⟨by omega, .inr ⟨g, n, ⟨xs⟩, rfl, hB, h, Nat.le_refl _, hm, by simp; omega, by simp [← hn]⟩⟩
theorem Owns.pushedOther {w2 w7 : World} {B B1 L L1 : Nat} {e e1 : TypeId} {v v1 : Value} {xs ys : List Value} {size size1 : Nat} (h : Owns w2 B1 e1 size1 v1 L1 ys) (ho : Owns w2 B e size v L xs)
    (hB : ∀ k, v1.ownBlock = some k → k < B) {o : Obj} (hg : (w2.alloc o).grownBy w7 v.ownBlock) : Owns w7 B1 e1 size1 v1 L1 ys :=
  (h.alloc o).grown hg fun k hk e => by have := hB k hk; have := (ho.lt k e.symm).1; omega

theorem turn_spec (x : B) (n : Nat) (h1 : n ≤ 32) : Calls Try.prog fn_ref01_turn #[uv x, .int .i64 (n : Int)] w (fun e w' => e = .returned (uv (rotr x n)) ∧ w' = w.drew) := by
  refine ref01_turn_calls _ _ _ _ ?_
  unfold vc_ref01_turn
  have e : IntKind.i64.wrap (32 - (n : Int)) = ((32 - n : Nat) : Int) := by rw [wrap_i64 (by omega) (by omega)]; omega
  simp only [e, Int.toNat_natCast, b_shl, b_shr, b_or]
  exact ⟨by omega, by omega, rfl, trivial⟩
theorem initial_spec : Calls Try.prog fn_ref01_initial #[] w (fun e w' => ∃ g, e = .returned (.slice (some ⟨g, 0, none⟩) 8 8) ∧ w.heap.size ≤ g ∧ Row w' g 27 ⟨uvs init8.list⟩ ∧ Still w w') := by
  refine ref01_initial_calls _ _ ?_
  exact ⟨_, rfl, Nat.le_refl _, Row.new w 27 ⟨uvs init8.list⟩, (Mod.refl _ _).alloc _⟩
set_option maxRecDepth 10000 in
theorem rounds_spec : Calls Try.prog fn_ref01_rounds #[] w (fun e w' => ∃ g, e = .returned (.slice (some ⟨g, 0, none⟩) 64 64) ∧ w.heap.size ≤ g ∧ Row w' g 27 ⟨uvs ks⟩ ∧ Still w w') := by
  refine ref01_rounds_calls _ _ ?_
  exact ⟨_, rfl, Nat.le_refl _, Row.new w 27 ⟨uvs ks⟩, (Mod.refl _ _).alloc _⟩

theorem lens_take (n : Nat) {j : Nat} (h : j < 8) : (lens n 8).take (j + 1) = (lens n 8).take j ++ [lenByte n (7 - j)] := by
  match j, h with
  | 0, _ => rfl
  | 1, _ => rfl
  | 2, _ => rfl
  | 3, _ => rfl
  | 4, _ => rfl
  | 5, _ => rfl
  | 6, _ => rfl
  | 7, _ => rfl
theorem padded_spec (s : List UInt8) (hs : s.length < 1000000) : Calls Try.prog fn_ref01_padded #[.string (S s)] w
    (fun e w' => ∃ p L C, e = .returned (.slice p L C) ∧ Owns w' w.heap.size 5 1 (.slice p L C) L (bc (s ++ padding s.length)) ∧ Still w w') := by
  refine ref01_padded_calls _ _ _ ?_
  refine ⟨by omega, fun c w1 ho1 hg1 => ?_⟩
  have ho1 : Owns w1 w.heap.size 5 1 (.slice (some ⟨w.heap.size, 0, none⟩) s.length c) s.length (bc s) := ho1.base (fun k hk => by
    obtain rfl := Option.some.inj hk
    exact Nat.le_refl _)
  have hm1 : Still w w1 := (Mod.refl _ _).grown hg1 (fun _ h => by cases h)
  refine ⟨_, [.int .u8 (((128 : UInt8).toNat : Nat) : Int)], (ho1.alloc _).base0, rfl, one_one rfl, one_src _ _ _, by omega, by omega, fun p2 c2 w2 ho2 hg2 hb2 => ?_⟩
  have hm2 : Still w w2 := hm1.pushed ho1 (Nat.le_refl _) hg2
  have ho2 : Owns w2 w.heap.size 5 1 (.slice p2 (s.length + 1) c2) (s.length + 1) (bc (s ++ [128])) := by
    rw [bc_append]
    exact ho1.pushed hm1.size ho2 hb2
  generalize hZ : (119 - s.length % 64) % 64 = Z
  refine ⟨fun p L C w3 => ∃ z, L = s.length + 1 + z ∧ z ≤ Z ∧ Owns w3 w.heap.size 5 1 (.slice p L C) L (bc (s ++ 128 :: List.replicate z 0)) ∧ Still w w3, fun _ L _ _ => 1000100 - L, ⟨0, rfl, by omega, ho2, hm2⟩, ?_⟩
  rintro p L C _ w3 ⟨z, rfl, hz, ho3, hm3⟩
  have ht : Int.tmod (((s.length + 1 + z : Nat) : Int)) 64 = (((s.length + 1 + z) % 64 : Nat) : Int) := by rw [Int.tmod_eq_emod_of_nonneg (by omega)]; omega
  rw [ht]
  refine ⟨by decide, bsel_of (fun hx => ?_) (fun hx => ?_)⟩
  · have hx : ¬ (s.length + 1 + z) % 64 = 56 := by
      intro e
      rw [e] at hx
      exact absurd hx (by decide)
    refine ⟨_, [.int .u8 (((0 : UInt8).toNat : Nat) : Int)], (ho3.alloc _).base0, rfl, one_one rfl, one_src _ _ _, by omega, by omega, fun p4 c4 w4 ho4 hg4 hb4 => ?_⟩
    refine ⟨⟨z + 1, by omega, by omega, ?_, hm3.pushed ho3 (Nat.le_refl _) hg4⟩, by dsimp only; omega⟩
    have h := ho3.pushed hm3.size ho4 hb4
    have e : s ++ 128 :: List.replicate (z + 1) 0 = (s ++ 128 :: List.replicate z 0) ++ [0] := by rw [List.replicate_succ']; simp
    rw [e, bc_append]
    exact h
  · have hx : (s.length + 1 + z) % 64 = 56 := by
      have : decide ((((s.length + 1 + z) % 64 : Nat) : Int) = 56) = true := by simpa using hx
      have := of_decide_eq_true this
      omega
    obtain rfl : z = Z := by omega
    refine ⟨fun p L C i w5 => ∃ j : Nat, i = 7 - (j : Int) ∧ j ≤ 8 ∧ L = s.length + 1 + z + j ∧ Owns w5 w.heap.size 5 1 (.slice p L C) L (bc (s ++ 128 :: List.replicate z 0 ++ (lens s.length 8).take j)) ∧ Still w w5,
      fun _ _ _ i _ => (8 + i).toNat, ⟨0, rfl, by omega, rfl, by simpa using ho3, hm3⟩, ?_⟩
    rintro p5 _ C5 _ _ w5 ⟨j, rfl, hj, rfl, ho5, hm5⟩
    refine bsel_of (fun hi => ?_) (fun hi => ?_)
    · have hi := of_decide_eq_true hi
      have hj' : j < 8 := by omega
      have e8 : IntKind.i64.wrap (8 * (7 - (j : Int))) = ((8 * (7 - j) : Nat) : Int) := by rw [wrap_i64 (by omega) (by omega)]; omega
      have e1 : IntKind.i64.wrap (7 - (j : Int) - 1) = 7 - ((j + 1 : Nat) : Int) := by rw [wrap_i64 (by omega) (by omega)]; omega
      simp only [e8, e1, Int.toNat_natCast, lenByte_int (n := s.length) (i := 7 - j) (by omega) (by omega)]
      refine ⟨by omega, _, [.int .u8 ((lenByte s.length (7 - j)).toNat : Int)], (ho5.alloc _).base0, rfl, one_one rfl, one_src _ _ _, by omega, by omega, fun p6 c6 w6 ho6 hg6 hb6 => ?_⟩
      refine ⟨⟨j + 1, rfl, by omega, by omega, ?_, hm5.pushed ho5 (Nat.le_refl _) hg6⟩, by omega⟩
      have h := ho5.pushed hm5.size ho6 hb6
      rw [lens_take _ hj', ← List.append_assoc, bc_append]
      exact h
    · have hi := of_decide_eq_false hi
      obtain rfl : j = 8 := by omega
      refine ⟨_, _, _, rfl, ?_, hm5⟩
      have e : s ++ padding s.length = s ++ 128 :: List.replicate z 0 ++ (lens s.length 8).take 8 := by
        rw [padding, hZ]
        simp [lens]
      rw [e]
      exact ho5

/-- A block's bytes, wherever they stand in a row. -/
structure Src (w : World) (g o : Nat) (blk : List UInt8) : Prop where
  row : ∃ t cs, Row w g t cs ∧ ∀ (j : Nat) (x : UInt8), blk[j]? = some x → cs[o + j]? = some (.int .u8 (x.toNat : Int))
theorem Src.lt {g o : Nat} {blk : List UInt8} (h : Src w g o blk) : g < w.heap.size := by
  obtain ⟨t, cs, hr, _⟩ := h.row
  exact hr.lt
theorem Src.drew {g o : Nat} {blk : List UInt8} (h : Src w g o blk) : Src w.drew g o blk := ⟨h.row⟩
theorem Src.mod {w' : World} {T : Nat → Prop} {g o : Nat} {blk : List UInt8} (h : Src w g o blk) (hm : Mod T w w') (hg : ¬ T g) : Src w' g o blk := by
  obtain ⟨t, cs, hr, hc⟩ := h.row
  exact ⟨t, cs, hr.mod hm hg, hc⟩
theorem Src.at {g o : Nat} {blk : List UInt8} (h : Src w g o blk) {k : Nat} (hk : k < blk.length) : w.cell? ((Addr.mk g o none).add (k * 1)) = some (.int .u8 ((blk.getD k 0).toNat : Int)) := by
  obtain ⟨t, cs, hr, hc⟩ := h.row
  rw [add_row, Nat.mul_one]
  refine hr.cellv (hc k _ ?_)
  rw [List.getD_eq_getElem?_getD, List.getElem?_eq_getElem hk]
  rfl

set_option maxHeartbeats 1000000 in
theorem schedule_spec {g o C : Nat} {blk : List UInt8} (hs : Src w g o blk) (hb : blk.length = 64) : Calls Try.prog fn_ref01_schedule #[.slice (some ⟨g, o, none⟩) 64 C] w
    (fun e w' => ∃ p C', e = .returned (.slice p 64 C') ∧ Owns w' w.heap.size 27 1 (.slice p 64 C') 64 (uvs (sched blk)) ∧ Still w w') := by
  refine ref01_schedule_calls _ _ _ _ _ ?_
  refine ⟨fun p L C i w2 => ∃ l : List B, i = (l.length : Int) ∧ L = l.length ∧ l.length ≤ 16 ∧ grow blk (64 - l.length) l = sched blk ∧ Owns w2 w.heap.size 27 1 (.slice p L C) L (uvs l) ∧ Src w2 g o blk ∧ Still w w2, fun _ _ _ i _ => (16 - i).toNat,
    ⟨[], rfl, rfl, by simp, rfl, Owns.nil _ _ _ _, hs, Mod.refl _ _⟩, ?_⟩
  rintro p _ C1 _ _ w2 ⟨l, rfl, rfl, hl, hg, ho, hsr, hm⟩
  have e1 : IntKind.i64.wrap ((l.length : Int) + 1) = ((l.length + 1 : Nat) : Int) := by rw [wrap_i64 (by omega) (by omega)]; omega
  refine bsel_of (fun hx => ?_) (fun hx => ?_)
  · have hx := of_decide_eq_true hx
    have hx' : l.length < 16 := by omega
    have hgs : grow blk (64 - (l.length + 1)) (l ++ [wnext blk l]) = sched blk := by
      rw [← hg, show 64 - l.length = (64 - (l.length + 1)) + 1 by omega]
      rfl
    have hwn : wnext blk l = wordAt blk l.length := by unfold wnext; rw [if_pos (by omega)]
    have w4 : IntKind.i64.wrap (4 * (l.length : Int)) = ((4 * l.length : Nat) : Int) := by rw [wrap_i64 (by omega) (by omega)]; omega
    have w41 : IntKind.i64.wrap (((4 * l.length : Nat) : Int) + 1) = ((4 * l.length + 1 : Nat) : Int) := by rw [wrap_i64 (by omega) (by omega)]; omega
    have w42 : IntKind.i64.wrap (((4 * l.length : Nat) : Int) + 2) = ((4 * l.length + 2 : Nat) : Int) := by rw [wrap_i64 (by omega) (by omega)]; omega
    have w43 : IntKind.i64.wrap (((4 * l.length : Nat) : Int) + 3) = ((4 * l.length + 3 : Nat) : Int) := by rw [wrap_i64 (by omega) (by omega)]; omega
    simp only [w4, w41, w42, w43, e1, Int.toNat_natCast]
    refine ⟨fun wq => Src wq g o blk, hsr.drew, by omega, by omega, _, fun wq hq => hq.at (by omega), by decide, by omega, by omega, _, fun wq hq => hq.at (by omega), by decide, by omega, by omega, _, fun wq hq => hq.at (by omega), by decide, by omega, by omega, _, fun wq hq => hq.at (by omega), ?_⟩
    simp only [b_byte, b_shl, b_or]
    refine ⟨_, [uv (wordAt blk l.length)], (ho.drew.alloc _).base0, rfl, one_one rfl, one_src _ _ _, by omega, by omega, fun p6 c6 w6 ho6 hg6 hb6 => ?_⟩
    have hlt := hs.lt
    refine ⟨⟨l ++ [wordAt blk l.length], by simp, by simp, by simp; omega, ?_, ?_, ?_, hm.drew.pushed ho.drew (Nat.le_refl _) hg6⟩, by omega⟩
    · rw [hwn] at hgs
      simpa using hgs
    · have h := ho.drew.pushed (w2 := w2.drew) hm.size ho6 hb6
      simpa [uvs] using h
    · obtain ⟨t, cs, hr, hc⟩ := hsr.row
      exact ⟨t, cs, hr.drew.pushed ho.drew hlt hg6, hc⟩
  · have hx := of_decide_eq_false hx
    have hx' : l.length = 16 := by omega
    refine ⟨fun p L C i w2 => ∃ l : List B, i = (l.length : Int) ∧ L = l.length ∧ 16 ≤ l.length ∧ l.length ≤ 64 ∧ grow blk (64 - l.length) l = sched blk ∧ Owns w2 w.heap.size 27 1 (.slice p L C) L (uvs l) ∧ Still w w2, fun _ _ _ i _ => (64 - i).toNat,
      ⟨l, by omega, rfl, by omega, by omega, hg, ho, hm⟩, ?_⟩
    clear hx hx' hg ho hsr hm e1 hl
    rintro p _ C1 _ _ w2 ⟨l, rfl, rfl, h16, hl, hg, ho, hm⟩
    have e1 : IntKind.i64.wrap ((l.length : Int) + 1) = ((l.length + 1 : Nat) : Int) := by rw [wrap_i64 (by omega) (by omega)]; omega
    refine bsel_of (fun hx => ?_) (fun hx => ?_)
    · have hx := of_decide_eq_true hx
      have hx' : l.length < 64 := by omega
      have hgs : grow blk (64 - (l.length + 1)) (l ++ [wnext blk l]) = sched blk := by
        rw [← hg, show 64 - l.length = (64 - (l.length + 1)) + 1 by omega]
        rfl
      have e15 : IntKind.i64.wrap ((l.length : Int) - 15) = ((l.length - 15 : Nat) : Int) := by rw [wrap_i64 (by omega) (by omega)]; omega
      have e2 : IntKind.i64.wrap ((l.length : Int) - 2) = ((l.length - 2 : Nat) : Int) := by rw [wrap_i64 (by omega) (by omega)]; omega
      have e16 : IntKind.i64.wrap ((l.length : Int) - 16) = ((l.length - 16 : Nat) : Int) := by rw [wrap_i64 (by omega) (by omega)]; omega
      have e7 : IntKind.i64.wrap ((l.length : Int) - 7) = ((l.length - 7 : Nat) : Int) := by rw [wrap_i64 (by omega) (by omega)]; omega
      obtain ⟨ga, ca, he, hga, hgl, hca, _⟩ := ho.ownAddr (by omega)
      injection he with he1 he2 he3
      subst he1
      subst he3
      simp only [e15, e2, e16, e7, e1, Int.toNat_natCast]
      have O : ∀ wq : World, wq.heap = w2.heap → Owns wq w.heap.size 27 1 (.slice (some ⟨ga, 0, none⟩) l.length C1) l.length (uvs l) := fun wq hq => ho.block (fun k _ => by rw [hq])
      refine ⟨by omega, by omega, _, ho.at (uvs_get (by omega)), by omega, by omega, _, ho.at (uvs_get (by omega)), ?_⟩
      refine (turn_spec _ 7 (by decide)).mono ?_
      rintro _ _ ⟨rfl, rfl⟩
      refine .inl ⟨_, rfl, (turn_spec _ 18 (by decide)).mono ?_⟩
      rintro _ _ ⟨rfl, rfl⟩
      refine .inl ⟨_, rfl, by decide, (turn_spec _ 17 (by decide)).mono ?_⟩
      rintro _ _ ⟨rfl, rfl⟩
      refine .inl ⟨_, rfl, (turn_spec _ 19 (by decide)).mono ?_⟩
      rintro _ _ ⟨rfl, rfl⟩
      have o9 := ho.drew.drew.drew.drew.drew.drew
      have m9 := hm.drew.drew.drew.drew.drew.drew
      refine .inl ⟨_, rfl, by decide, fun wq => Owns wq w.heap.size 27 1 (.slice (some ⟨ga, 0, none⟩) l.length C1) l.length (uvs l), o9, by omega, by omega, _, fun wq hq => hq.at (uvs_get (by omega)), by omega, by omega, _, fun wq hq => hq.at (uvs_get (by omega)), ?_⟩
      simp only [b_add, b_xor, b_shr]
      refine ⟨_, [uv (wnext blk l)], (o9.alloc _).base0, rfl, one_one rfl, ?_, by omega, by omega, fun p6 c6 w6 ho6 hg6 hb6 => ?_⟩
      · have hwn : wnext blk l = l.getD (l.length - 16) 0 + sig0 (l.getD (l.length - 15) 0) + l.getD (l.length - 7) 0 + sig1 (l.getD (l.length - 2) 0) := by unfold wnext; rw [if_neg (by omega)]
        rw [hwn]
        exact one_src _ _ _
      · refine ⟨⟨l ++ [wnext blk l], by simp, by simp, by simp; omega, by simp; omega, by simpa using hgs, ?_, m9.pushed o9 (Nat.le_refl _) hg6⟩, by omega⟩
        have h := o9.pushed m9.size ho6 hb6
        simpa [uvs] using h
    · have hx := of_decide_eq_false hx
      have hx' : l.length = 64 := by omega
      rw [hx', Nat.sub_self, grow] at hg
      rw [hx', hg] at ho
      rw [hx']
      exact ⟨_, _, rfl, ho, hm⟩
end Go.Proofs.Ytpomdpokbdaahaa
