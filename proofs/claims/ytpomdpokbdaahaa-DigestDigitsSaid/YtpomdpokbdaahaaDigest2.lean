/- The digest: its words of rounds, its padding, its digits. Conditions: as each theorem names them. -/
import Derived.Test.YtpomdpokbdaahaaDigest
import Derived.Test.YtpomdpokbdaahaaPush
namespace Go.Proofs.Ytpomdpokbdaahaa
open Go.RowKit Vc
variable {w : World}

theorem cubes_aux (vs : List Value) (h : vs = uvs ks) (R : Ending → World → Prop) (hR : ∀ w', Still w w' → R (.returned (.agg ⟨uvs ks⟩)) w') :
    vs.length = 64 ∧ (∀ v ∈ vs, v.oneCell' = true) ∧ ∃ (g o : Nat) (cur : List Value) (ty : TypeId), Addr.mk w.heap.size 0 none = Addr.mk g o none ∧ Row (w.alloc (.cells ⟨List.replicate 64 (.int .u32 0)⟩ 38)) g ty ⟨cur⟩ ∧ o + vs.length ≤ cur.length ∧
      ∃ v : List Value, v.length = 64 ∧ (∀ (j : Nat) (u : Value), v[j]? = some u → ((w.alloc (.cells ⟨List.replicate 64 (.int .u32 0)⟩ 38)).setRow g ⟨cur.take o ++ (vs ++ cur.drop (o + vs.length))⟩).cell? ((Addr.mk w.heap.size 0 none).add j) = some u) ∧
        R (.returned (.agg ⟨v⟩)) ((w.alloc (.cells ⟨List.replicate 64 (.int .u32 0)⟩ 38)).setRow g ⟨cur.take o ++ (vs ++ cur.drop (o + vs.length))⟩) := by
  subst h
  have hl : (uvs ks).length = 64 := rfl
  have ho := uvs_one ks
  generalize uvs ks = W at hl ho hR ⊢
  refine ⟨hl, ho, w.heap.size, 0, List.replicate 64 (.int .u32 0), 38, rfl, Row.new _ _ _, by simp [hl], W, hl, ?_, hR _ (((Mod.refl _ _).alloc _).setRow (.inr (Nat.le_refl _)) _)⟩
  intro j u hu
  have hr := (Row.new w 38 ⟨List.replicate 64 (.int .u32 0)⟩).setRow ⟨(List.replicate 64 (Value.int .u32 0)).take 0 ++ (W ++ (List.replicate 64 (Value.int .u32 0)).drop (0 + W.length))⟩ (by simp [hl])
  refine hr.at1 ?_
  have hj : j < W.length := (List.getElem?_eq_some_iff.1 hu).1
  simp [List.getElem?_append_left hj, hu]
set_option maxRecDepth 10000 in
theorem cubes_spec : Calls Try.prog fn_digest_cubes #[] w (fun e w' => e = .returned (.agg ⟨uvs ks⟩) ∧ Still w w') := by
  refine digest_cubes_calls _ _ ?_
  unfold vc_digest_cubes
  exact cubes_aux (w := w) _ (by kernel_rfl) (fun e w' => e = .returned (.agg ⟨uvs ks⟩) ∧ Still w w') (fun w' h => ⟨rfl, h⟩)

/-! ### What stands behind a text -/
def lens (n : Nat) : Nat → List UInt8
  | 0 => []
  | i + 1 => lenByte n i :: lens n i
def padAt (n i : Nat) : List UInt8 := 128 :: (List.replicate ((119 - n % 64) % 64 + (8 - i)) 0 ++ lens n i)
theorem lens_length (n : Nat) : ∀ i, (lens n i).length = i
  | 0 => rfl
  | i + 1 => by simp [lens, lens_length n i]
theorem padAt_length {n i : Nat} (h : i ≤ 8) : (padAt n i).length = (119 - n % 64) % 64 + 9 := by simp [padAt, lens_length]; omega
theorem padAt_eight (n : Nat) : padAt n 8 = padding n := by simp [padAt, padding, lens]
theorem padAt_set {n i : Nat} (h : i < 8) : (padAt n i).set ((119 - n % 64) % 64 + 8 - i) (lenByte n i) = padAt n (i + 1) := by
  have e1 : (119 - n % 64) % 64 + (8 - i) = ((119 - n % 64) % 64 + (8 - (i + 1))) + 1 := by omega
  have e2 : (119 - n % 64) % 64 + 8 - i = ((119 - n % 64) % 64 + (8 - (i + 1))) + 1 := by omega
  unfold padAt
  rw [e1, e2]
  generalize (119 - n % 64) % 64 + (8 - (i + 1)) = m
  rw [List.set_cons_succ, List.replicate_succ', List.append_assoc, List.set_append_right _ _ (by simp)]
  simp [lens]
theorem wrap_u8 (n : Nat) : IntKind.u8.wrap (n : Int) = ((UInt8.ofNat n).toNat : Int) := by
  simp only [IntKind.wrap, IntKind.signed, IntKind.bits, UInt8.toNat_ofNat']
  simp
theorem lenByte_int {n i : Nat} (hn : n < 1000000000000) (hi : i < 8) : IntKind.u8.wrap (Int.fdiv (IntKind.i64.wrap ((n : Int) * 8)) (2 ^ (min (8 * i) IntKind.i64.bits))) = ((lenByte n i).toNat : Int) := by
  have e : IntKind.i64.wrap ((n : Int) * 8) = ((n * 8 : Nat) : Int) := by rw [wrap_i64 (by omega) (by omega)]; omega
  have hm : min (8 * i) IntKind.i64.bits = 8 * i := by simp [IntKind.bits]; omega
  rw [e, hm, Int.fdiv_eq_ediv_of_nonneg _ (Int.pow_nonneg (by decide))]
  have h : ((2 : Int) ^ (8 * i)) = ((2 ^ (8 * i) : Nat) : Int) := by push_cast; rfl
  rw [h, ← Int.natCast_ediv, wrap_u8, lenByte, Nat.shiftRight_eq_div_pow]
theorem padding_spec {n : Nat} (hn : n < 1000000000000) : Calls Try.prog fn_digest_padding #[.int .i64 (n : Int)] w (fun e w' => e = .returned (.string (S (padding n))) ∧ Still w w') := by
  refine digest_padding_calls _ _ _ ?_
  have h1 : Int.tmod (n : Int) 64 = ((n % 64 : Nat) : Int) := by rw [Int.tmod_eq_emod_of_nonneg (by omega)]; omega
  have h2 : IntKind.i64.wrap (119 - ((n % 64 : Nat) : Int)) = ((119 - n % 64 : Nat) : Int) := by rw [wrap_i64 (by omega) (by omega)]; omega
  have h3 : Int.tmod ((119 - n % 64 : Nat) : Int) 64 = (((119 - n % 64) % 64 : Nat) : Int) := by rw [Int.tmod_eq_emod_of_nonneg (by omega)]; omega
  have h4 : IntKind.i64.wrap (1 + (((119 - n % 64) % 64 : Nat) : Int)) = (((119 - n % 64) % 64 + 1 : Nat) : Int) := by rw [wrap_i64 (by omega) (by omega)]; omega
  have h5 : IntKind.i64.wrap ((((119 - n % 64) % 64 + 1 : Nat) : Int) + 8) = (((119 - n % 64) % 64 + 9 : Nat) : Int) := by rw [wrap_i64 (by omega) (by omega)]; omega
  unfold vc_digest_padding
  simp only [h1, h2, h3, h4, h5, Int.toNat_natCast]
  have hz : (119 - n % 64) % 64 < 64 := Nat.mod_lt _ (by decide)
  generalize hZ : (119 - n % 64) % 64 = Z at hz
  have hmk : madeCells #[(.int .u8 0)] ((Z + 9) * 1) = ⟨bc (0 :: (List.replicate (Z + 8) 0))⟩ := by
    apply Array.ext'
    apply List.ext_getElem?
    intro j
    have e0 : bc (0 :: (List.replicate (Z + 8) 0)) = List.replicate (Z + 9) (.int .u8 0) := by
      rw [← List.replicate_succ]
      simp [bc]
    rw [e0, List.getElem?_replicate]
    by_cases hj : j < Z + 9
    · simp [madeCells, hj, Nat.mod_one]
    · simp [madeCells, hj]
  rw [hmk]
  have hr0 := Row.new w 5 ⟨bc (0 :: (List.replicate (Z + 8) 0))⟩
  refine ⟨by decide, by decide, by omega, by omega, by omega, by omega, by omega, by omega, hr0.wrAt (k := 0) (by simp), ?_⟩
  refine ⟨fun x w1 => ∃ i : Nat, x = (i : Int) ∧ i ≤ 8 ∧ Row w1 w.heap.size 5 ⟨bc (padAt n i)⟩ ∧ Still w w1, fun x _ => (8 - x).toNat, ⟨0, rfl, by omega, ?_, ((Mod.refl _ _).alloc _).setAt (k := 0) (.inr (Nat.le_refl _)) _⟩, ?_⟩
  · have := hr0.setAt 0 (.int .u8 (((128 : UInt8).toNat : Nat) : Int))
    rw [bc_set] at this
    have e : padAt n 0 = (0 :: (List.replicate (Z + 8) 0)).set 0 128 := by simp [padAt, lens, hZ]
    rw [e]
    exact this
  · rintro _ _ w1 ⟨i, rfl, hi, hr, hm⟩
    have e1 : IntKind.i64.wrap ((i : Int) + 1) = ((i + 1 : Nat) : Int) := by rw [wrap_i64 (by omega) (by omega)]; omega
    have e8 : IntKind.i64.wrap (8 * (i : Int)) = ((8 * i : Nat) : Int) := by rw [wrap_i64 (by omega) (by omega)]; omega
    refine bsel_of (fun hx => ?_) (fun hx => ?_)
    · have hx := of_decide_eq_true hx
      have hx' : i < 8 := by omega
      have ea : IntKind.i64.wrap (((Z + 9 : Nat) : Int) - 1) = ((Z + 8 : Nat) : Int) := by rw [wrap_i64 (by omega) (by omega)]; omega
      have eb : IntKind.i64.wrap (((Z + 8 : Nat) : Int) - (i : Int)) = ((Z + 8 - i : Nat) : Int) := by rw [wrap_i64 (by omega) (by omega)]; omega
      simp only [e1, e8, ea, eb, Int.toNat_natCast, lenByte_int hn hx']
      refine ⟨by omega, by omega, by omega, hr.wrAt (by rw [bc_length, padAt_length hi]; omega), ⟨i + 1, rfl, by omega, ?_, hm.setAt (.inr (Nat.le_refl _)) _ _⟩, by omega⟩
      rw [← padAt_set hx', ← bc_set, hZ]
      exact hr.setAt _ _
    · have hx := of_decide_eq_false hx
      obtain rfl : i = 8 := by omega
      rw [padAt_eight] at hr
      exact ⟨_, hr.bytes (by rw [← padAt_eight, padAt_length (by omega), hZ]), rfl, hm⟩

/-! ### Digits -/
theorem hex_at (x : B) (k : Nat) : hexs[Int.toNat (bits .and .u32 (Int.fdiv (x.toNat : Int) (2 ^ (min k IntKind.u32.bits))) 15)]? = some (hexd x k) ∧ 0 ≤ bits .and .u32 (Int.fdiv (x.toNat : Int) (2 ^ (min k IntKind.u32.bits))) 15 := by
  have h15 : bits .and .u32 ((x >>> k).toNat : Int) 15 = (((x >>> k) &&& 15#32).toNat : Int) := b_and _ 15#32
  rw [b_shr, h15, Int.toNat_natCast]
  have hlt : ((x >>> k) &&& 15#32).toNat < hexs.length := by
    rw [BitVec.toNat_and]
    exact Nat.lt_of_le_of_lt Nat.and_le_right (by decide)
  refine ⟨?_, by omega⟩
  rw [List.getElem?_eq_getElem hlt, hexd, List.getD_eq_getElem?_getD, List.getElem?_eq_getElem hlt]
  rfl
theorem hex8_get (x : B) {j : Nat} (h : j < 8) : (hex8 x).take (j + 1) = (hex8 x).take j ++ [hexd x (28 - 4 * j)] := by
  match j, h with
  | 0, _ => rfl
  | 1, _ => rfl
  | 2, _ => rfl
  | 3, _ => rfl
  | 4, _ => rfl
  | 5, _ => rfl
  | 6, _ => rfl
  | 7, _ => rfl
/-- The digits of the first words, and of some of the next one's. -/
def hexUp (l : List B) (i : Nat) : List UInt8 := (l.take i).flatMap hex8
theorem hexUp_succ {l : List B} {i : Nat} (h : i < l.length) : hexUp l (i + 1) = hexUp l i ++ hex8 (l.getD i 0) := by
  rw [hexUp, List.take_add_one, List.getElem?_eq_getElem h, List.flatMap_append, List.getD_eq_getElem?_getD, List.getElem?_eq_getElem h]
  simp [hexUp]
theorem hexUp_length (l : List B) (i : Nat) : (hexUp l i).length ≤ 8 * i := by
  unfold hexUp
  induction i generalizing l with
  | zero => simp
  | succ i ih => cases l with
    | nil => simp
    | cons a l =>
      have := ih l
      have h8 : (hex8 a).length = 8 := rfl
      simp only [List.take_succ_cons, List.flatMap_cons, List.length_append, h8]
      omega
/-- The state of a loop over digits. -/
structure Dig (w w1 : World) (B : Nat) (p : Option Addr) (L C : Nat) (l : List UInt8) : Prop where
  own : Owns w1 B 5 1 (.slice p L C) L (bc l)
  still : Still w w1
theorem digits_spec (s : S8) : Calls Try.prog fn_digest_state_digits #[.agg ⟨uvs s.list⟩] w (fun e w' => e = .returned (.string (S s.hex)) ∧ Still w w') := by
  refine digest_state_digits_calls _ _ _ _ _ _ _ _ _ _ ?_
  have hr : Row (w.alloc (.cells ⟨uvs s.list⟩ 29)) w.heap.size 29 ⟨uvs s.list⟩ := Row.new _ _ _
  refine ⟨_, _, _, _, _, _, _, _, hr.cellv rfl, hr.cellv rfl, hr.cellv rfl, hr.cellv rfl, hr.cellv rfl, hr.cellv rfl, hr.cellv rfl, hr.cellv rfl, ?_⟩
  refine ⟨fun p L C x w1 => ∃ i : Nat, x = (i : Int) ∧ i ≤ 8 ∧ Dig w w1 w.heap.size p L C (hexUp s.list i), fun _ _ _ x _ => (8 - x).toNat, ⟨0, rfl, by omega, Owns.nil _ _ _ _, (Mod.refl _ _).alloc _⟩, ?_⟩
  rintro p L C _ _ w1 ⟨i, rfl, hi, hd⟩
  refine bsel_of (fun hx => ?_) (fun hx => ?_)
  · have hx := of_decide_eq_true hx
    have hx' : i < 8 := by omega
    have hl := hexUp_length s.list i
    refine ⟨by omega, by omega, ((s.list.getD i 0).toNat : Int), ?_, ?_⟩
    · rw [Int.toNat_natCast, Nat.mul_one]
      exact uvs_get (l := s.list) (by simpa [S8.list] using hx')
    generalize hxx : s.list.getD i 0 = x
    refine ⟨fun p L C k w1 => ∃ j : Nat, k = 28 - 4 * (j : Int) ∧ j ≤ 8 ∧ Dig w w1 w.heap.size p L C (hexUp s.list i ++ (hex8 x).take j), fun _ _ _ k _ => (k + 8).toNat, ⟨0, rfl, by omega, by simpa using hd⟩, ?_⟩
    rintro p1 L1 C1 _ _ w2 ⟨j, rfl, hj, hd1⟩
    refine bsel_of (fun hk => ?_) (fun hk => ?_)
    · have hk := of_decide_eq_true hk
      have hj' : j < 8 := by omega
      have e4 : IntKind.i64.wrap (28 - 4 * (j : Int) - 4) = 28 - 4 * ((j + 1 : Nat) : Int) := by rw [wrap_i64 (by omega) (by omega)]; omega
      have ek : Int.toNat (28 - 4 * (j : Int)) = 28 - 4 * j := by omega
      rw [ek, e4]
      obtain ⟨hh, hh0⟩ := hex_at x (28 - 4 * j)
      have hL := hd1.own.length
      have hL2 : (hex8 x).length = 8 := rfl
      simp only [bc_length, List.length_append, List.length_take, hL2] at hL
      refine ⟨hk, hh0, _, hh, _, [.int .u8 ((hexd x (28 - 4 * j)).toNat : Int)], (hd1.own.alloc _).base0, rfl, one_one rfl, one_src _ _ _, by omega, by omega, ?_⟩
      intro p2 c2 w3 ho3 hg3 hb3
      refine ⟨⟨j + 1, rfl, by omega, ?_, hd1.still.pushed hd1.own (Nat.le_refl _) hg3⟩, by dsimp only; omega⟩
      have := hd1.own.pushed hd1.still.size ho3 hb3
      rw [hex8_get x hj', ← List.append_assoc, bc_append]
      exact this
    · have hk := of_decide_eq_false hk
      obtain rfl : j = 8 := by omega
      have e1 : IntKind.i64.wrap ((i : Int) + 1) = ((i + 1 : Nat) : Int) := by rw [wrap_i64 (by omega) (by omega)]; omega
      rw [e1]
      refine ⟨⟨i + 1, rfl, by omega, ?_⟩, by dsimp only; omega⟩
      rw [hexUp_succ (by simpa [S8.list] using hx'), hxx]
      exact hd1
  · have hx := of_decide_eq_false hx
    obtain rfl : i = 8 := by omega
    exact ⟨_, hd.own.bytes, rfl, hd.still⟩
end Go.Proofs.Ytpomdpokbdaahaa
