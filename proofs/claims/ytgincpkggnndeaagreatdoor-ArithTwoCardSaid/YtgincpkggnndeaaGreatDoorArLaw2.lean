/- Expressions of numbers: the laws of two numbers, of deep ones, of numbers, of skips, of sets. Conditions: the library's tables and errors lie as its text lays them (Env). -/
import Derived.Test.YtgincpkggnndeaaGreatDoorArLaw
namespace Go.Proofs.YtgincpkggnndeaaGreatDoor
open Go.RowKit Vc
variable {w : World}

theorem itoa_len {n : Int} (h : I64 n) : (Lib.itoa n).length ≤ 21 := by
  have := Lib.itoa_length_le n h.1 (by have := h.2; omega)
  exact this
def ops16 : List Txt := [[43], [45], [42], [47], [37], [60, 60], [62, 62], [38], [124], [94], [61, 61], [33, 61], [60], [60, 61], [62], [62, 61]]
theorem read16 : ∀ i, i < 16 → ps 200 (.expr 1) (trim ([97, 32] ++ ops16.getD i [] ++ [32, 98])) = some (.ok (.bin (ops16.getD i []) (.nam [97]) (.nam [98]), []))
  | 0, _ => by kernel_rfl
  | 1, _ => by kernel_rfl
  | 2, _ => by kernel_rfl
  | 3, _ => by kernel_rfl
  | 4, _ => by kernel_rfl
  | 5, _ => by kernel_rfl
  | 6, _ => by kernel_rfl
  | 7, _ => by kernel_rfl
  | 8, _ => by kernel_rfl
  | 9, _ => by kernel_rfl
  | 10, _ => by kernel_rfl
  | 11, _ => by kernel_rfl
  | 12, _ => by kernel_rfl
  | 13, _ => by kernel_rfl
  | 14, _ => by kernel_rfl
  | 15, _ => by kernel_rfl
  | n + 16, h => by omega
def vr (x y : Txt) : Vr := ⟨x, y, false, false⟩
theorem getW_a {a : Int} (h : I64 a) (hm : a ≠ -9223372036854775808) (V : List Vr) : getW [97] (vr [97] (Lib.itoa a) :: V) = .ok a := by
  have hg : getD [97] (vr [97] (Lib.itoa a) :: V) = vr [97] (Lib.itoa a) := by
    unfold getD
    simp only [get, vr]
    rw [if_neg (by decide), if_pos trivial]
    rfl
  unfold getW
  rw [hg]
  show (match worthV (Lib.itoa a) with
    | some n => Pr.ok n
    | none => .bad 130) = _
  rw [worth_itoa h hm]
theorem getW_b {b : Int} (h : I64 b) (hm : b ≠ -9223372036854775808) (x : Txt) (V : List Vr) : getW [98] (vr [97] x :: vr [98] (Lib.itoa b) :: V) = .ok b := by
  have hg : getD [98] (vr [97] x :: vr [98] (Lib.itoa b) :: V) = vr [98] (Lib.itoa b) := by
    unfold getD
    simp only [get, vr]
    rw [if_pos (by decide), if_neg (by decide), if_pos trivial]
    rfl
  unfold getW
  rw [hg]
  show (match worthV (Lib.itoa b) with
    | some n => Pr.ok n
    | none => .bad 130) = _
  rw [worth_itoa h hm]
theorem evalR_two {a b : Int} (ha : I64 a) (hb : I64 b) (ham : a ≠ -9223372036854775808) (hbm : b ≠ -9223372036854775808) {i : Nat} (hi : i < 16) :
    evalR ([97, 32] ++ ops16.getD i [] ++ [32, 98]) [vr [97] (Lib.itoa a), vr [98] (Lib.itoa b)] = andP (reck (ops16.getD i []) a b) fun z => .ok (z, [vr [97] (Lib.itoa a), vr [98] (Lib.itoa b)]) := by
  have h0 : ∀ i, i < 16 → trim ([97, 32] ++ ops16.getD i [] ++ [32, 98]) ≠ [] := by decide
  have hn : ∀ i, i < 16 → ops16.getD i [] ≠ [124, 124] ∧ ops16.getD i [] ≠ [38, 38] := by decide
  rw [evalR_of (h0 i hi) (read16 i hi) rfl]
  simp only [ev]
  rw [getW_a ha ham]
  simp only [andP]
  rw [if_neg (hn i hi).1, if_neg (hn i hi).2, getW_b hb hbm]
theorem ops16_bin {i : Nat} (hi : i < 16) : ops16.getD i [] ∈ binOps := by
  have : ∀ i, i < 16 → ops16.getD i [] ∈ binOps := by decide
  exact this i hi
theorem fit2 {x y : Txt} {n : Nat} (hx : x.length ≤ 1000) (hy : y.length ≤ 1000) (hn : n < 899990) : Fit [vr [97] x, vr [98] y] n := by
  refine ⟨rise_ab _ _ _ _ _ _, ?_, by simp only [List.length_cons, List.length_nil]; omega⟩
  intro v hv
  simp only [List.mem_cons, List.not_mem_nil, or_false] at hv
  rcases hv with rfl | rfl <;> (simp only [vr]; omega)
theorem fit1 {x s : Txt} {n : Nat} (hx : x.length ≤ 140737488355328) (hn : n < 899990) : Fit [vr s x] n := by
  refine ⟨List.pairwise_singleton _ _, ?_, by simp only [List.length_cons, List.length_nil]; omega⟩
  intro v hv
  simp only [List.mem_cons, List.not_mem_nil, or_false] at hv
  subst hv
  exact hx
set_option maxHeartbeats 1000000 in
theorem ArithTwo_spec (he : Env w) {a b : Int} (ha : I64 a) (hb : I64 b) {op : Nat} (hop : op < 256) : Calls Tryz.prog fn_law13_ArithTwo #[.int .i64 a, .int .i64 b, .int .u8 (op : Int)] w (fun e w' => e = .returned (.bool true) ∧ Still w w') := by
  refine law13_ArithTwo_calls _ _ _ _ _ ?_
  refine allocK fun w1 r1 s1 _ => ?_
  have r1 : Row w1 w.heap.size _ ⟨strs ops16⟩ := r1
  have ea := u8_tmod hop 16
  have la : op % 16 < 16 := Nat.mod_lt _ (by decide)
  refine ⟨by decide, ?_⟩
  rw [show Int.tmod (IntKind.i64.wrap (op : Int)) 16 = ((op % 16 : Nat) : Int) from ea]
  refine ⟨by omega, by omega, ops16.getD (op % 16) [], ?_, ?_⟩
  · rw [Int.toNat_natCast, Nat.mul_one, add_row, Nat.zero_add]
    exact r1.lget (strs_getD (l := ops16) la)
  have lo : (ops16.getD (op % 16) []).length ≤ 2 := getD_len (by decide)
  refine (rdigits_spec a ha).mono ?_
  rintro _ w2 ⟨rfl, s2⟩
  refine .inl ⟨_, rfl, (rdigits_spec b hb).mono ?_⟩
  rintro _ w3 ⟨rfl, s3⟩
  refine .inl ⟨_, rfl, allocK fun w4 r4 s4 _ => ?_⟩
  have hs4 := ((s1.trans s2).trans s3).trans s4
  have aw : Calls Tryz.prog fn_law13_awake #[] w4 (fun ed w5 => (∃ r : Bool, ed = .returned (.bool r) ∧ (Ending.returned (.bool r) = .returned (.bool true) ∧ Still w w5)) ∨ ∃ ch, ed = .panicked ch ∧ (Ending.panicked ch = .returned (.bool true) ∧ Still w w5)) := by
    refine (lawake_spec (he.still hs4)).mono ?_
    rintro _ w5 ⟨rfl, s5⟩
    exact .inl ⟨_, rfl, rfl, hs4.trans s5⟩
  refine bsel_of (fun _ => aw) (fun ham => bsel_of (fun _ => aw) (fun hbm => ?_))
  have ham := of_decide_eq_false ham
  have hbm := of_decide_eq_false hbm
  have hv : VarAt w4 (some ⟨w3.heap.size, 0, none⟩) 2 2 [vr [97] (Lib.itoa a), vr [98] (Lib.itoa b)] := VarAt.row (l := [vr [97] (Lib.itoa a), vr [98] (Lib.itoa b)]) r4
  have ia := itoa_len ha
  have ib := itoa_len hb
  have lt : ([97, 32] ++ ops16.getD (op % 16) [] ++ [32, 98] : Txt).length ≤ 6 := by simp only [List.length_append, List.length_cons, List.length_nil]; omega
  refine ⟨by simp only [List.length_cons, List.length_nil]; omega, by simp only [List.length_append, List.length_cons, List.length_nil]; omega, (peval (he.still hs4) hv (fit2 (by omega) (by omega) (by omega)) (by omega)).mono ?_⟩
  intro e w7 h7
  rw [evalR_two ha hb ham hbm la] at h7
  have hr : ∀ w7 : World, Calls Tryz.prog fn_ref13_Two #[.string (S (ops16.getD (op % 16) [])), .int .i64 a, .int .i64 b] w7 (fun e w' => RAns (reck (ops16.getD (op % 16) []) a b) e ∧ w' = w7) := by
    intro w7
    have := rtwo_spec (w := w7) (.inl (ops16_bin la)) a b
    rwa [norm_bin (ops16_bin la)] at this
  generalize ops16.getD (op % 16) [] = o at *
  cases hk : reck o a b with
  | ok z =>
    rw [hk] at h7 hr
    obtain ⟨⟨_, q, D, rfl, hv7⟩, s7⟩ := h7
    refine .inl ⟨_, _, _, _, _, rfl, (hr w7).mono ?_⟩
    rintro _ w8 ⟨rfl, rfl⟩
    refine .inl ⟨_, _, rfl, (lawake_spec (he.still (hs4.trans s7))).mono ?_⟩
    rintro _ w9 ⟨rfl, s9⟩
    refine .inl ⟨_, rfl, bsel_of (fun _ => bsel_of (fun _ => bsel_of (fun hx => absurd hx (by decide)) (fun _ => ⟨?_, (hs4.trans s7).trans s9⟩)) (fun hx => absurd rfl (of_decide_eq_false hx))) (fun hx => absurd hx (by decide))⟩
    rw [decide_eq_true rfl]
  | bad k =>
    have hk0 := reck_bad hk
    rw [hk] at h7 hr
    obtain ⟨rfl, s7⟩ := h7
    refine .inl ⟨_, _, _, _, _, rfl, (hr w7).mono ?_⟩
    rintro _ w8 ⟨rfl, rfl⟩
    refine .inl ⟨_, _, rfl, (lawake_spec (he.still (hs4.trans s7))).mono ?_⟩
    rintro _ w9 ⟨rfl, s9⟩
    exact .inl ⟨_, rfl, bsel_of (fun _ => bsel_of (fun _ => bsel_of (fun _ => ⟨rfl, (hs4.trans s7).trans s9⟩) (fun hx => absurd (nd hx) (by omega))) (fun hx => absurd rfl (of_decide_eq_false hx))) (fun hx => absurd hx (by decide))⟩
theorem ArithDeep_spec (he : Env w) {n kind : Nat} (hn : n < 256) (hk : kind < 256) : Calls Tryz.prog fn_law13_ArithDeep #[.int .u8 (n : Int), .int .u8 (kind : Int)] w (fun e w' => e = .returned (.bool true) ∧ Still w w') := by
  refine law13_ArithDeep_calls _ _ _ _ ?_
  have e10 := u8_tmod hn 10
  have l10 : n % 10 < 10 := Nat.mod_lt _ (by decide)
  have e6 := u8_tmod hk 6
  have l6 : kind % 6 < 6 := Nat.mod_lt _ (by decide)
  refine ⟨by decide, ?_⟩
  have ek : IntKind.i64.wrap (25 + Int.tmod (IntKind.i64.wrap (n : Int)) 10) = ((25 + n % 10 : Nat) : Int) := by
    rw [show Int.tmod (IntKind.i64.wrap (n : Int)) 10 = ((n % 10 : Nat) : Int) from e10, wrap_i64 (by omega) (by omega)]
    omega
  rw [ek]
  generalize hkk : 25 + n % 10 = k
  have hk34 : k ≤ 34 := by omega
  refine (many_spec _ k (by omega) (by decide)).mono ?_
  rintro _ w1 ⟨⟨a1, rfl, l1⟩, rfl⟩
  refine .inl ⟨_, rfl, by simp only [List.length_cons, List.length_nil]; omega, (many_spec _ k (by omega) (by decide)).mono ?_⟩
  rintro _ w2 ⟨⟨a2, rfl, l2⟩, rfl⟩
  refine .inl ⟨_, rfl, by simp only [List.length_append, List.length_cons, List.length_nil]; omega, (many_spec _ k (by omega) (by decide)).mono ?_⟩
  rintro _ w3 ⟨⟨a3, rfl, l3⟩, rfl⟩
  refine .inl ⟨_, rfl, by simp only [List.length_cons, List.length_nil]; omega, (many_spec _ k (by omega) (by decide)).mono ?_⟩
  rintro _ w4 ⟨⟨a4, rfl, l4⟩, rfl⟩
  refine .inl ⟨_, rfl, by simp only [List.length_cons, List.length_nil]; omega, (many_spec _ k (by omega) (by decide)).mono ?_⟩
  rintro _ w5 ⟨⟨a5, rfl, l5⟩, rfl⟩
  refine .inl ⟨_, rfl, by simp only [List.length_cons, List.length_nil]; omega, (many_spec _ k (by omega) (by decide)).mono ?_⟩
  rintro _ w6 ⟨⟨a6, rfl, l6'⟩, rfl⟩
  refine .inl ⟨_, rfl, by simp only [List.length_append, List.length_cons, List.length_nil]; omega, (many_spec _ k (by omega) (by decide)).mono ?_⟩
  rintro _ w7 ⟨⟨a7, rfl, l7⟩, rfl⟩
  refine .inl ⟨_, rfl, by simp only [List.length_cons, List.length_nil]; omega, (many_spec _ k (by omega) (by decide)).mono ?_⟩
  rintro _ w8 ⟨⟨a8, rfl, l8⟩, rfl⟩
  refine .inl ⟨_, rfl, by simp only [List.length_append, List.length_cons, List.length_nil]; omega, (many_spec _ k (by omega) (by decide)).mono ?_⟩
  rintro _ w9 ⟨⟨a9, rfl, l9⟩, rfl⟩
  refine .inl ⟨_, rfl, by simp only [List.length_cons, List.length_nil]; omega, (many_spec _ k (by omega) (by decide)).mono ?_⟩
  rintro _ w10 ⟨⟨a10, rfl, l10'⟩, rfl⟩
  refine .inl ⟨_, rfl, by simp only [List.length_append, List.length_cons, List.length_nil]; omega, allocK fun w11 r11 s11 _ => ?_⟩
  refine (lawake_spec (he.still s11)).mono ?_
  rintro _ w12 ⟨rfl, s12⟩
  have hs := s11.trans s12
  refine .inl ⟨_, rfl, bsel_of (fun _ => ⟨by decide, ?_⟩) (fun hx => absurd hx (by decide))⟩
  rw [show Int.tmod (IntKind.i64.wrap (kind : Int)) 6 = ((kind % 6 : Nat) : Int) from e6]
  have r12 : Row w12 w10.heap.size _ ⟨strs [(a1 ++ [49]) ++ a2, a3 ++ [49], a4 ++ [49], (a5 ++ [50]) ++ a6, (a7 ++ [97]) ++ a8, (a9 ++ [43]) ++ a10]⟩ := r11.still s12
  have hlen : ∀ x ∈ [(a1 ++ [49]) ++ a2, a3 ++ [49], a4 ++ [49], (a5 ++ [50]) ++ a6, (a7 ++ [97]) ++ a8, (a9 ++ [43]) ++ a10], x.length ≤ 80000 := by
    intro x hx
    simp only [List.mem_cons, List.not_mem_nil, or_false] at hx
    rcases hx with rfl | rfl | rfl | rfl | rfl | rfl <;> (simp only [List.length_append, List.length_cons, List.length_nil]; omega)
  have h6 : kind % 6 < [(a1 ++ [49]) ++ a2, a3 ++ [49], a4 ++ [49], (a5 ++ [50]) ++ a6, (a7 ++ [97]) ++ a8, (a9 ++ [43]) ++ a10].length := l6
  generalize [(a1 ++ [49]) ++ a2, a3 ++ [49], a4 ++ [49], (a5 ++ [50]) ++ a6, (a7 ++ [97]) ++ a8, (a9 ++ [43]) ++ a10] = texts at *
  refine ⟨by omega, by omega, texts.getD (kind % 6) [], ?_, ?_⟩
  · rw [Int.toNat_natCast, Nat.mul_one, add_row, Nat.zero_add]
    exact r12.lget (strs_getD h6)
  have hl := getD_len (i := kind % 6) hlen
  refine (lsame_spec (he.still hs) (VarAt.nil _) (fit_nil _ (by omega)) (by omega)).mono ?_
  rintro _ w13 ⟨rfl, s13⟩
  exact .inl ⟨_, rfl, rfl, hs.trans s13⟩
def pieces11 : List Txt := [[48], [49], [55], [57], [120], [102], [45], [88], [95], [65], [57, 50, 50, 51, 51, 55, 50, 48, 51, 54, 56, 53, 52, 55, 55, 53, 56, 48, 55]]
theorem ArithNumbers_spec (he : Env w) (s : Txt) {l : Option Addr} {lL lC : Nat} {vs : List Nat} (hl : U8At w l lL vs) : Calls Tryz.prog fn_law13_ArithNumbers #[.string (S s), .slice l lL lC] w (fun e w' => e = .returned (.bool true) ∧ Still w w') := by
  refine law13_ArithNumbers_calls _ _ _ _ _ _ ?_
  refine allocK fun w1 r1 s1 _ => ?_
  have r1 : Row w1 w.heap.size _ ⟨strs pieces11⟩ := r1
  refine (pieces_spec (l := l) (lL := lL) (lC := lC) (qC := 11) (hl.still s1) (StrsAt.row r1) (by decide) (by decide) (by decide)).mono ?_
  rintro _ w2 ⟨rfl, rfl⟩
  have hp := piecesR_len (sg := pieces11) (M := 19) (by decide) vs
  generalize piecesR pieces11 vs = t at *
  refine .inl ⟨_, rfl, bsel_of (fun _ => ?_) (fun hx => ?_)⟩
  · refine (lawake_spec (he.still s1)).mono ?_
    rintro _ w3 ⟨rfl, s3⟩
    exact .inl ⟨_, rfl, rfl, s1.trans s3⟩
  have hx : s.length ≤ 40 := by have := of_decide_eq_false hx; omega
  refine (lawake_spec (he.still s1)).mono ?_
  rintro _ w4 ⟨rfl, s4⟩
  have hs4 := s1.trans s4
  refine .inl ⟨_, rfl, bsel_of (fun _ => ?_) (fun hx => absurd hx (by decide))⟩
  refine (lsame_spec (he.still hs4) (VarAt.nil _) (fit_nil _ (by omega)) (by omega)).mono ?_
  rintro _ w5 ⟨rfl, s5⟩
  have hs5 := hs4.trans s5
  refine .inl ⟨_, rfl, bsel_of (fun _ => ?_) (fun hx => absurd hx (by decide))⟩
  refine (lsame_spec (he.still hs5) (VarAt.nil _) (fit_nil _ (by omega)) (by omega)).mono ?_
  rintro _ w6 ⟨rfl, s6⟩
  have hs6 := hs5.trans s6
  refine .inl ⟨_, rfl, bsel_of (fun _ => ?_) (fun hx => absurd hx (by decide))⟩
  refine allocK fun w7 r7 s7 _ => ?_
  have hs7 := hs6.trans s7
  refine (lsame_spec (he.still hs7) (VarAt.row (l := [vr [97] s]) r7) (fit1 (by omega) (by decide)) (by decide)).mono ?_
  rintro _ w8 ⟨rfl, s8⟩
  have hs8 := hs7.trans s8
  refine .inl ⟨_, rfl, bsel_of (fun _ => ?_) (fun hx => absurd hx (by decide))⟩
  refine allocK fun w9 r9 s9 _ => ?_
  have hs9 := hs8.trans s9
  refine (lsame_spec (he.still hs9) (VarAt.row (l := [vr [97] t]) r9) (fit1 (by omega) (by decide)) (by decide)).mono ?_
  rintro _ w10 ⟨rfl, s10⟩
  exact .inl ⟨_, rfl, rfl, hs9.trans s10⟩
def ins6 : List Txt := [[49, 47, 48], [98, 61, 53], [99], [98, 43, 43], [114, 61, 49], [40, 98, 43, 61, 50, 41]]
theorem ArithSkips_spec (he : Env w) {a : Int} (ha : I64 a) {kind inner : Nat} (hk : kind < 256) (hi : inner < 256) : Calls Tryz.prog fn_law13_ArithSkips #[.int .i64 a, .int .u8 (kind : Int), .int .u8 (inner : Int)] w (fun e w' => e = .returned (.bool true) ∧ Still w w') := by
  refine law13_ArithSkips_calls _ _ _ _ _ ?_
  refine allocK fun w1 r1 s1 _ => ?_
  have r1 : Row w1 w.heap.size _ ⟨strs ins6⟩ := r1
  have e6 := u8_tmod hi 6
  have l6 : inner % 6 < 6 := Nat.mod_lt _ (by decide)
  have e7 := u8_tmod hk 7
  have l7 : kind % 7 < 7 := Nat.mod_lt _ (by decide)
  refine ⟨by decide, ?_⟩
  rw [show Int.tmod (IntKind.i64.wrap (inner : Int)) 6 = ((inner % 6 : Nat) : Int) from e6]
  refine ⟨by omega, by omega, ins6.getD (inner % 6) [], ?_, ?_⟩
  · rw [Int.toNat_natCast, Nat.mul_one, add_row, Nat.zero_add]
    exact r1.lget (strs_getD (l := ins6) l6)
  have li : (ins6.getD (inner % 6) []).length ≤ 6 := getD_len (by decide)
  generalize ins6.getD (inner % 6) [] = x at *
  refine ⟨by simp only [List.length_cons, List.length_nil]; omega, by simp only [List.length_cons, List.length_nil]; omega, by simp only [List.length_cons, List.length_nil]; omega, by simp only [List.length_append, List.length_cons, List.length_nil]; omega, by simp only [List.length_cons, List.length_nil]; omega, by simp only [List.length_cons, List.length_nil]; omega, by simp only [List.length_cons, List.length_nil]; omega, by simp only [List.length_append, List.length_cons, List.length_nil]; omega, by simp only [List.length_cons, List.length_nil]; omega, by simp only [List.length_append, List.length_cons, List.length_nil]; omega, allocK fun w2 r2 s2 _ => ⟨by decide, ?_⟩⟩
  rw [show Int.tmod (IntKind.i64.wrap (kind : Int)) 7 = ((kind % 7 : Nat) : Int) from e7]
  have r2 : Row w2 w1.heap.size _ ⟨strs [[97, 124, 124] ++ x, [97, 38, 38] ++ x, ([97, 63] ++ x) ++ [58, 50], [97, 63, 50, 58] ++ x, [48, 124, 124, 97, 38, 38] ++ x, ([97, 63, 98, 61, 49, 58, 40] ++ x) ++ [41], ([33, 97, 124, 124, 40] ++ x) ++ [41]]⟩ := r2
  have hlen : ∀ y ∈ [[97, 124, 124] ++ x, [97, 38, 38] ++ x, ([97, 63] ++ x) ++ [58, 50], [97, 63, 50, 58] ++ x, [48, 124, 124, 97, 38, 38] ++ x, ([97, 63, 98, 61, 49, 58, 40] ++ x) ++ [41], ([33, 97, 124, 124, 40] ++ x) ++ [41]], y.length ≤ 20 := by
    intro y hy
    simp only [List.mem_cons, List.not_mem_nil, or_false] at hy
    rcases hy with rfl | rfl | rfl | rfl | rfl | rfl | rfl <;> (simp only [List.length_append, List.length_cons, List.length_nil]; omega)
  have h7 : kind % 7 < [[97, 124, 124] ++ x, [97, 38, 38] ++ x, ([97, 63] ++ x) ++ [58, 50], [97, 63, 50, 58] ++ x, [48, 124, 124, 97, 38, 38] ++ x, ([97, 63, 98, 61, 49, 58, 40] ++ x) ++ [41], ([33, 97, 124, 124, 40] ++ x) ++ [41]].length := l7
  generalize [[97, 124, 124] ++ x, [97, 38, 38] ++ x, ([97, 63] ++ x) ++ [58, 50], [97, 63, 50, 58] ++ x, [48, 124, 124, 97, 38, 38] ++ x, ([97, 63, 98, 61, 49, 58, 40] ++ x) ++ [41], ([33, 97, 124, 124, 40] ++ x) ++ [41]] = texts at *
  have hs2 := s1.trans s2
  refine ⟨by omega, by omega, texts.getD (kind % 7) [], ?_, ?_⟩
  · rw [Int.toNat_natCast, Nat.mul_one, add_row, Nat.zero_add]
    exact r2.lget (strs_getD h7)
  have hl := getD_len (i := kind % 7) hlen
  generalize texts.getD (kind % 7) [] = t at *
  refine bsel_of (fun _ => ?_) (fun ham => ?_)
  · refine (lawake_spec (he.still hs2)).mono ?_
    rintro _ w3 ⟨rfl, s3⟩
    exact .inl ⟨_, rfl, rfl, hs2.trans s3⟩
  refine (rdigits_spec a ha).mono ?_
  rintro _ w4 ⟨rfl, s4⟩
  refine .inl ⟨_, rfl, allocK fun w5 r5 s5 _ => ?_⟩
  have hs5 := (hs2.trans s4).trans s5
  have ia := itoa_len ha
  have hv : VarAt w5 (some ⟨w4.heap.size, 0, none⟩) 4 4 [vr [97] (Lib.itoa a), vr [98] [51], vr [99] [122], ⟨[114], [50], false, true⟩] := VarAt.row (l := [vr [97] (Lib.itoa a), vr [98] [51], vr [99] [122], ⟨[114], [50], false, true⟩]) r5
  refine (lawake_spec (he.still hs5)).mono ?_
  rintro _ w6 ⟨rfl, s6⟩
  have hs6 := hs5.trans s6
  refine .inl ⟨_, rfl, bsel_of (fun _ => ?_) (fun hx => absurd hx (by decide))⟩
  refine (lsame_spec (he.still hs6) (hv.still s6) ⟨?_, ?_, ?_⟩ (by omega)).mono ?_
  · generalize Lib.itoa a = y
    unfold Rising
    simp only [List.pairwise_cons, List.mem_cons, List.not_mem_nil, or_false, vr]
    refine ⟨?_, ?_, ?_, ?_, List.Pairwise.nil⟩
    · rintro v (rfl | rfl | rfl) <;> (show lt _ _ = true; decide)
    · rintro v (rfl | rfl) <;> (show lt _ _ = true; decide)
    · rintro v rfl
      show lt _ _ = true
      decide
    · rintro v h
      cases h
  · intro v hv
    simp only [List.mem_cons, List.not_mem_nil, or_false] at hv
    rcases hv with rfl | rfl | rfl | rfl
    · simp only [vr]; omega
    · simp only [vr]; decide
    · simp only [vr]; decide
    · decide
  · simp only [List.length_cons, List.length_nil]
    omega
  · rintro _ w7 ⟨rfl, s7⟩
    exact .inl ⟨_, rfl, rfl, hs6.trans s7⟩
end Go.Proofs.YtgincpkggnndeaaGreatDoor
