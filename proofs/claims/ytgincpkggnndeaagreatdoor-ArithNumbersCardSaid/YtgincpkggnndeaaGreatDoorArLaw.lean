/- Expressions of numbers: the laws' own functions. Conditions: the library's tables and errors lie as its text lays them (Env); the variables rise by name; they, and the text, are of moderate size. -/
import Derived.Test.YtgincpkggnndeaaGreatDoorArPure
namespace Go.Proofs.YtgincpkggnndeaaGreatDoor
open Go.RowKit Vc
variable {w : World}

/-- Variables that expressions may use. -/
structure Fit (V : List Vr) (n : Nat) : Prop where
  rise : Rising V
  txt : ∀ v ∈ V, v.value.length ≤ 140737488355328
  few : V.length + n < 900000
theorem Fit.less {V : List Vr} {n m : Nat} (h : Fit V n) (hm : m ≤ n) : Fit V m := ⟨h.rise, h.txt, by have := h.few; omega⟩
theorem peval (he : Env w) {p : Option Addr} {n C : Nat} {V : List Vr} {s : Txt} (hv : VarAt w p n C V) (hf : Fit V s.length) (hs : s.length ≤ 800000) : Calls Tryz.prog fn_arith_Eval #[.string (S s), .slice p n C] w (EvAns w (evalR s V)) :=
  peval_spec he hv hf.rise hf.txt hs hf.few
/-- An answer, taken apart. -/
theorem EvAns.out {r : Pr (Int × List Vr)} {e : Ending} {w' : World} (h : EvAns w r e w') : (∃ z q D, r = .ok z ∧ I64 z.1 ∧ e = .returned (.tuple #[.int .i64 z.1, .slice q z.2.length D, .int .i64 0]) ∧ VarAt w' q z.2.length D z.2 ∧ Still w w') ∨
    (∃ k : Nat, r = .bad k ∧ e = .returned (.tuple #[.int .i64 0, .slice none 0 0, .int .i64 (k : Int)]) ∧ Still w w') := by
  obtain ⟨h, hs⟩ := h
  cases r with
  | ok z =>
    obtain ⟨hi, q, D, he, hv⟩ := h
    exact .inl ⟨z, q, D, rfl, hi, he, hv, hs⟩
  | bad k => exact .inr ⟨k, rfl, h, hs⟩
theorem lsame_spec (he : Env w) {p : Option Addr} {n C : Nat} {V : List Vr} {s : Txt} (hv : VarAt w p n C V) (hf : Fit V s.length) (hs : s.length ≤ 800000) : Calls Tryz.prog fn_law13_same #[.string (S s), .slice p n C] w (fun e w' => e = .returned (.bool true) ∧ Still w w') := by
  refine law13_same_calls _ _ _ _ _ _ ?_
  refine (peval he hv hf hs).mono ?_
  intro e w1 h1
  rcases h1.out with ⟨z, q, D, hr, hi, rfl, hv1, hs1⟩ | ⟨k, hr, rfl, hs1⟩
  · refine .inl ⟨_, _, _, _, _, rfl, (reval_spec (hv.still hs1) hf.txt hs hf.few).mono ?_⟩
    intro e w2 h2
    rw [hr] at h2
    obtain ⟨⟨_, q2, D2, rfl, hv2⟩, hs2⟩ := h2
    refine .inl ⟨_, _, _, _, _, rfl, bsel_of (fun _ => ?_) (fun hx => absurd rfl (of_decide_eq_false hx))⟩
    have hl := evalR_len hr
    have hfew := hf.few
    refine (rsame_spec (hv1.still hs2) hv2 (by omega)).mono ?_
    rintro _ w3 ⟨rfl, hs3⟩
    exact .inl ⟨_, rfl, bsel_of (fun _ => ⟨rfl, (hs1.trans hs2).trans hs3⟩) (fun hx => absurd rfl (of_decide_eq_false hx))⟩
  · refine .inl ⟨_, _, _, _, _, rfl, (reval_spec (hv.still hs1) hf.txt hs hf.few).mono ?_⟩
    intro e w2 h2
    rw [hr] at h2
    obtain ⟨rfl, hs2⟩ := h2
    refine .inl ⟨_, _, _, _, _, rfl, bsel_of (fun _ => ?_) (fun hx => absurd rfl (of_decide_eq_false hx))⟩
    refine (rsame_spec (VarAt.nil _) (VarAt.nil _) (by decide)).mono ?_
    rintro _ w3 ⟨rfl, hs3⟩
    refine .inl ⟨_, rfl, bsel_of (fun _ => ⟨?_, (hs1.trans hs2).trans hs3⟩) (fun hx => absurd rfl (of_decide_eq_false hx))⟩
    rw [decide_eq_true rfl]
def Vr.mk2 (x y : Txt) : Vr := ⟨x, y, false, false⟩
theorem aw1 : evalR [40, 97, 32, 61, 32, 50, 32, 43, 32, 51, 32, 42, 32, 52, 41, 32, 60, 60, 32, 49] [] = .ok (28, [⟨[97], [49, 52], false, false⟩]) := by
  rw [evalR_of (f := 200) (t := .bin [60, 60] (.set [97] [] (.bin [43] (.num 2) (.bin [42] (.num 3) (.num 4)))) (.num 1)) (r := []) (by decide) (by kernel_rfl) rfl]
  kernel_rfl
theorem aw2 : evalR [49, 32, 124, 124, 32, 49, 47, 48] [] = .ok (1, []) := by
  rw [evalR_of (f := 200) (t := .bin [124, 124] (.num 1) (.bin [47] (.num 1) (.num 0))) (r := []) (by decide) (by kernel_rfl) rfl]
  kernel_rfl
theorem aw3 : evalR [49, 47, 48] [] = .bad 131 := by
  rw [evalR_of (f := 200) (t := .bin [47] (.num 1) (.num 0)) (r := []) (by decide) (by kernel_rfl) rfl]
  kernel_rfl
theorem fit_nil (n : Nat) (h : n < 900000) : Fit [] n := ⟨List.Pairwise.nil, by simp, by simpa using h⟩
theorem VarAt.row {g : Nat} {l : List Vr} {t : TypeId} (h : Row w g t ⟨vcs l⟩) : VarAt w (some ⟨g, 0, none⟩) l.length l.length l := ⟨rfl, Nat.le_refl _, At.row h (n := l.length)⟩
theorem lawake_spec (he : Env w) : Calls Tryz.prog fn_law13_awake #[] w (fun e w' => e = .returned (.bool true) ∧ Still w w') := by
  refine law13_awake_calls _ _ ?_
  refine (peval he (VarAt.nil w) (fit_nil _ (by decide)) (by decide)).mono ?_
  intro e w1 h1
  rw [aw1] at h1
  obtain ⟨⟨_, q1, D1, rfl, hv1⟩, hs1⟩ := h1
  refine .inl ⟨_, _, _, _, _, rfl, ?_⟩
  refine (peval (he.still hs1) (VarAt.nil w1) (fit_nil _ (by decide)) (by decide)).mono ?_
  intro e w2 h2
  rw [aw2] at h2
  obtain ⟨⟨_, q2, D2, rfl, hv2⟩, hs2⟩ := h2
  refine .inl ⟨_, _, _, _, _, rfl, ?_⟩
  refine (peval (he.still (hs1.trans hs2)) (VarAt.nil w2) (fit_nil _ (by decide)) (by decide)).mono ?_
  intro e w3 h3
  rw [aw3] at h3
  obtain ⟨rfl, hs3⟩ := h3
  refine .inl ⟨_, _, _, _, _, rfl, bsel_of (fun _ => ?_) (fun hx => absurd hx (by decide))⟩
  refine bsel_of (fun _ => ?_) (fun hx => absurd hx (by decide))
  refine allocK fun w4 r4 hs4 _ => ?_
  have hst := ((hs1.trans hs2).trans hs3).trans hs4
  refine (rsame_spec (hv1.still ((hs2.trans hs3).trans hs4)) (VarAt.row (l := [⟨[97], [49, 52], false, false⟩]) r4) (by decide)).mono ?_
  rintro _ w5 ⟨rfl, hs5⟩
  refine .inl ⟨_, rfl, bsel_of (fun _ => ?_) (fun hx => absurd hx (by decide))⟩
  refine bsel_of (fun _ => ?_) (fun hx => absurd hx (by decide))
  exact bsel_of (fun _ => ⟨rfl, hst.trans hs5⟩) (fun hx => absurd hx (by decide))
def signs13 : List Txt := [[49], [50], [48], [97], [98], [120], [43], [45], [42], [47], [37], [40], [41], [32], [60, 60], [62, 62], [60], [62], [61], [61, 61], [33, 61], [33], [126], [38], [124], [94], [38, 38], [124, 124], [63], [58], [48, 120, 49, 102], [48, 49, 55], [57, 50, 50, 51, 51, 55, 50, 48, 51, 54, 56, 53, 52, 55, 55, 53, 56, 48, 55], [97, 61], [98, 43, 61]]
theorem lsigns_spec : Calls Tryz.prog fn_law13_Signs #[] w (fun e w' => ∃ b, e = .returned (.slice (some ⟨b, 0, none⟩) 35 35) ∧ StrsAt w' (some ⟨b, 0, none⟩) signs13.length signs13 ∧ Still w w') := by
  refine law13_Signs_calls _ _ ?_
  exact allocK fun w1 r1 s1 _ => ⟨_, rfl, StrsAt.row (l := signs13) r1, s1⟩
theorem signs_pieces {l : Option Addr} {lL lC b : Nat} {vs : List Nat} (hl : U8At w l lL vs) (hr : StrsAt w (some ⟨b, 0, none⟩) signs13.length signs13) :
    Calls Tryz.prog fn_law07_Pieces #[.slice l lL lC, .slice (some ⟨b, 0, none⟩) 35 35] w (fun e w' => e = .returned (.string (S (piecesR signs13 vs))) ∧ w' = w) :=
  pieces_spec hl hr (by decide) (by decide) (by decide)
theorem many_spec (s : Txt) (n : Nat) (hn : n ≤ 1000) (hs : s.length ≤ 1000) : Calls Tryz.prog fn_law13_many #[.string (S s), .int .i64 (n : Int)] w (fun e w' => (∃ r : Txt, e = .returned (.string (S r)) ∧ r.length ≤ n * 1000) ∧ w' = w) := by
  refine law13_many_calls _ _ _ _ ?_
  refine ⟨fun t i w1 => ∃ k : Nat, i = (k : Int) ∧ k ≤ n ∧ t.length ≤ k * 1000 ∧ w1 = w, fun _ i _ => n - i.toNat, ⟨0, rfl, Nat.zero_le _, by simp, rfl⟩, ?_⟩
  rintro t _ _ w1 ⟨k, rfl, hk, ht, rfl⟩
  refine bsel_of (fun hx => ?_) (fun hx => ?_)
  · have hx : k < n := by have := of_decide_eq_true hx; omega
    have e1 : IntKind.i64.wrap ((k : Int) + 1) = ((k + 1 : Nat) : Int) := by rw [wrap_i64 (by omega) (by omega)]; omega
    rw [e1]
    exact ⟨by omega, ⟨k + 1, rfl, hx, by rw [List.length_append]; omega, rfl⟩, by dsimp only; omega⟩
  · have hx : k = n := by have := of_decide_eq_false hx; omega
    subst hx
    exact ⟨⟨t, rfl, ht⟩, rfl⟩
theorem blank_spec (s : Txt) (hs : s.length ≤ 800000) : Calls Tryz.prog fn_law13_blank #[.string (S s)] w (fun e w' => e = .returned (.bool (s.all (· == 32))) ∧ w' = w) := by
  refine law13_blank_calls _ _ _ ?_
  refine ⟨fun i w1 => ∃ k : Nat, i = (k : Int) ∧ k ≤ s.length ∧ s.all (· == 32) = (s.drop k).all (· == 32) ∧ w1 = w, fun i _ => s.length - i.toNat, ⟨0, rfl, Nat.zero_le _, rfl, rfl⟩, ?_⟩
  rintro _ _ w1 ⟨k, rfl, hk, hp, rfl⟩
  refine bsel_of (fun hx => ?_) (fun hx => ?_)
  · have hx : k < s.length := by have := of_decide_eq_true hx; omega
    have hg : s[Int.toNat (k : Int)]? = some s[k] := by rw [Int.toNat_natCast]; exact getD_some hx
    rw [List.drop_eq_getElem_cons hx, List.all_cons] at hp
    have e1 : IntKind.i64.wrap ((k : Int) + 1) = ((k + 1 : Nat) : Int) := by rw [wrap_i64 (by omega) (by omega)]; omega
    refine ⟨by omega, _, hg, bsel_of (fun hy => ?_) (fun hy => ?_)⟩
    · have hy : ¬ s[k] = 32 := fun e => by rw [e] at hy; exact absurd hy (by decide)
      rw [hp, show (s[k] == 32) = false from by simpa using hy]
      exact ⟨rfl, rfl⟩
    · have hy : s[k] = 32 := by
        have := nd hy
        exact (byte_eq (b := 32)).1 this
      rw [hy] at hp
      rw [e1]
      exact ⟨⟨k + 1, rfl, hx, hp, rfl⟩, by dsimp only; omega⟩
  · have hx : k = s.length := by have := of_decide_eq_false hx; omega
    subst hx
    rw [hp, List.drop_length]
    exact ⟨rfl, rfl⟩
/-! ### The laws -/
theorem ArithEvals_spec (he : Env w) (s : Txt) {acts : Option Addr} {L C : Nat} (ha : ActsAt w acts L 140737488355328) : Calls Tryz.prog fn_law13_ArithEvals #[.string (S s), .slice acts L C] w (fun e w' => e = .returned (.bool true) ∧ Still w w') := by
  refine law13_ArithEvals_calls _ _ _ _ _ _ ?_
  refine (lawake_spec he).mono ?_
  rintro _ w1 ⟨rfl, hs1⟩
  refine .inl ⟨_, rfl, bsel_of (fun _ => bsel_of (fun _ => ⟨rfl, hs1⟩) (fun hx => ?_)) (fun hx => absurd hx (by decide))⟩
  have hx : s.length ≤ 300 := by have := of_decide_eq_false hx; omega
  refine (made_spec (fun i hi => by obtain ⟨a, h1, c, h2⟩ := ha i hi; exact ⟨a, h1, c, h2.still hs1⟩) (by decide)).mono ?_
  rintro _ w2 ⟨q, D, l, rfl, hv, hg, hl, hs2⟩
  refine .inl ⟨_, _, _, rfl, (lsame_spec (he.still (hs1.trans hs2)) hv ⟨hg.1, fun v hv => (hg.2 v hv).2.2, by omega⟩ (by omega)).mono ?_⟩
  rintro _ w3 ⟨rfl, hs3⟩
  exact .inl ⟨_, rfl, rfl, (hs1.trans hs2).trans hs3⟩
def vals11 : List Txt := [[], [49], [45, 49], [55], [48, 120, 49, 48], [48, 49, 48], [122], [57, 50, 50, 51, 51, 55, 50, 48, 51, 54, 56, 53, 52, 55, 55, 53, 56, 48, 55], [45, 57, 50, 50, 51, 51, 55, 50, 48, 51, 54, 56, 53, 52, 55, 55, 53, 56, 48, 55], [48, 56], [45]]
theorem getD_len {l : List Txt} {M i : Nat} (h : ∀ x ∈ l, x.length ≤ M) : (l.getD i []).length ≤ M := by
  rw [List.getD_eq_getElem?_getD]
  cases hx : l[i]? with
  | none => exact Nat.zero_le _
  | some x => exact h x (List.mem_of_getElem? hx)
theorem u8_tmod {n : Nat} (h : n < 256) (k : Nat) : Int.tmod (IntKind.i64.wrap (n : Int)) (k : Int) = ((n % k : Nat) : Int) := by
  rw [wrap_i64 (by omega) (by omega)]
  exact tmod_nat n k
theorem rise_ab (x y : Txt) (e r e' r' : Bool) : Rising [⟨[97], x, e, r⟩, ⟨[98], y, e', r'⟩] := by
  refine List.Pairwise.cons ?_ (List.Pairwise.cons (by simp) List.Pairwise.nil)
  intro v hv
  simp only [List.mem_singleton] at hv
  subst hv
  show lt [97] [98] = true
  decide
theorem ArithSmall_spec (he : Env w) {l : Option Addr} {lL lC : Nat} {vs : List Nat} (hl : U8At w l lL vs) {a b : Nat} (ha : a < 256) (hb : b < 256) : Calls Tryz.prog fn_law13_ArithSmall #[.slice l lL lC, .int .u8 (a : Int), .int .u8 (b : Int)] w (fun e w' => e = .returned (.bool true) ∧ Still w w') := by
  refine law13_ArithSmall_calls _ _ _ _ _ _ _ ?_
  refine allocK fun w1 r1 s1 _ => ?_
  have h11 : ∀ x ∈ vals11, x.length ≤ 20 := by decide
  have ea := u8_tmod ha 11
  have eb := u8_tmod hb 11
  have la : a % 11 < 11 := Nat.mod_lt _ (by decide)
  have lb : b % 11 < 11 := Nat.mod_lt _ (by decide)
  have r1 : Row w1 w.heap.size _ ⟨strs vals11⟩ := r1
  refine ⟨fun wq => wq = w1.drew, rfl, by decide, ?_⟩
  rw [show Int.tmod (IntKind.i64.wrap (a : Int)) 11 = ((a % 11 : Nat) : Int) from ea, show Int.tmod (IntKind.i64.wrap (b : Int)) 11 = ((b % 11 : Nat) : Int) from eb]
  refine ⟨by omega, by omega, vals11.getD (a % 11) [], ?_, by decide, by omega, by omega, vals11.getD (b % 11) [], ?_, ?_⟩
  · rintro _ rfl
    rw [Int.toNat_natCast, Nat.mul_one, add_row, Nat.zero_add]
    exact r1.drew.lget (strs_getD (l := vals11) la)
  · rintro _ rfl
    rw [Int.toNat_natCast, Nat.mul_one, add_row, Nat.zero_add]
    exact r1.drew.lget (strs_getD (l := vals11) lb)
  have lx := getD_len (i := a % 11) h11
  have ly := getD_len (i := b % 11) h11
  generalize vals11.getD (a % 11) [] = x at *
  generalize vals11.getD (b % 11) [] = y at *
  refine allocK fun w2 r2 s2 _ => ?_
  have hs2 : Still w w2 := s1.toDrew.trans s2
  refine (lawake_spec (he.still hs2)).mono ?_
  rintro _ w3 ⟨rfl, s3⟩
  refine .inl ⟨_, rfl, bsel_of (fun _ => ?_) (fun hx => absurd hx (by decide))⟩
  refine lsigns_spec.mono ?_
  rintro _ w4 ⟨g, rfl, hg, s4⟩
  have hs4 := (hs2.trans s3).trans s4
  refine .inl ⟨_, _, _, rfl, (signs_pieces (hl.still hs4) hg).mono ?_⟩
  rintro _ w5 ⟨rfl, rfl⟩
  have hp := piecesR_len (sg := signs13) (M := 19) (by decide) vs
  have hv : VarAt w5 (some ⟨w1.drew.heap.size, 0, none⟩) 2 2 [⟨[97], x, false, false⟩, ⟨[98], y, false, decide ((200 : Int) < (a : Int))⟩] := (VarAt.row (l := [⟨[97], x, false, false⟩, ⟨[98], y, false, decide ((200 : Int) < (a : Int))⟩]) r2).still (s3.trans s4)
  refine .inl ⟨_, rfl, (lsame_spec (he.still hs4) hv ⟨rise_ab _ _ _ _ _ _, ?_, ?_⟩ (by omega)).mono ?_⟩
  · intro v hv
    simp only [List.mem_cons, List.not_mem_nil, or_false] at hv
    rcases hv with rfl | rfl <;> (dsimp only; omega)
  · simp only [List.length_cons, List.length_nil]
    omega
  · rintro _ w6 ⟨rfl, s6⟩
    exact .inl ⟨_, rfl, rfl, hs4.trans s6⟩
end Go.Proofs.YtgincpkggnndeaaGreatDoor
