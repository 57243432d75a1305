/- Expressions of numbers: the program's arithmetic, and its reading of numbers. Conditions: the library's tables and errors lie as its text lays them (Env). -/
import Derived.Test.YtgincpkggnndeaaGreatDoorArProg
namespace Go.Proofs.YtgincpkggnndeaaGreatDoor
open Go.RowKit Vc
variable {w : World}
theorem nd {p : Prop} [Decidable p] (h : (!decide p) = false) : p := by simpa using h

theorem sh_nonneg (b : Int) : 0 ≤ bits .and .u64 (IntKind.u64.wrap b) 63 := by
  have h : 0 ≤ IntKind.u64.wrap b ∧ IntKind.u64.wrap b < 18446744073709551616 := by
    simp only [IntKind.wrap, IntKind.signed, IntKind.bits]
    simp
    omega
  rw [bits_and_u64 h.1 h.2 (by decide) (by decide)]
  omega
/-- What an answer that may fail comes to. -/
def Ans (r : Pr Int) (e : Ending) : Prop := match r with
  | .ok z => e = .returned (.int .i64 z)
  | .bad k => e = .panicked (errP k)
set_option maxHeartbeats 4000000 in
theorem reckon_spec {op : Txt} (hop : op ∈ binOps) (a b : Int) : Calls Tryz.prog fn_arith_reckon #[.string (S op), .int .i64 a, .int .i64 b] w (fun e w' => Ans (reck op a b) e ∧ w' = w) := by
  refine arith_reckon_calls _ _ _ _ _ ?_
  refine ⟨fun w1 => w1 = w ∧ ¬ (b = 0 ∧ (op = [47] ∨ op = [37])), ?_, ?_⟩
  · refine bsel_of (fun h => ?_) (fun h => ?_)
    · refine (want_spec true 131).mono ?_
      rintro _ w1 ⟨h1, rfl⟩
      rw [if_pos rfl] at h1
      subst h1
      refine .inl ⟨rfl, rfl, fun e => ?_⟩
      rw [decide_eq_true e.1] at h
      cases h
    have hb : b = 0 := nd h
    refine bsel_of (fun h => ?_) (fun h => ?_)
    · refine (want_spec _ 131).mono ?_
      rintro _ w1 ⟨h1, rfl⟩
      by_cases h2 : op = [37]
      · rw [decide_eq_true h2] at h1
        rw [if_neg (show ¬ (!true) = true by decide)] at h1
        subst h1
        refine .inr ⟨_, rfl, ?_, rfl⟩
        unfold reck
        rw [if_pos ⟨hb, .inr h2⟩]
        rfl
      · rw [decide_eq_false h2] at h1
        rw [if_pos (show (!false) = true from rfl)] at h1
        subst h1
        refine .inl ⟨rfl, rfl, fun e => ?_⟩
        rcases e.2 with e2 | e2
        · rw [decide_eq_true e2] at h; cases h
        · exact h2 e2
    · refine (want_spec false 131).mono ?_
      rintro _ w1 ⟨h1, rfl⟩
      rw [if_neg (by decide)] at h1
      subst h1
      refine .inr ⟨_, rfl, ?_, rfl⟩
      unfold reck
      rw [if_pos ⟨hb, .inl (nd h)⟩]
      rfl
  rintro _ w4 ⟨rfl, hno⟩
  have hr : reck op a b = .ok (reckV op a b) := by unfold reck; rw [if_neg hno]
  rw [hr]
  unfold Ans
  dsimp only
  obtain ⟨V, hV⟩ : ∃ V, V = reckV op a b := ⟨_, rfl⟩
  rw [← hV]
  have hsh := sh_nonneg b
  simp only [binOps, List.mem_cons, List.not_mem_nil, or_false] at hop
  rcases hop with rfl | rfl | rfl | rfl | rfl | rfl | rfl | rfl | rfl | rfl | rfl | rfl | rfl | rfl | rfl | rfl
  all_goals
    repeat first
      | refine bsel_of (fun h => absurd h (by decide)) (fun _ => ?_)
      | refine bsel_of (fun _ => ?_) (fun h => absurd h (by decide))
    first
      | exact ⟨by rw [hV]; rfl, rfl⟩
      | exact ⟨hsh, by rw [hV]; rfl, rfl⟩
      | exact ⟨fun e => hno ⟨e, .inl rfl⟩, by rw [hV]; rfl, rfl⟩
      | exact ⟨fun e => hno ⟨e, .inr rfl⟩, by rw [hV]; rfl, rfl⟩
      | skip
  all_goals
    refine ⟨fun x w5 => w5 = w4 ∧ x = V, ?_, ?_⟩
    rotate_left
    · rintro x _ w5 ⟨rfl, hx⟩
      exact ⟨by rw [hx], rfl⟩
    repeat' first
      | refine bsel_of (fun h => absurd h (by decide)) (fun _ => ?_)
      | refine bsel_of (fun _ => ?_) (fun h => absurd h (by decide))
      | refine bsel_of (fun h => ?_) (fun h => ?_)
    all_goals
      refine (truth_spec _).mono ?_
      rintro _ w5 ⟨rfl, rfl⟩
      refine .inl ⟨_, rfl, rfl, ?_⟩
      first
        | (rw [hV]; rfl)
        | (rw [hV]; show truthI _ = truthI _; rw [h])
theorem baseOf_cases (s : Txt) : baseOf s = if 2 < s.length ∧ (s.take 2 = [48, 120] ∨ s.take 2 = [48, 88]) then (16, s.drop 2) else if 1 < s.length ∧ s[0]? = some 48 then (8, s) else (10, s) := by
  match s with
  | [] => rfl
  | [a] => rfl
  | [a, b] =>
    simp only [baseOf]
    rw [if_neg (show ¬ (2 < [a, b].length ∧ _) from fun e => absurd e.1 (by simp))]
    by_cases h : a = 48 <;> simp [h]
  | a :: b :: c :: r =>
    simp only [baseOf]
    by_cases h : a = 48
    · by_cases h2 : b = 120 ∨ b = 88
      · rw [if_pos ⟨h, h2⟩, if_pos ⟨by simp, by rcases h2 with h2 | h2 <;> simp [h, h2]⟩]
        rfl
      · rw [if_neg (fun e => h2 e.2), if_pos h, if_neg (fun e => h2 (by simpa [h] using e.2)), if_pos ⟨by simp, by simp [h]⟩]
    · rw [if_neg (fun e => h e.1), if_neg h, if_neg (fun e => h (by rcases e.2 with e | e <;> (simp at e; exact e.1))), if_neg (fun e => h (by simpa using e.2))]
abbrev hexS : Txt := [48, 49, 50, 51, 52, 53, 54, 55, 56, 57, 97, 98, 99, 100, 101, 102, 65, 66, 67, 68, 69, 70]
theorem hexS_has (c : UInt8) : hexS.contains c = isHexC c := by
  have h : ∀ n : Nat, n < 256 → hexS.contains (UInt8.ofNat n) = isHexC (UInt8.ofNat n) := by decide +kernel
  have := h c.toNat c.toNat_lt
  rwa [UInt8.ofNat_toNat] at this
theorem trimS_nil (l cs : Txt) : (Lib.trimS l cs = []) ↔ l.all (fun c => cs.contains c) = true := by
  unfold Lib.trimS Lib.trimLeftS Lib.trimRightS
  have hd : ∀ (p : UInt8 → Bool) (x : Txt), x.dropWhile p = [] ↔ x.all p = true := by
    intro p x
    induction x with
    | nil => simp
    | cons c x ih =>
      rw [List.dropWhile_cons, List.all_cons]
      by_cases h : p c = true
      · rw [if_pos h, ih, h]; simp
      · rw [if_neg h]; simp [h]
  rw [hd]
  constructor
  · intro h
    rw [List.all_reverse] at h
    cases hx : l.reverse.dropWhile (fun c => cs.contains c) with
    | nil =>
      have := (hd _ _).1 hx
      rwa [List.all_reverse] at this
    | cons c x =>
      have h2 := List.head?_dropWhile_not (fun c => cs.contains c) l.reverse
      rw [hx] at h2 h
      simp only [List.all_cons, Bool.and_eq_true] at h
      simp at h2
      exact absurd (by simpa using h.1) h2
  · intro h
    have : l.reverse.dropWhile (fun c => cs.contains c) = [] := (hd _ _).2 (by rw [List.all_reverse]; exact h)
    rw [this]
    rfl
theorem parseInt64_spec (he : Env w) (b : Nat) (hb : b = 8 ∨ b = 10 ∨ b = 16) (s : Txt) (hs : s.length ≤ 140737488355328) :
    Calls Tryz.prog fn_strconv_ParseInt #[.string (S s), .int .i64 (b : Int), .int .i64 64] w (fun e w' => (∃ (m : Int) (y : Value), e = .returned (.tuple #[.int .i64 m, y]) ∧ y.oneCell' = true ∧ I64 m ∧ (match parseI b s with
      | .ok n => m = n ∧ y = .nilIface
      | .bad _ => ∃ t v, y = .iface t v)) ∧ Still w w') := by
  refine strconv_ParseInt_calls _ _ _ _ _ ?_
  refine (parseInt_spec b hb 64 (.inr rfl) s hs).mono ?_
  rintro _ w1 ⟨⟨x, y, rfl, hr⟩, hs1⟩
  cases hp : parseI b s with
  | ok n =>
    rw [hp] at hr
    obtain ⟨rfl, rfl⟩ := hr
    exact .inl ⟨_, _, rfl, rfl, ⟨_, _, rfl, rfl, parseI_range hp, rfl, rfl⟩, hs1⟩
  | bad k =>
    rw [hp] at hr
    obtain ⟨⟨m, rfl, hm⟩, rfl⟩ := hr
    refine .inl ⟨_, _, rfl, rfl, ?_⟩
    refine (toError_spec (he.still hs1) _ s b 64 hs (parseI_bad hp)).mono ?_
    rintro _ w2 ⟨⟨t, v, rfl⟩, hs2⟩
    exact .inl ⟨_, rfl, rfl, ⟨_, _, rfl, rfl, hm, t, v, rfl⟩, hs1.trans hs2⟩
theorem value_spec (he : Env w) (s : Txt) (hs : s.length ≤ 140737488355328) :
    Calls Tryz.prog fn_arith_value #[.string (S s)] w (fun e w' => (∃ (m : Int) (ok : Bool), e = .returned (.tuple #[.int .i64 m, .bool ok]) ∧ I64 m ∧ (match numV s with
      | some n => m = n ∧ ok = true
      | none => ok = false)) ∧ Still w w') := by
  refine arith_value_calls _ _ _ ?_
  have hbc := baseOf_cases s
  refine ⟨fun b d w1 => b = ((baseOf s).1 : Int) ∧ d = (baseOf s).2 ∧ Still w w1, ⟨fun q w1 => w1 = w ∧ (q = true ↔ (2 < s.length ∧ (s.take 2 = [48, 120] ∨ s.take 2 = [48, 88]))), ?_, ?_⟩, ?_⟩
  · refine bsel_of (fun h => ?_) (fun h => ?_)
    · have h : 2 < s.length := by have := of_decide_eq_true h; omega
      refine ⟨by decide, by omega, bsel_of (fun h1 => ?_) (fun h1 => ⟨by decide, by omega, rfl, ?_⟩)⟩
      · exact ⟨rfl, fun _ => ⟨h, .inl (of_decide_eq_true h1)⟩, fun _ => rfl⟩
      · rw [decide_eq_true_eq]
        exact ⟨fun e => ⟨h, .inr e⟩, fun e => e.2.resolve_left (of_decide_eq_false h1)⟩
    · exact ⟨rfl, (fun e => by cases e), fun e => by have := of_decide_eq_false h; omega⟩
  · rintro q _ w1 ⟨rfl, hq⟩
    refine bsel_of (fun h => ?_) (fun h => ?_)
    · have hc := hq.1 h
      rw [if_pos hc] at hbc
      rw [hbc]
      exact ⟨by decide, by omega, rfl, rfl, (Still.refl _).toDrew⟩
    · have hc : ¬ (2 < s.length ∧ (s.take 2 = [48, 120] ∨ s.take 2 = [48, 88])) := fun e => by rw [hq.2 e] at h; cases h
      rw [if_neg hc] at hbc
      refine ⟨fun q w2 => w2 = w1 ∧ (q = true ↔ (1 < s.length ∧ s[0]? = some 48)), ?_, ?_⟩
      · refine bsel_of (fun h => ?_) (fun h => ?_)
        · have h : 1 < s.length := by have := of_decide_eq_true h; omega
          have h0 := getD_some (p := s) (i := 0) (by omega)
          refine ⟨by decide, s[0], h0, rfl, ?_⟩
          rw [decide_eq_true_eq, h0]
          exact ⟨fun e => ⟨h, congrArg some ((byte_eq (b := 48)).1 e)⟩, fun e => (byte_eq (b := 48)).2 (Option.some.inj e.2)⟩
        · exact ⟨rfl, (fun e => by cases e), fun e => by have := of_decide_eq_false h; omega⟩
      · rintro q _ w2 ⟨rfl, hq2⟩
        refine bsel_of (fun h => ?_) (fun h => ?_)
        · rw [if_pos (hq2.1 h)] at hbc
          rw [hbc]
          exact ⟨rfl, rfl, Still.refl _⟩
        · rw [if_neg (fun e => by rw [hq2.2 e] at h; cases h)] at hbc
          rw [hbc]
          exact ⟨rfl, rfl, Still.refl _⟩
  rintro _ _ _ w3 ⟨rfl, rfl, hs3⟩
  have hb := base_in s
  have hdl : (baseOf s).2.length ≤ s.length := by
    rw [hbc]
    split
    · rw [List.length_drop]; omega
    · split <;> exact Nat.le_refl _
  unfold numV
  generalize (baseOf s).1 = b at *
  generalize (baseOf s).2 = ds at *
  refine (Any.strings_Trim_laid Tryz.lays160 (by kernel_rfl) (S ds) (S hexS) w3 (show ds.length ≤ 9223372036854775807 by omega) (by decide) (ascii_of_all (by decide))).mono ?_
  rintro _ w4 ⟨rfl, hb4⟩
  have hs4 : Still w w4 := hs3.trans ((Still.refl w3).trans' hb4 (Nat.le_refl _))
  refine .inl ⟨Lib.trimS ds hexS, rfl, ?_⟩
  have hnil := trimS_nil ds hexS
  have hall : (ds.all fun c => hexS.contains c) = ds.all isHexC := by congr 1; funext c; exact hexS_has c
  rw [hall] at hnil
  refine bsel_of (fun h => ?_) (fun h => ?_)
  · have h : ¬ ds.all isHexC = true := fun e => by rw [decide_eq_true (hnil.2 e)] at h; cases h
    rw [if_neg h]
    exact ⟨⟨_, _, rfl, by decide, rfl⟩, hs4⟩
  have h : ds.all isHexC = true := hnil.1 (nd h)
  rw [if_pos h]
  refine (parseInt64_spec (he.still hs4) b hb ds (by omega)).mono ?_
  rintro _ w5 ⟨⟨m, y, rfl, hy, hm, hr⟩, hs5⟩
  refine .inl ⟨_, y, hy, rfl, ?_⟩
  cases hp : parseI b ds with
  | ok n =>
    rw [hp] at hr
    obtain ⟨rfl, rfl⟩ := hr
    exact ⟨⟨_, _, rfl, hm, rfl, rfl⟩, (hs4.trans hs5).toDrew⟩
  | bad k =>
    rw [hp] at hr
    obtain ⟨t, v, rfl⟩ := hr
    exact ⟨⟨_, _, rfl, hm, rfl⟩, (hs4.trans hs5).toDrew⟩
end Go.Proofs.YtgincpkggnndeaaGreatDoor
