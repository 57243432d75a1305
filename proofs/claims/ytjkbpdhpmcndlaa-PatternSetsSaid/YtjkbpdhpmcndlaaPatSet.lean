/- The patterns' program: a set, a pattern's pieces. Conditions: as each theorem names them. -/
import Derived.Test.YtjkbpdhpmcndlaaPatProg
namespace Go.Proofs.Ytjkbpdhpmcndlaa
open Go.RowKit Vc
variable {w : World}

theorem store_big {W : World} {gb o n : Nat} {t : TypeId} {pre mid vs : List Value} {K : World → Prop} (hr : Row W gb t ⟨pre ++ mid⟩) (hp : pre.length = o) (hm : mid.length = n) (hl : vs.length = n) (h1 : ∀ v ∈ vs, v.oneCell' = true)
    (hK : K (W.setRow gb ⟨pre ++ vs⟩)) : vs.length = n ∧ (∀ qv : Value, qv ∈ vs → qv.oneCell' = true) ∧ ∃ (g o' : Nat) (cur : List Value) (ty : TypeId), Addr.mk gb o none = Addr.mk g o' none ∧ Row W g ty ⟨cur⟩ ∧ o' + vs.length ≤ cur.length ∧
      K (W.setRow g ⟨cur.take o' ++ (vs ++ cur.drop (o' + vs.length))⟩) := by
  refine ⟨hl, h1, gb, o, pre ++ mid, t, rfl, hr, by simp; omega, ?_⟩
  have e : (pre ++ mid).take o ++ (vs ++ (pre ++ mid).drop (o + vs.length)) = pre ++ vs := by
    rw [List.take_left' hp, List.drop_of_length_le (by simp; omega)]
    simp
  rw [e]
  exact hK
theorem store_big_eq {W : World} {gb o n : Nat} {t : TypeId} {pre mid vs ws : List Value} {K : World → Prop} (hvs : vs = ws) (hr : Row W gb t ⟨pre ++ mid⟩) (hp : pre.length = o) (hm : mid.length = n) (hl : ws.length = n) (h1 : ∀ v ∈ ws, v.oneCell' = true)
    (hK : K (W.setRow gb ⟨pre ++ ws⟩)) : vs.length = n ∧ (∀ qv : Value, qv ∈ vs → qv.oneCell' = true) ∧ ∃ (g o' : Nat) (cur : List Value) (ty : TypeId), Addr.mk gb o none = Addr.mk g o' none ∧ Row W g ty ⟨cur⟩ ∧ o' + vs.length ≤ cur.length ∧
      K (W.setRow g ⟨cur.take o' ++ (vs ++ cur.drop (o' + vs.length))⟩) := by
  subst hvs
  exact store_big hr hp hm hl h1 hK
theorem cutNot_eq (s : List UInt8) : (Go.Lib.trimPrefix s [33], Go.Lib.hasPrefix s [33]) = cutNot s := by
  cases s with
  | nil => rfl
  | cons a r =>
    unfold Go.Lib.trimPrefix Go.Lib.hasPrefix cutNot
    by_cases h : a = 33
    · subst h; simp [List.isPrefixOf]
    · have : ¬ (33 : UInt8) = a := fun e => h e.symm
      simp [List.isPrefixOf, h, this]
theorem setL_out {n : Nat} {s : List UInt8} {f : Bool} {S : Set8} (hn : 0 < n) (h : goesOn s f = false) : setL n s f S = (S, s) := by
  cases n with
  | zero => omega
  | succ n => rw [setL, if_neg (by rw [h]; decide)]

set_option maxRecDepth 10000 in
theorem set_spec (s : List UInt8) : Calls Try.prog fn_pattern_set #[.string (S s)] w
    (fun e w' => ((∃ S0 r, mkSet s = some (S0, r) ∧ e = .returned (.tuple #[.agg ⟨bcells S0⟩, .string (S r), .bool true])) ∨ (mkSet s = none ∧ ∃ S0, e = .returned (.tuple #[.agg ⟨bcells S0⟩, .string (S []), .bool false]))) ∧ Still w w') := by
  refine pattern_set_calls _ _ _ ?_
  have hr0 : Row (w.alloc (.cells ⟨List.replicate 256 (.bool false)⟩ 40)) w.heap.size 40 ⟨[] ++ bcells (fun _ => false)⟩ := by
    rw [List.nil_append, bcells_false]
    exact Row.new _ _ _
  have hm0 : Still w (w.alloc (.cells ⟨List.replicate 256 (.bool false)⟩ 40)) := (Mod.refl _ _).alloc _
  refine (Try.strings_CutPrefix (S s) (S [33]) _).mono ?_
  rintro _ w1 ⟨rfl, rfl⟩
  have hcut := cutNot_eq s
  refine .inl ⟨Go.Lib.trimPrefix s [33], Go.Lib.hasPrefix s [33], rfl, ?_⟩
  have hc1 : Go.Lib.trimPrefix s [33] = (cutNot s).1 := by rw [← hcut]
  have hc2 : Go.Lib.hasPrefix s [33] = (cutNot s).2 := by rw [← hcut]
  rw [hc1, hc2]
  have hmk : mkSet s = match setL ((cutNot s).1.length + 1) (cutNot s).1 true (fun _ => false) with
    | (_, []) => none
    | (S, _ :: r) => some (fun c => S c != (cutNot s).2, r) := rfl
  rw [hmk]
  generalize (cutNot s).1 = s0
  generalize (cutNot s).2 = neg
  have hgb : w.heap.size < (w.alloc (.cells ⟨List.replicate 256 (.bool false)⟩ 40)).heap.size := hr0.lt
  generalize w.alloc (.cells ⟨List.replicate 256 (.bool false)⟩ 40) = w0 at hr0 hm0 hgb ⊢
  refine ⟨fun s1 first w2 => ∃ (n : Nat) (S0 : Set8), s1.length < n ∧ setL n s1 first S0 = setL (s0.length + 1) s0 true (fun _ => false) ∧ Row w2 w.heap.size 40 ⟨[] ++ bcells S0⟩ ∧ Still w w2, fun s1 _ _ => s1.length, ⟨s0.length + 1, _, by omega, rfl, hr0, hm0⟩, ?_⟩
  rintro s1 first _ w2 ⟨n, S0, hn, hset, hr, hm⟩
  refine ⟨fun w' => goesOn s1 first = true ∧ w' = w2, ⟨fun x w' => x = goesOn s1 first ∧ w' = w2, ?_, ?_⟩, ?_⟩
  · cases s1 with
    | nil => exact bsel_of (fun h => by simp at h) (fun _ => ⟨rfl, rfl⟩)
    | cons a r =>
      refine bsel_of (fun _ => bsel_of (fun hf => ⟨by simp [goesOn, hf], rfl⟩) (fun hf => ⟨by decide, a, rfl, ?_, rfl⟩)) (fun h => by simp at h)
      rw [hf]
      simp only [goesOn, Bool.false_or]
      by_cases ha : a = 93
      · subst ha; rfl
      · have : ¬ ((a.toNat : Int) = 93) := fun e => ha (UInt8.toNat_inj.1 (Int.ofNat_inj.1 e))
        simp [ha, this]
  · rintro x _ w3 ⟨rfl, rfl⟩
    refine bsel_of (fun h => ⟨h, rfl⟩) (fun h => ?_)
    rw [setL_out (by omega) h] at hset
    rw [← hset]
    refine bsel_of (fun he => ?_) (fun he => ?_)
    · obtain rfl := of_decide_eq_true he
      have hs2 := store_big (K := fun w' => ∃ v1 : List Value, v1.length = 256 ∧ (∀ (j : Nat) (u : Value), v1[j]? = some u → w'.cell? ((Addr.mk w.heap.size 0 none).add j) = some u) ∧
        ((∃ S0 r, none = some (S0, r) ∧ Ending.returned (.tuple #[(.agg ⟨v1⟩), (.string (S ([] : List UInt8))), (.bool false)]) = .returned (.tuple #[.agg ⟨bcells S0⟩, .string (S r), .bool true])) ∨ ((none : Option (Set8 × List UInt8)) = none ∧ ∃ S0, Ending.returned (.tuple #[(.agg ⟨v1⟩), (.string (S ([] : List UInt8))), (.bool false)]) = .returned (.tuple #[.agg ⟨bcells S0⟩, .string (S []), .bool false]))) ∧ Still w w')
        hr rfl (bcells_length _) (bcells_length S0) (bcells_one _) ?_
      · refine ⟨bcells S0, bcells_length _, ?_, hs2⟩
        intro j u hu
        rw [add_row, Nat.zero_add]
        exact hr.cellv (by simpa using hu)
      · refine ⟨bcells S0, bcells_length _, ?_, .inr ⟨rfl, S0, rfl⟩, hm.setRow (.inr (Nat.le_refl _)) _⟩
        intro j u hu
        rw [add_row, Nat.zero_add]
        exact (hr.setRow ⟨[] ++ bcells S0⟩).cellv (by simpa using hu)
    · have hne : s1 ≠ [] := of_decide_eq_false he
      obtain ⟨a, r, rfl⟩ := List.exists_cons_of_ne_nil hne
      dsimp only
      refine ⟨fun w' => Row w' w.heap.size 40 ⟨[] ++ bcells (fun c => S0 c != neg)⟩ ∧ Still w w', ?_, ?_⟩
      · refine bsel_of (fun hneg => ?_) (fun hneg => ?_)
        · refine (turn_spec hr rfl).mono ?_
          rintro _ w4 ⟨rfl, hm4, hr4⟩
          refine .inl ⟨rfl, ?_, ?_⟩
          · rw [bcells_congr (T := fun c => !S0 c) (fun c => by rw [hneg]; cases S0 c <;> rfl)]
            exact hr4
          · exact Mod.trans hm hm4 (fun _ h => h) (fun i hi h => by omega)
        · refine ⟨?_, hm⟩
          rw [bcells_congr (T := S0) (fun c => by rw [hneg]; cases S0 c <;> rfl)]
          exact hr
      · rintro _ w5 ⟨hr5, hm5⟩
        generalize (fun c => S0 c != neg) = S1 at hr5 ⊢
        refine ⟨fun wq => Row wq w.heap.size 40 ⟨[] ++ bcells S1⟩, hr5.drew, bcells S1, bcells_length _, ?_, by decide, by simp only [List.length_cons]; omega, ?_⟩
        · intro j u hu wq hq
          rw [add_row, Nat.zero_add]
          exact hq.cellv (by simpa using hu)
        have hs2 := store_big (K := fun w' => ∃ v1 : List Value, v1.length = 256 ∧ (∀ (j : Nat) (u : Value), v1[j]? = some u → w'.cell? ((Addr.mk w.heap.size 0 none).add j) = some u) ∧
          ((∃ S0 r', some (S1, r) = some (S0, r') ∧ Ending.returned (.tuple #[(.agg ⟨v1⟩), (.string (S ((a :: r).drop (Int.toNat 1)))), (.bool true)]) = .returned (.tuple #[.agg ⟨bcells S0⟩, .string (S r'), .bool true])) ∨ (some (S1, r) = none ∧ ∃ S0, Ending.returned (.tuple #[(.agg ⟨v1⟩), (.string (S ((a :: r).drop (Int.toNat 1)))), (.bool true)]) = .returned (.tuple #[.agg ⟨bcells S0⟩, .string (S []), .bool false]))) ∧ Still w w')
          hr5.drew rfl (bcells_length _) (bcells_length S1) (bcells_one _) ?_
        · exact hs2
        · refine ⟨bcells S1, bcells_length _, ?_, .inl ⟨S1, r, rfl, rfl⟩, hm5.drew.setRow (.inr (Nat.le_refl _)) _⟩
          intro j u hu
          rw [add_row, Nat.zero_add]
          exact (hr5.drew.setRow ⟨[] ++ bcells S1⟩).cellv (by simpa using hu)
  · rintro _ w6 ⟨hgo, rfl⟩
    have hne := goesOn_ne hgo
    refine (single_spec hne).mono ?_
    rintro _ w7 ⟨rfl, rfl⟩
    refine .inl ⟨_, _, rfl, ?_⟩
    refine ⟨fun s2 high w9 => s2 = (dash (single s1).1 (single s1).2).2 ∧ high = ((dash (single s1).1 (single s1).2).1.toNat : Int) ∧ Row w9 w.heap.size 40 ⟨[] ++ bcells S0⟩ ∧ Still w w9, ?_, ?_⟩
    · generalize (single s1).2 = q
      generalize (single s1).1 = lo
      have hd := hr.drew
      have hmd := hm.drew
      match q with
      | [] => exact bsel_of (fun h => by simp at h) (fun _ => ⟨rfl, rfl, hd, hmd⟩)
      | [a] => exact bsel_of (fun h => by simp at h) (fun _ => ⟨rfl, rfl, hd, hmd⟩)
      | a :: c :: r =>
        refine bsel_of (fun _ => ⟨by decide, a, rfl, bsel_of (fun ha => ⟨by decide, c, rfl, bsel_of (fun hc => ?_) (fun hc => ?_)⟩) (fun ha => ?_)⟩) (fun h => ?_)
        · have ha : a = 45 := UInt8.toNat_inj.1 (Int.ofNat_inj.1 (of_decide_eq_true ha))
          have hc : c ≠ 93 := by
            rintro rfl
            exact absurd hc (by decide)
          have hdash : dash lo (a :: c :: r) = single (c :: r) := by simp only [dash, if_pos (And.intro ha hc)]
          rw [hdash]
          refine ⟨by decide, by simp only [List.length_cons]; omega, (single_spec (p := c :: r) (List.cons_ne_nil _ _)).mono ?_⟩
          rintro _ w8 ⟨rfl, rfl⟩
          exact .inl ⟨_, _, rfl, rfl, rfl, hd.drew, hmd.drew⟩
        · have hc : c = 93 := by
            have : decide ((c.toNat : Int) = 93) = true := by simpa using hc
            exact UInt8.toNat_inj.1 (Int.ofNat_inj.1 (of_decide_eq_true this))
          have hdash : dash lo (a :: c :: r) = (lo, a :: c :: r) := by simp only [dash]; rw [if_neg (fun h => h.2 hc)]
          rw [hdash]
          exact ⟨rfl, rfl, hd, hmd⟩
        · have ha : ¬ a = 45 := fun e => of_decide_eq_false ha (by rw [e]; rfl)
          have hdash : dash lo (a :: c :: r) = (lo, a :: c :: r) := by simp only [dash]; rw [if_neg (fun h => ha h.1)]
          rw [hdash]
          exact ⟨rfl, rfl, hd, hmd⟩
        · simp at h
          omega
    · rintro s2 high _ w9 ⟨rfl, rfl, hr9, hm9⟩
      refine (add_spec hr9 rfl _ _).mono ?_
      rintro _ w10 ⟨rfl, hm10, hr10⟩
      have hlen := step_length hne
      obtain ⟨m, rfl⟩ : ∃ m, n = m + 1 := ⟨n - 1, by omega⟩
      refine .inl ⟨rfl, ⟨m, _, by omega, ?_, hr10, Mod.trans hm9 hm10 (fun _ h => h) (fun i hi h => by omega)⟩, hlen⟩
      rw [← hset, setL, if_pos hgo]
end Go.Proofs.Ytjkbpdhpmcndlaa
