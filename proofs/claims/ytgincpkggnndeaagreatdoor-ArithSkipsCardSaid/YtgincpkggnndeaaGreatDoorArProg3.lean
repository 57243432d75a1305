/- Expressions of numbers: variables got and set. Conditions: the library's tables and errors lie as its text lays them (Env); the variables rise by name. -/
import Derived.Test.YtgincpkggnndeaaGreatDoorArProg2
import Derived.Test.YtgincpkggnndeaaGreatDoorVarSet
import Derived.Lib.ItoaLen
namespace Go.Proofs.YtgincpkggnndeaaGreatDoor
open Go.RowKit Vc
variable {w : World}

theorem cutMinus (s : Txt) : Calls Tryz.prog fn_strings_CutPrefix #[.string (S s), .string (S [45])] w (fun e w' => e = .returned (.tuple #[.string (S (if [45].isPrefixOf s = true then s.drop 1 else s)), .bool (([45] : Txt).isPrefixOf s)]) ∧ w' = w) := by
  refine strings_CutPrefix_calls _ _ _ _ ?_
  have h : Calls Tryz.prog fn_internal_stringslite_CutPrefix #[.string (S s), .string (S [45])] w (fun e w' => e = .returned (.tuple #[.string (S (if [45].isPrefixOf s = true then s.drop 1 else s)), .bool (([45] : Txt).isPrefixOf s)]) ∧ w' = w) := by
    refine internal_stringslite_CutPrefix_calls _ _ _ _ ?_
    refine (Tryz.stringslite_HasPrefix _ _ _).mono ?_
    rintro _ w1 ⟨rfl, rfl⟩
    have ep : Lib.hasPrefix (S s).data.toList (S [45]).data.toList = ([45] : Txt).isPrefixOf s := rfl
    rw [ep]
    refine .inl ⟨_, rfl, ?_⟩
    cases hp : ([45] : Txt).isPrefixOf s with
    | false => exact bsel_of (fun _ => ⟨rfl, rfl⟩) (fun h => by cases h)
    | true =>
      refine bsel_of (fun h => by cases h) (fun _ => ?_)
      have hl : 1 ≤ s.length := by
        rw [List.isPrefixOf_iff_prefix] at hp
        exact hp.length_le
      exact ⟨by decide, by simp only [List.length_cons, List.length_nil]; omega, rfl, rfl⟩
  refine h.mono ?_
  rintro _ w1 ⟨rfl, rfl⟩
  exact .inl ⟨_, _, rfl, rfl, rfl⟩
theorem worth_spec (he : Env w) (s : Txt) (hs : s.length ≤ 140737488355328) :
    Calls Tryz.prog fn_arith_worth #[.string (S s)] w (fun e w' => (∃ (m : Int) (ok : Bool), e = .returned (.tuple #[.int .i64 m, .bool ok]) ∧ (match worthV s with
      | some n => m = n ∧ ok = true
      | none => ok = false)) ∧ Still w w') := by
  refine arith_worth_calls _ _ _ ?_
  refine bsel_of (fun h => ?_) (fun h => ?_)
  · have h := of_decide_eq_true h
    subst h
    exact ⟨⟨_, _, rfl, rfl, rfl⟩, Still.refl _⟩
  have h : s ≠ [] := of_decide_eq_false h
  refine (cutMinus s).mono ?_
  rintro _ w1 ⟨rfl, rfl⟩
  refine .inl ⟨_, _, rfl, ?_⟩
  cases s with
  | nil => exact absurd rfl h
  | cons c r =>
    have ep : ([45] : Txt).isPrefixOf (c :: r) = decide (c = 45) := by
      simp only [List.isPrefixOf, Bool.and_true]
      by_cases hc : c = 45
      · simp [hc]
      · rw [decide_eq_false hc]
        simp
        exact fun e => hc e.symm
    rw [ep]
    simp only [List.length_cons] at hs
    by_cases hc : c = 45
    · rw [decide_eq_true hc, if_pos rfl]
      refine (value_spec he r (by omega)).mono ?_
      rintro _ w2 ⟨⟨m, ok, rfl, hm, hv⟩, hs2⟩
      refine .inl ⟨_, _, rfl, bsel_of (fun _ => ⟨⟨_, _, rfl, ?_⟩, hs2⟩) (fun h => by cases h)⟩
      have hw : worthV (c :: r) = (numV r).map fun n => -n := by simp only [worthV]; rw [if_pos hc]
      rw [hw]
      cases hn : numV r with
      | none => rw [hn] at hv; exact hv
      | some n =>
        rw [hn] at hv
        obtain ⟨rfl, rfl⟩ := hv
        have := numV_range hn
        refine ⟨?_, rfl⟩
        rw [wrap_i64 (by omega) (by omega)]
        show 0 - m = -m
        omega
    · rw [decide_eq_false hc, if_neg (by decide)]
      refine (value_spec he (c :: r) (by simp only [List.length_cons]; omega)).mono ?_
      rintro _ w2 ⟨⟨m, ok, rfl, hm, hv⟩, hs2⟩
      refine .inl ⟨_, _, rfl, bsel_of (fun h => by cases h) (fun _ => ⟨⟨_, _, rfl, ?_⟩, hs2⟩)⟩
      have hw : worthV (c :: r) = numV (c :: r) := by simp only [worthV]; rw [if_neg hc]
      rw [hw]
      exact hv
/-- The world of an evaluation: its row, and its variables. -/
structure WS (w : World) (g : Nat) (V : List Vr) : Prop where
  row : ∃ p C, Row w g 64 ⟨[.slice p V.length C]⟩ ∧ VarAt w p V.length C V
  rise : Rising V
  txt : ∀ v ∈ V, v.value.length ≤ 140737488355328
theorem WS.still {g : Nat} {V : List Vr} {w' : World} (h : WS w g V) (hm : Still w w') : WS w' g V := by
  obtain ⟨⟨p, C, h1, h2⟩, h3, h4⟩ := h
  exact ⟨⟨p, C, h1.still hm, h2.still hm⟩, h3, h4⟩
theorem getD_txt {V : List Vr} (h : ∀ v ∈ V, v.value.length ≤ 140737488355328) (x : Txt) : (getD x V).value.length ≤ 140737488355328 := by
  have key : ∀ (l : List Vr) v, get x l = some v → v ∈ l := by
    intro l
    induction l with
    | nil => intro v hv; cases hv
    | cons a l ih =>
      intro v hv
      simp only [get] at hv
      split at hv
      · exact List.mem_cons_of_mem _ (ih v hv)
      · split at hv
        · injection hv with hv
          rw [← hv]
          exact List.mem_cons_self ..
        · cases hv
  unfold getD
  cases hg : get x V with
  | none => exact Nat.zero_le _
  | some v => exact h v (key V v hg)
theorem wget_spec (he : Env w) {g : Nat} {V : List Vr} (h : WS w g V) (hn : V.length < 900000) (x : Txt) :
    Calls Tryz.prog fn_arith_world_get #[.pointer (some ⟨g, 0, none⟩), .string (S x)] w (fun e w' => Ans (getW x V) e ∧ Still w w') := by
  obtain ⟨⟨p, C, h1, h2⟩, h3, h4⟩ := h
  refine arith_world_get_calls _ _ _ _ ?_
  refine ⟨_, _, _, h1.lget rfl, (get_spec h2 h3 (by omega) x).mono ?_⟩
  rintro _ w2 ⟨rfl, hs2⟩
  refine .inl ⟨_, _, _, _, _, rfl, ?_⟩
  refine boxK (vs := [.string (S (getD x V).name), .string (S (getD x V).value), .bool (getD x V).exp, .bool (getD x V).ro]) rfl (by simp [Value.oneCell']) fun w4 hr4 hs4 hz4 => ?_
  refine ⟨_, hr4.lget rfl, ?_⟩
  have hst4 := hs2.trans hs4
  refine (worth_spec (he.still hst4) _ (getD_txt h4 x)).mono ?_
  rintro _ w5 ⟨⟨m, ok, rfl, hv⟩, hs5⟩
  refine .inl ⟨_, _, rfl, (want_spec ok 130).mono ?_⟩
  rintro _ w6 ⟨h6, rfl⟩
  unfold getW
  cases hw : worthV (getD x V).value with
  | none =>
    rw [hw] at hv
    subst hv
    rw [if_neg (by decide)] at h6
    subst h6
    exact .inr ⟨_, rfl, rfl, hst4.trans hs5⟩
  | some n =>
    rw [hw] at hv
    obtain ⟨rfl, rfl⟩ := hv
    rw [if_pos rfl] at h6
    subst h6
    exact .inl ⟨rfl, rfl, hst4.trans hs5⟩
theorem setR_err (V : List Vr) (x y : Txt) : (setR V x y).2 = 0 ∨ (setR V x y).2 = 150 ∨ (setR V x y).2 = 1 := by
  unfold setR
  split
  · split
    · exact .inr (.inl rfl)
    · exact .inl rfl
  · exact .inr (.inr rfl)
theorem wset_spec (he : Env w) {g : Nat} {V : List Vr} (h : WS w g V) (hn : V.length < 900000) (x : Txt) (hx : x.length ≤ 9223372036854775807) (z : Int) (hz : I64 z) (hrise : ∀ y, (setR V x y).2 = 0 → Rising (setR V x y).1) :
    Calls Tryz.prog fn_arith_world_set #[.pointer (some ⟨g, 0, none⟩), .string (S x), .int .i64 z] w (fun e w' => (match setW V x z with
      | .ok p => e = .returned (.tuple #[]) ∧ WS w' g p.2
      | .bad k => e = .panicked (errP k)) ∧ Mod (fun k => k = g) w w') := by
  obtain ⟨⟨p, C, h1, h2⟩, h3, h4⟩ := h
  refine arith_world_set_calls _ _ _ _ _ ?_
  refine ⟨fun wq => Still w wq, (Still.refl _).toDrew, _, _, _, fun wq hq => (h1.still hq).lget rfl, ?_⟩
  refine (itoa_spec (w := w.drew) (he.still (Still.refl w).toDrew) z hz.1 hz.2).mono ?_
  rintro _ w2 ⟨rfl, hs2⟩
  have hst2 := (Still.refl w).toDrew.trans hs2
  refine .inl ⟨_, rfl, hst2, (set_spec (h2.still hst2) h3 hn x (Lib.itoa z) hx).mono ?_⟩
  rintro _ w3 ⟨q, D, rfl, hv3, hs3⟩
  have hst3 := hst2.trans hs3
  have hm3 : Mod (fun k => k = g) w w3 := Mod.trans (Mod.refl _ w) hst3 (fun _ h => h) (fun _ _ h => h.elim)
  refine .inl ⟨_, _, _, _, rfl, ?_⟩
  unfold setW
  have hr := hrise (Lib.itoa z)
  have her := setR_err V x (Lib.itoa z)
  have hmem : ∀ v ∈ (setR V x (Lib.itoa z)).1, v.value.length ≤ 140737488355328 := by
    intro v hv
    unfold setR at hv
    split at hv
    · split at hv
      · cases hv
      · rcases ins_mem hv with rfl | hv
        · have := Lib.itoa_length_le z hz.1 (by have := hz.2; omega)
          show (Lib.itoa z).length ≤ _
          omega
        · exact h4 v hv
    · cases hv
  generalize setR V x (Lib.itoa z) = r at *
  obtain ⟨V', k⟩ := r
  dsimp only at *
  by_cases h0 : k = 0
  · subst h0
    rw [if_pos rfl]
    refine (want_spec _ 0).mono ?_
    rintro _ w4 ⟨h6, rfl⟩
    rw [if_pos (show decide ((0 : Int) = 0) = true from rfl)] at h6
    subst h6
    refine .inl ⟨rfl, ?_⟩
    have hr3 := h1.still hst3
    have hne : ∀ a : Addr, q = some a → 0 < V'.length → a.block ≠ g := by
      intro a ha hpos hb
      obtain ⟨a', ha', hc⟩ := hv3.2.2 hpos
      rw [ha] at ha'
      injection ha' with ha'
      subst ha'
      have hv0 : ∃ t, (vcs V')[0]? = some (.string t) := by
        cases V' with
        | nil => exact absurd hpos (Nat.lt_irrefl _)
        | cons v l => exact ⟨_, rfl⟩
      obtain ⟨t, ht⟩ := hv0
      have hcell := hc 0 _ ht
      rw [show a.add 0 = a from rfl] at hcell
      obtain ⟨fz, hh, _⟩ := hr3
      unfold World.cell? at hcell
      rw [hb, hh] at hcell
      dsimp only at hcell
      split at hcell
      · cases hcell
      · cases ho : a.off with
        | zero => rw [ho] at hcell; simp at hcell
        | succ n => rw [ho] at hcell; simp at hcell
    refine stK hr3 (by simp) (by simp [Value.oneCell']) fun w5 hr5 hm5 hz5 => ⟨⟨rfl, ?_⟩, Mod.trans hm3 hm5 (fun _ h => h) (fun _ _ h => h)⟩
    refine ⟨⟨q, D, hr5, hv3.1, hv3.2.1, fun hpos => ?_⟩, hr rfl, hmem⟩
    obtain ⟨a, ha, hc⟩ := hv3.2.2 hpos
    refine ⟨a, ha, fun j u hu => ?_⟩
    have hcell := hc j u hu
    have hb : (a.add j).block = a.block := by unfold Addr.add; split <;> rfl
    exact (World.cell?_of_block (hm5.block _ (World.block_lt_of_cell? _ _ hcell) (by rw [hb]; exact hne a ha hpos))).trans hcell
  · rw [if_neg h0]
    have hk : ((k.toNat : Nat) : Int) = k := by omega
    have hw := want_spec (w := w3) (decide (k = 0)) k.toNat
    rw [hk] at hw
    refine hw.mono ?_
    rintro _ w4 ⟨h6, rfl⟩
    rw [if_neg (by rw [decide_eq_false h0]; decide)] at h6
    subst h6
    exact .inr ⟨_, rfl, rfl, hm3⟩
end Go.Proofs.YtgincpkggnndeaaGreatDoor
