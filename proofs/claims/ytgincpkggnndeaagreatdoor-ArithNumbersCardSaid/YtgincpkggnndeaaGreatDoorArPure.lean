/- Expressions of numbers: plain laws of what they are worth. Conditions: none; no program is named but by its numbers. -/
import Derived.Test.YtgincpkggnndeaaGreatDoorArVar
namespace Go.Proofs.YtgincpkggnndeaaGreatDoor
open Go.RowKit Vc

theorem andP_ok {α β : Type} {r : Pr α} {f : α → Pr β} {b : β} (h : andP r f = .ok b) : ∃ a, r = .ok a ∧ f a = .ok b := by
  cases r with
  | bad k => cases h
  | ok a => exact ⟨a, rfl, h⟩
theorem ev_len : ∀ (t : Tm) (V : List Vr) (z : Int × List Vr), ev t V = .ok z → z.2.length ≤ V.length + szT t
  | .num n, V, z, h => by
    injection h with h
    rw [← h]
    exact Nat.le_add_right _ _
  | .nam x, V, z, h => by
    simp only [ev] at h
    obtain ⟨n, _, h⟩ := andP_ok h
    injection h with h
    rw [← h]
    exact Nat.le_add_right _ _
  | .sgn op t, V, z, h => by
    simp only [ev] at h
    obtain ⟨p, h1, h⟩ := andP_ok h
    injection h with h
    rw [← h]
    exact ev_len t V p h1
  | .bin op a b, V, z, h => by
    simp only [ev] at h
    obtain ⟨p, h1, h⟩ := andP_ok h
    have i1 := ev_len a V p h1
    simp only [szT]
    split at h
    · split at h
      · injection h with h
        rw [← h]
        dsimp only
        omega
      · obtain ⟨q, h2, h⟩ := andP_ok h
        have i2 := ev_len b p.2 q h2
        injection h with h
        rw [← h]
        dsimp only
        omega
    · split at h
      · split at h
        · injection h with h
          rw [← h]
          dsimp only
          omega
        · obtain ⟨q, h2, h⟩ := andP_ok h
          have i2 := ev_len b p.2 q h2
          injection h with h
          rw [← h]
          dsimp only
          omega
      · obtain ⟨q, h2, h⟩ := andP_ok h
        have i2 := ev_len b p.2 q h2
        obtain ⟨y, _, h⟩ := andP_ok h
        injection h with h
        rw [← h]
        dsimp only
        omega
  | .cho c a b, V, z, h => by
    simp only [ev] at h
    obtain ⟨p, h1, h⟩ := andP_ok h
    have i1 := ev_len c V p h1
    simp only [szT]
    split at h
    · have i2 := ev_len a p.2 z h
      omega
    · have i2 := ev_len b p.2 z h
      omega
  | .set x op t, V, z, h => by
    simp only [ev] at h
    obtain ⟨p, h1, h⟩ := andP_ok h
    have i1 := ev_len t V p h1
    obtain ⟨y, _, h⟩ := andP_ok h
    have i2 := setR_len p.2 x (Lib.itoa y)
    unfold setW at h
    split at h
    · injection h with h
      rw [← h]
      simp only [szT]
      omega
    · cases h
theorem evalR_len {s : Txt} {V : List Vr} {z : Int × List Vr} (h : evalR s V = .ok z) : z.2.length ≤ V.length + s.length := by
  have htl := trim_len s
  unfold evalR at h
  split at h
  · injection h with h
    rw [← h]
    exact Nat.le_add_right _ _
  · split at h
    · cases h
    · rename_i p hp
      split at h
      · have h1 := ev_len _ _ _ h
        have h2 := ps_sz _ _ _ p.1 p.2 (by rw [rd_eq, hp])
        simp only [accSz] at h2
        omega
      · cases h
theorem ps_mono : ∀ (f : Nat) (m : Md) (s : Txt) (q : Pr (Tm × Txt)), ps f m s = some q → ps (f + 1) m s = some q
  | 0, _, _, _, h => by simp [ps] at h
  | f + 1, .expr d, s, q, h => by
    rw [ps] at h ⊢
    split at h
    · rename_i hd
      rw [if_pos hd]
      exact h
    · rename_i hd
      rw [if_neg hd]
      split at h
      · rename_i n o r ha
        rcases andR_some h with ⟨k, h1, rfl⟩ | ⟨t, r', h1, h2⟩
        · rw [ps_mono f _ _ _ h1]; rfl
        · rw [ps_mono f _ _ _ h1]; exact h2
      · rename_i ha
        exact ps_mono f _ _ _ h
  | f + 1, .cho d, s, q, h => by
    rw [ps] at h ⊢
    rcases andR_some h with ⟨k, h1, rfl⟩ | ⟨c, r, h1, h2⟩
    · rw [ps_mono f _ _ _ h1]; rfl
    · rw [ps_mono f _ _ _ h1]
      show (if opAt r ≠ [63] then _ else _) = _
      split at h2
      · rename_i ho
        rw [if_pos ho]
        exact h2
      · rename_i ho
        rw [if_neg ho]
        rcases andR_some h2 with ⟨k, h3, rfl⟩ | ⟨a, r2, h3, h4⟩
        · rw [ps_mono f _ _ _ h3]; rfl
        · rw [ps_mono f _ _ _ h3]
          show (if opAt r2 ≠ [58] then _ else _) = _
          split at h4
          · rename_i ho2
            rw [if_pos ho2]
            exact h4
          · rename_i ho2
            rw [if_neg ho2]
            rcases andR_some h4 with ⟨k, h5, rfl⟩ | ⟨b, r3, h5, h6⟩
            · rw [ps_mono f _ _ _ h5]; rfl
            · rw [ps_mono f _ _ _ h5]; exact h6
  | f + 1, .lev l d, s, q, h => by
    rw [ps] at h ⊢
    split at h
    · rename_i hl
      rw [if_pos hl]
      exact ps_mono f _ _ _ h
    · rename_i hl
      rw [if_neg hl]
      rcases andR_some h with ⟨k, h1, rfl⟩ | ⟨a, r, h1, h2⟩
      · rw [ps_mono f _ _ _ h1]; rfl
      · rw [ps_mono f _ _ _ h1]; exact ps_mono f _ _ _ h2
  | f + 1, .loop l d a, s, q, h => by
    rw [ps] at h ⊢
    split at h
    · rename_i ho
      rw [if_pos ho]
      rcases andR_some h with ⟨k, h1, rfl⟩ | ⟨b, r, h1, h2⟩
      · rw [ps_mono f _ _ _ h1]; rfl
      · rw [ps_mono f _ _ _ h1]; exact ps_mono f _ _ _ h2
    · rename_i ho
      rw [if_neg ho]
      exact h
  | f + 1, .sig d, s, q, h => by
    rw [ps] at h ⊢
    split at h
    · rename_i hd
      rw [if_pos hd]
      exact h
    · rename_i hd
      rw [if_neg hd]
      split at h
      · rename_i ho
        rw [if_pos ho]
        rcases andR_some h with ⟨k, h1, rfl⟩ | ⟨t, r', h1, h2⟩
        · rw [ps_mono f _ _ _ h1]; rfl
        · rw [ps_mono f _ _ _ h1]; exact h2
      · rename_i ho
        rw [if_neg ho]
        split at h
        · rename_i hp
          rw [if_pos hp]
          rcases andR_some h with ⟨k, h1, rfl⟩ | ⟨t, r', h1, h2⟩
          · rw [ps_mono f _ _ _ h1]; rfl
          · rw [ps_mono f _ _ _ h1]; exact h2
        · rename_i hp
          rw [if_neg hp]
          exact h
theorem ps_more {f : Nat} {m : Md} {s : Txt} {q : Pr (Tm × Txt)} (h : ps f m s = some q) : ∀ k, ps (f + k) m s = some q
  | 0 => h
  | k + 1 => ps_mono _ _ _ _ (ps_more h k)
/-- With whatever fuel it is read, it is read so. -/
theorem rd_of {f : Nat} {s : Txt} {q : Pr (Tm × Txt)} (h : ps f (.expr 1) s = some q) : rd s = q := by
  have h1 := ps_more h (50 * s.length + 100)
  have h2 := ps_more (rd_eq s) f
  rw [Nat.add_comm] at h2
  rw [h1] at h2
  exact (Option.some.inj h2).symm
theorem evalR_of {s r : Txt} {V : List Vr} {t : Tm} {f : Nat} (h0 : trim s ≠ []) (h : ps f (.expr 1) (trim s) = some (.ok (t, r))) (hr : trim r = []) : evalR s V = ev t V := by
  unfold evalR
  rw [if_neg h0, rd_of h]
  dsimp only
  rw [if_pos hr]
theorem evalR_bad {s r : Txt} {V : List Vr} {t : Tm} {f : Nat} (h0 : trim s ≠ []) (h : ps f (.expr 1) (trim s) = some (.ok (t, r))) (hr : trim r ≠ []) : evalR s V = .bad 130 := by
  unfold evalR
  rw [if_neg h0, rd_of h]
  dsimp only
  rw [if_neg hr]
/-! ### Digits, read again -/
theorem isHex_dig {c : UInt8} (h : isDig c = true) : isHexC c = true := by
  unfold isDig at h
  unfold isHexC
  rw [h]
  rfl
theorem dec_head {n : Nat} (h : 0 < n) : ∃ c r, dec n = c :: r ∧ c ≠ 48 := by
  induction n using Nat.strongRecOn with
  | _ n ih =>
    by_cases h10 : n < 10
    · rw [dec_small h10]
      refine ⟨_, [], rfl, fun e => ?_⟩
      have : ∀ n, n < 10 → UInt8.ofNat (48 + n) = 48 → n = 0 := by decide
      have := this n h10 e
      omega
    · obtain ⟨c, r, h1, h2⟩ := ih (n / 10) (by omega) (by omega)
      rw [dec_step h10, h1]
      exact ⟨c, _, rfl, h2⟩
theorem base_dec (n : Nat) : baseOf (dec n) = (10, dec n) := by
  rcases Nat.eq_zero_or_pos n with rfl | h
  · rw [dec_small (by decide)]
    decide
  · obtain ⟨c, r, h1, h2⟩ := dec_head h
    rw [h1, baseOf_cases]
    rw [if_neg (fun e => by rcases e.2 with e | e <;> (cases r with
      | nil => simp at e
      | cons d r => simp at e; exact h2 e.1)), if_neg (fun e => by simp at e; exact h2 e.2)]
theorem numV_dec {n : Nat} (h : n ≤ 9223372036854775807) : numV (dec n) = some (n : Int) := by
  obtain ⟨h1, h2⟩ := dec_digs n
  have hx : (dec n).all isHexC = true := by
    rw [List.all_eq_true] at h1 ⊢
    exact fun c hc => isHex_dig (h1 c hc)
  rw [numV_eq]
  unfold numR13
  rw [base_dec]
  dsimp only
  rw [if_neg (dec_ne n)]
  have hs := numS_scan (b := 10) (by decide) (n := 0) hx (by decide)
  have hd := scanU_digs (n := 0) h1 (by rw [h2]; omega)
  rw [h2] at hd
  rw [hd] at hs
  cases hn : numS 10 (dec n) 0 with
  | some m => rw [hn] at hs; simp at hs; simp_all
  | none => rw [hn] at hs; simp at hs; omega
theorem worth_itoa {n : Int} (h : I64 n) (hm : n ≠ -9223372036854775808) : worthV (Lib.itoa n) = some n := by
  unfold Lib.itoa
  by_cases h0 : n < 0
  · rw [if_pos h0]
    have : worthV (45 :: Lib.decDigits n.natAbs) = (numV (dec n.natAbs)).map fun m => -m := by simp only [worthV]; rw [if_pos trivial]
    rw [this, numV_dec (by have := h.1; omega)]
    have : -((n.natAbs : Nat) : Int) = n := by omega
    rw [Option.map_some, this]
  · rw [if_neg h0]
    have hd : worthV (dec n.toNat) = numV (dec n.toNat) := by
      obtain ⟨h1, h2⟩ := dec_digs n.toNat
      cases hx : dec n.toNat with
      | nil => exact absurd hx (dec_ne _)
      | cons c r =>
        simp only [worthV]
        rw [if_neg]
        rintro rfl
        rw [hx] at h1
        simp [isDig] at h1
    show worthV (dec n.toNat) = _
    rw [hd, numV_dec (by have := h.2; omega)]
    congr 1
    omega
/-! ### An error is never none -/
theorem ev_err : ∀ (t : Tm) (V : List Vr), ev t V ≠ .bad 0
  | .num n, V => by intro h; cases h
  | .nam x, V => by
    intro h
    simp only [ev] at h
    cases hg : getW x V with
    | bad k => rw [hg] at h; injection h with h; exact getW_bad hg h
    | ok n => rw [hg] at h; cases h
  | .sgn op t, V => by
    intro h
    simp only [ev] at h
    cases hg : ev t V with
    | bad k => rw [hg] at h; injection h with h; exact ev_err t V (by rw [hg, h])
    | ok n => rw [hg] at h; cases h
  | .bin op a b, V => by
    intro h
    simp only [ev] at h
    cases ha : ev a V with
    | bad k => rw [ha] at h; injection h with h; exact ev_err a V (by rw [ha, h])
    | ok p =>
      rw [ha] at h
      simp only [andP] at h
      cases hb : ev b p.2 with
      | bad k =>
        rw [hb] at h
        have hk : k ≠ 0 := by rintro rfl; exact ev_err b p.2 hb
        split at h
        · split at h
          · cases h
          · injection h with h; exact hk h
        · split at h
          · split at h
            · cases h
            · injection h with h; exact hk h
          · injection h with h; exact hk h
      | ok q =>
        rw [hb] at h
        split at h
        · split at h <;> cases h
        · split at h
          · split at h <;> cases h
          · cases hr : reck op p.1 q.1 with
            | bad k =>
              simp only [hr] at h
              injection h with h
              exact reck_bad hr h
            | ok z => simp only [hr] at h; cases h
  | .cho c a b, V => by
    intro h
    simp only [ev] at h
    cases hc : ev c V with
    | bad k => rw [hc] at h; injection h with h; exact ev_err c V (by rw [hc, h])
    | ok p =>
      rw [hc] at h
      simp only [andP] at h
      split at h
      · exact ev_err a p.2 h
      · exact ev_err b p.2 h
  | .set x op t, V => by
    intro h
    simp only [ev] at h
    cases ht : ev t V with
    | bad k => rw [ht] at h; injection h with h; exact ev_err t V (by rw [ht, h])
    | ok p =>
      rw [ht] at h
      have fin : ∀ z, setW p.2 x z ≠ .bad 0 := by
        intro z hz
        unfold setW at hz
        have he := setR_err p.2 x (Lib.itoa z)
        split at hz
        · cases hz
        · injection hz with hz
          omega
      simp only [andP] at h
      split at h
      · rename_i k hk
        injection h with h
        subst h
        split at hk
        · cases hk
        · cases hg : getW x p.2 with
          | bad k => rw [hg] at hk; injection hk with hk; exact getW_bad hg hk
          | ok m => rw [hg] at hk; exact reck_bad hk rfl
      · exact fin _ h
theorem prim_err (s : Txt) : prim s ≠ .bad 0 := by
  unfold prim
  dsimp only
  split
  · intro h; cases h
  · split
    · intro h; cases h
    · intro h; injection h with h; omega
theorem Cl_err {m : Cm} {s : Txt} {q : Pr (Tm × Txt)} (h : Cl m s q) : q ≠ .bad 0 := by
  induction h with
  | unPrim => exact prim_err _
  | exSetBad _ _ _ ih => exact ih
  | exCond _ _ _ ih => exact ih
  | coBad _ ih => exact ih
  | coABad _ _ _ _ ih => exact ih
  | coBBad _ _ _ _ _ _ _ ih => exact ih
  | binBad _ ih => exact ih
  | bin _ _ _ ih => exact ih
  | blBad _ _ ih => exact ih
  | blStep _ _ _ _ ih => exact ih
  | unOpBad _ _ _ ih => exact ih
  | unParBad _ _ _ ih => exact ih
  | _ => intro h; first | (cases h; done) | (injection h with h; omega)
theorem evalR_err (s : Txt) (V : List Vr) : evalR s V ≠ .bad 0 := by
  unfold evalR
  split
  · intro h; cases h
  · split
    · rename_i k hk
      intro h
      injection h with h
      subst h
      have := Cl_err (rd_cl (trim s))
      exact this hk
    · split
      · exact ev_err _ _
      · intro h; injection h with h; omega
end Go.Proofs.YtgincpkggnndeaaGreatDoor
