/- strconv: numbers told and read. Conditions: the library's tables and its two errors lie as its text lays them. -/
import Derived.Test.YtgincpkggnndeaaGreatDoorNum
import Derived.Test.YtgincpkggnndeaaGreatDoorShelf
import Derived.Lib.LaidTab
namespace Go.Proofs.YtgincpkggnndeaaGreatDoor
open Go.RowKit Vc
variable {w : World}

/-- The library's variables that strconv reads. -/
structure Env (w : World) : Prop where
  tab : Lib.TabIs Tryz.prog w "internal/strconv.uint64pow10" .u64 Lib.pow10Tab
  es : ∃ v : Value, v.oneCell' = true ∧ w.cell? ⟨4, 0, none⟩ = some v
  er : ∃ v : Value, v.oneCell' = true ∧ w.cell? ⟨5, 0, none⟩ = some v
theorem var_lt {P : Program} {name : String} {g : Nat} {cs : Array Value} (hg : P.globalNamed name = some g) (h : w.var? P name = some cs) : g < w.heap.size := by
  unfold World.var? at h
  rw [hg] at h
  simp only [Option.bind_some] at h
  cases hh : w.heap[g]? with
  | none => rw [hh] at h; cases h
  | some o => exact (Array.getElem?_eq_some_iff.1 hh).1
theorem tab_still {P : Program} {name : String} {g : Nat} {k : IntKind} {zs : List Int} {w' : World} (hg : P.globalNamed name = some g) (h : Lib.TabIs P w name k zs) (hm : Still w w') : Lib.TabIs P w' name k zs := by
  have hlt := var_lt hg h
  unfold Lib.TabIs World.var? at h ⊢
  rw [hg] at h ⊢
  simp only [Option.bind_some] at h ⊢
  rw [hm.block g hlt (fun h => h)]
  exact h
theorem Env.still {w' : World} (h : Env w) (hm : Still w w') : Env w' := by
  obtain ⟨h1, ⟨v2, o2, c2⟩, ⟨v3, o3, c3⟩⟩ := h
  exact ⟨tab_still (g := 3) (by kernel_rfl) h1 hm, ⟨v2, o2, hm.cell c2⟩, ⟨v3, o3, hm.cell c3⟩⟩
theorem still_grow (w : World) (k : Nat) (os : Array Obj) : Still w (Go.Sort.grow (w.drewN k) os) :=
  ⟨rfl, rfl, rfl, by simp [Go.Sort.grow, World.drewN], fun i hi _ => by simp [Go.Sort.grow, World.drewN, Array.getElem?_append_left hi]⟩
theorem itoa_spec (h : Env w) (n : Int) (h0 : -9223372036854775808 ≤ n) (h1 : n < 9223372036854775808) : Calls Tryz.prog fn_strconv_Itoa #[.int .i64 n] w (fun e w' => e = .returned (.string (S (Lib.itoa n))) ∧ Still w w') := by
  refine (Tryz.strconv_Itoa n h0 (by omega) w h.tab).mono ?_
  rintro _ w' ⟨rfl, k, os, rfl⟩
  exact ⟨rfl, still_grow w k os⟩
theorem freeze_mod (w : World) (g n : Nat) : Mod (fun k => k = g) w (w.freeze ⟨g, 0, none⟩ n) := by
  unfold World.freeze
  split
  · exact Mod.refl _ _
  · exact ⟨rfl, rfl, rfl, by simp, fun k hk hn => by
      simp only [Array.getElem?_modify]
      rw [if_neg (fun e => hn e.symm)]⟩
theorem clone_spec (s : Txt) (hs : s.length ≤ 140737488355328) : Calls Tryz.prog fn_internal_stringslite_Clone #[.string (S s)] w (fun e w' => e = .returned (.string (S s)) ∧ Still w w') := by
  refine internal_stringslite_Clone_calls _ _ _ ?_
  refine bsel_of (fun h => ?_) (fun h => ?_)
  · have h : s.length = 0 := by have := of_decide_eq_true h; omega
    obtain rfl := List.eq_nil_of_length_eq_zero h
    exact ⟨rfl, Still.refl _⟩
  have h : s.length ≠ 0 := by have := of_decide_eq_false h; omega
  have h0 : s ≠ [] := fun e => h (by rw [e]; rfl)
  refine ⟨by omega, by omega, by omega, by omega, letIn ?_⟩
  have hsz0 : (madeCells #[(.int .u8 (0 : Int))] (Int.toNat (s.length : Int) * 1)).size = s.length := by rw [size_madeCells]; simp
  have hst0 : Still w (w.alloc (.cells (madeCells #[(.int .u8 (0 : Int))] (Int.toNat (s.length : Int) * 1)) 5)) := (Mod.refl _ _).alloc _
  have hr0 : Row (w.alloc (.cells (madeCells #[(.int .u8 (0 : Int))] (Int.toNat (s.length : Int) * 1)) 5)) w.heap.size 5 (madeCells #[(.int .u8 (0 : Int))] (Int.toNat (s.length : Int) * 1)) := Row.new _ _ _
  generalize w.alloc (.cells (madeCells #[(.int .u8 (0 : Int))] (Int.toNat (s.length : Int) * 1)) 5) = w1 at *
  generalize madeCells #[(.int .u8 (0 : Int))] (Int.toNat (s.length : Int) * 1) = row0 at *
  have ebc : (s.take (min (Int.toNat (s.length : Int)) s.length)).map (fun b => Value.int .u8 b.toNat) = bc s := by rw [Int.toNat_natCast, Nat.min_self, List.take_length]; rfl
  refine ⟨bc s, bc_one s, ebc.symm, .inr ⟨w.heap.size, 0, row0.toList, 5, rfl, hr0, by rw [bc_length]; simp [hsz0], letIn ?_⟩⟩
  have hcs : row0.toList.take 0 ++ (bc s ++ row0.toList.drop (0 + (bc s).length)) = bc s := by
    rw [bc_length, List.drop_of_length_le (by simp [hsz0])]
    simp
  rw [hcs]
  have hr1 := hr0.setRow ⟨bc s⟩ (by simp [hsz0])
  have hst1 : Still w (w1.setRow w.heap.size ⟨bc s⟩) := hst0.setRow (.inr (Nat.le_refl _)) _
  generalize w1.setRow w.heap.size ⟨bc s⟩ = w2 at *
  refine ⟨by decide, by omega, s, rfl, by omega, .inr ⟨h0, w.heap.size, s.length, rfl, by obtain ⟨fz, hh, _⟩ := hr1; show World.shape? _ _ = _; simp [World.shape?, hh], Nat.le_refl _, fun j x hx => ?_, rfl, hst1.box (Nat.le_refl _) (freeze_mod _ _ _)⟩⟩
  exact (by rw [add_row, Nat.zero_add] : (Addr.mk w.heap.size 0 none).add j = Addr.mk w.heap.size j none) ▸ hr1.lget (bc_get hx)
theorem syntaxError_spec (he : Env w) (f s : Txt) (hs : s.length ≤ 140737488355328) : Calls Tryz.prog fn_strconv_syntaxError #[.string (S f), .string (S s)] w (fun e w' => (∃ p, e = .returned (.pointer p)) ∧ Still w w') := by
  refine strconv_syntaxError_calls _ _ _ _ ?_
  obtain ⟨v, h1, h2⟩ := he.es
  refine ⟨fun wq => Still w wq, (Still.refl _).toDrew, v, h1, fun wq hq => hq.cell h2, (clone_spec s hs).mono ?_⟩
  rintro _ w1 ⟨rfl, hs1⟩
  have hst := (Still.refl w).toDrew.trans hs1
  exact .inl ⟨_, rfl, hst, by refine spliceRaw (l := [.string (S f), .string (S s), .nilIface]) h1 (by show 2 < 3; decide) (letIn ⟨⟨_, rfl⟩, hst.alloc _⟩)⟩
theorem rangeError_spec (he : Env w) (f s : Txt) (hs : s.length ≤ 140737488355328) : Calls Tryz.prog fn_strconv_rangeError #[.string (S f), .string (S s)] w (fun e w' => (∃ p, e = .returned (.pointer p)) ∧ Still w w') := by
  refine strconv_rangeError_calls _ _ _ _ ?_
  obtain ⟨v, h1, h2⟩ := he.er
  refine ⟨fun wq => Still w wq, (Still.refl _).toDrew, v, h1, fun wq hq => hq.cell h2, (clone_spec s hs).mono ?_⟩
  rintro _ w1 ⟨rfl, hs1⟩
  have hst := (Still.refl w).toDrew.trans hs1
  exact .inl ⟨_, rfl, hst, by refine spliceRaw (l := [.string (S f), .string (S s), .nilIface]) h1 (by show 2 < 3; decide) (letIn ⟨⟨_, rfl⟩, hst.alloc _⟩)⟩
abbrev NErr (k : Nat) : Value := .iface 144 (.int .i64 (k : Int))
theorem toError_spec (he : Env w) (f s : Txt) (b z : Int) (hs : s.length ≤ 140737488355328) {k : Nat} (hk : k = 1 ∨ k = 2) :
    Calls Tryz.prog fn_strconv_toError #[.string (S f), .string (S s), .int .i64 b, .int .i64 z, NErr k] w (fun e w' => (∃ t v, e = .returned (.iface t v)) ∧ Still w w') := by
  refine strconv_toError_calls _ _ _ _ _ _ _ ?_
  refine ⟨rfl, rfl, ?_⟩
  rcases hk with rfl | rfl
  · refine bsel_of (fun h => by cases h) (fun _ => ⟨rfl, rfl, bsel_of (fun _ => ?_) (fun h => by cases h)⟩)
    refine (rangeError_spec he f s hs).mono ?_
    rintro _ w1 ⟨⟨p, rfl⟩, hs1⟩
    exact .inl ⟨_, rfl, ⟨_, _, rfl⟩, hs1⟩
  · refine bsel_of (fun _ => ?_) (fun h => by cases h)
    refine (syntaxError_spec he f s hs).mono ?_
    rintro _ w1 ⟨⟨p, rfl⟩, hs1⟩
    exact .inl ⟨_, rfl, ⟨_, _, rfl⟩, hs1⟩

/-! ### Numbers read -/
/-- A number and an error, as a reading comes to them. -/
def Read (r : Pr Int) (a b : Value) : Prop := match r with
  | .ok n => a = .int .i64 n ∧ b = .nilIface
  | .bad k => (∃ m : Int, a = .int .i64 m ∧ -9223372036854775808 ≤ m ∧ m < 9223372036854775808) ∧ b = NErr k
def ReadU (r : Pr Nat) (a b : Value) : Prop := match r with
  | .ok n => a = .int .u64 (n : Int) ∧ b = .nilIface
  | .bad k => (a = .int .u64 (if k = 1 then 18446744073709551615 else 0)) ∧ b = NErr k
theorem low_eq (c : UInt8) : bits .or .u8 (c.toNat : Int) 32 = ((lowN c : Nat) : Int) := by
  have h : ∀ n : Nat, n < 256 → bits .or .u8 (n : Int) 32 = ((n ||| 32 : Nat) : Int) := by decide +kernel
  rw [h _ c.toNat_lt]
  unfold lowN
  rw [UInt8.toNat_or]
  rfl
theorem lower_spec (c : UInt8) : Calls Tryz.prog fn_internal_strconv_lower #[.int .u8 (c.toNat : Int)] w (fun e w' => e = .returned (.int .u8 ((lowN c : Nat) : Int)) ∧ w' = w) :=
  internal_strconv_lower_calls _ _ _ ⟨by rw [low_eq], rfl⟩
theorem wrap_u8 {n : Int} (h0 : 0 ≤ n) (h1 : n < 256) : IntKind.u8.wrap n = n := by
  simp only [IntKind.wrap, IntKind.signed, IntKind.bits]
  simp
  omega
theorem wrap_u64_over {n : Int} (h0 : 18446744073709551616 ≤ n) (h1 : n < 36893488147419103232) : IntKind.u64.wrap n = n - 18446744073709551616 := by
  simp only [IntKind.wrap, IntKind.signed, IntKind.bits]
  simp
  omega
theorem over_no {a d : Nat} (hd : d < 36) (h : ¬ ((a : Int) + (d : Int) - 18446744073709551616 < (a : Int))) : False := h (by omega)
theorem lowN_lt (c : UInt8) : lowN c < 256 := (c ||| 32).toNat_lt
theorem digV_lt {c : UInt8} {d : Nat} (h : digV c = some d) : d < 36 := by
  unfold digV at h
  split at h
  · injection h with h; omega
  · split at h
    · injection h with h; omega
    · cases h
set_option maxRecDepth 20000 in
theorem parseUint_spec (b : Nat) (hb : b = 8 ∨ b = 10 ∨ b = 16) (z : Int) (hz : z = 0 ∨ z = 64) (s : Txt) (hs : s.length ≤ 140737488355328) :
    Calls Tryz.prog fn_internal_strconv_ParseUint #[.string (S s), .int .i64 (b : Int), .int .i64 z] w (fun e w' => (∃ x y, e = .returned (.tuple #[x, y]) ∧ ReadU (parseU b s) x y) ∧ Still w w') := by
  refine internal_strconv_ParseUint_calls _ _ _ _ _ ?_
  refine bsel_of (fun h => ?_) (fun h => ?_)
  · have h := of_decide_eq_true h
    subst h
    exact ⟨⟨_, _, rfl, rfl, rfl⟩, Still.refl _⟩
  have h0 : s ≠ [] := of_decide_eq_false h
  have hpu : parseU b s = scanU b s 0 := by unfold parseU; rw [if_neg h0]
  rw [hpu]
  have ubase : IntKind.u64.wrap (b : Int) = (b : Int) := wrap_u64 (by omega) (by omega)
  have ubase8 : IntKind.u8.wrap (b : Int) = (b : Int) := wrap_u8 (by omega) (by omega)
  refine ⟨fun s1 b1 w1 => s = s1 ∧ b1 = (b : Int) ∧ w1 = w, ⟨fun x w1 => x = true ∧ w1 = w, ?_, ?_⟩, ?_⟩
  · exact bsel_of (fun _ => ⟨by rw [decide_eq_true]; omega, rfl⟩) (fun h => by have := of_decide_eq_false h; omega)
  · rintro _ _ w1 ⟨rfl, rfl⟩
    exact bsel_of (fun _ => ⟨rfl, rfl, rfl⟩) (fun h => by cases h)
  rintro _ _ _ w1 ⟨rfl, rfl, rfl⟩
  refine ⟨fun z1 w2 => z1 = 64 ∧ w2 = w1, ?_, ?_⟩
  · rcases hz with rfl | rfl
    · exact bsel_of (fun _ => ⟨rfl, rfl⟩) (fun h => by simp at h)
    · exact bsel_of (fun h => by simp at h) (fun _ => bsel_of (fun h => by simp at h) (fun _ => bsel_of (fun h => by simp at h) (fun _ => ⟨rfl, rfl⟩)))
  rintro _ _ w2 ⟨rfl, rfl⟩
  refine ⟨fun c w3 => c = ((18446744073709551615 / b + 1 : Nat) : Int) ∧ w3 = w2, ?_, ?_⟩
  · rcases hb with rfl | rfl | rfl
    · refine bsel_of (fun h => by simp at h) (fun _ => bsel_of (fun h => by simp at h) (fun _ => ⟨by decide, by decide, rfl⟩))
    · exact bsel_of (fun _ => ⟨by decide, rfl⟩) (fun h => by simp at h)
    · exact bsel_of (fun h => by simp at h) (fun _ => bsel_of (fun _ => ⟨by decide, rfl⟩) (fun h => by simp at h))
  rintro _ _ w3 ⟨rfl, rfl⟩
  refine ⟨by decide, by omega, fun cp w4 ho4 hg4 => ?_⟩
  have hst4 : Still w3 w4 := (Mod.refl _ _).grown hg4 (fun g e => by cases e)
  have hat : ∀ {w5 : World}, Still w4 w5 → ∀ {k : Nat} {c : UInt8}, s[k]? = some c → w5.cell? (Addr.mk w3.heap.size k none) = some (.int .u8 (c.toNat : Int)) := fun hst k c hc => hst.cell (ho4.cells rfl k _ (bc_get hc))
  have emax : IntKind.u64.wrap (IntKind.u64.wrap (1 * 2 ^ (min (Int.toNat (IntKind.u64.wrap 64)) (IntKind.u64.bits))) - 1) = 18446744073709551615 := by decide
  rw [emax, ubase, ubase8]
  refine ⟨fun u n i w5 => ∃ k m : Nat, u = false ∧ n = (m : Int) ∧ i = (k : Int) ∧ k ≤ s.length ∧ m ≤ 18446744073709551615 ∧ scanU b s 0 = scanU b (s.drop k) m ∧ w5 = w4, fun _ _ i _ => s.length - i.toNat, ⟨0, 0, rfl, rfl, rfl, Nat.zero_le _, by decide, rfl, rfl⟩, ?_⟩
  rintro _ _ _ _ w5 ⟨k, m, rfl, rfl, rfl, hk, hm, hsc, rfl⟩
  refine bsel_of (fun hx => ?_) (fun hx => ?_)
  · have hx : k < s.length := by have := of_decide_eq_true hx; omega
    have e1 : IntKind.i64.wrap ((k : Int) + 1) = ((k + 1 : Nat) : Int) := by rw [wrap_i64 (by omega) (by omega)]; omega
    rw [e1, List.drop_eq_getElem_cons hx] at *
    have hsk := getD_some hx
    generalize s[k] = c at *
    have hc256 : c.toNat < 256 := c.toNat_lt
    have stop : ∀ j, scanU b (c :: s.drop (k + 1)) m = .bad j → ∀ x, x = (if j = 1 then 18446744073709551615 else 0 : Int) → (∃ x' y', (Ending.returned (.tuple #[.int .u64 x, NErr j])) = .returned (.tuple #[x', y']) ∧ ReadU (scanU b s 0) x' y') ∧ Still w3 w5 := by
      rintro j hj x rfl
      rw [hsc, hj]
      exact ⟨⟨_, _, rfl, rfl, rfl⟩, hst4⟩
    simp only [scanU] at stop hsc
    refine ⟨fun u n w6 => u = false ∧ ∃ d, digV c = some d ∧ d < b ∧ m * b + d ≤ 18446744073709551615 ∧ n = ((m * b + d : Nat) : Int) ∧ w6 = w5, ⟨by omega, by omega, _, by rw [Int.toNat_natCast, Nat.mul_one, add_row, Nat.zero_add]; exact hat (Still.refl _) hsk, fun u d w6 => u = false ∧ ∃ d' : Nat, digV c = some d' ∧ d = (d' : Int) ∧ w6 = w5, ⟨fun x w6 => x = false ∧ w6 = w5, ?_, ?_⟩, ?_⟩, ?_⟩
    · refine bsel_of (fun _ => ⟨?_, rfl⟩) (fun _ => ⟨rfl, rfl⟩)
      rw [decide_eq_false]
      omega
    · rintro _ _ w6 ⟨rfl, rfl⟩
      refine bsel_of (fun h => by cases h) (fun _ => ⟨fun x w7 => x = (decide (48 ≤ c.toNat ∧ c.toNat ≤ 57)) ∧ w7 = w6, ?_, ?_⟩)
      · refine bsel_of (fun h1 => ⟨?_, rfl⟩) (fun h1 => ⟨?_, rfl⟩)
        · have h1 : 48 ≤ c.toNat := by have := of_decide_eq_true h1; omega
          by_cases h2 : c.toNat ≤ 57
          · rw [decide_eq_true (show ((c.toNat : Int) ≤ 57) by omega), decide_eq_true ⟨h1, h2⟩]
          · rw [decide_eq_false (show ¬ ((c.toNat : Int) ≤ 57) by omega), decide_eq_false (fun h => h2 h.2)]
        · have h1 : ¬ 48 ≤ c.toNat := by have := of_decide_eq_false h1; omega
          rw [decide_eq_false (fun h => h1 h.1)]
      · rintro _ _ w7 ⟨rfl, rfl⟩
        refine bsel_of (fun h => ?_) (fun h => ?_)
        · have h := of_decide_eq_true h
          refine ⟨rfl, c.toNat - 48, by unfold digV; rw [if_pos h], ?_, rfl⟩
          rw [wrap_u8 (by omega) (by omega)]
          omega
        · have h := of_decide_eq_false h
          have hll := lowN_lt c
          refine (lower_spec c).mono ?_
          rintro _ w8 ⟨rfl, rfl⟩
          refine .inl ⟨_, rfl, bsel_of (fun h2 => ?_) (fun h2 => ?_)⟩
          · have h2 : 97 ≤ lowN c := by have := of_decide_eq_true h2; omega
            refine (lower_spec c).mono ?_
            rintro _ w8 ⟨rfl, rfl⟩
            refine .inl ⟨_, rfl, bsel_of (fun h3 => ?_) (fun h3 => ?_)⟩
            · have h3 : lowN c ≤ 122 := by have := of_decide_eq_true h3; omega
              refine (lower_spec c).mono ?_
              rintro _ w8 ⟨rfl, rfl⟩
              refine .inl ⟨_, rfl, rfl, lowN c - 97 + 10, by unfold digV; rw [if_neg h, if_pos ⟨h2, h3⟩], ?_, rfl⟩
              have e2 : IntKind.u8.wrap (((lowN c : Nat) : Int) - 97) = ((lowN c - 97 : Nat) : Int) := by rw [wrap_u8 (by omega) (by omega)]; omega
              rw [e2, wrap_u8 (by omega) (by omega)]
              omega
            · have h3 : ¬ lowN c ≤ 122 := by have := of_decide_eq_false h3; omega
              have hd : digV c = none := by unfold digV; rw [if_neg h, if_neg (fun h => h3 h.2)]
              exact stop 2 (by rw [hd]) 0 rfl
          · have h2 : ¬ 97 ≤ lowN c := by have := of_decide_eq_false h2; omega
            have hd : digV c = none := by unfold digV; rw [if_neg h, if_neg (fun h => h2 h.1)]
            exact stop 2 (by rw [hd]) 0 rfl
    · rintro _ _ _ w6 ⟨rfl, d, hd, rfl, rfl⟩
      have hd36 := digV_lt hd
      rw [hd] at stop hsc
      dsimp only at stop hsc
      refine bsel_of (fun h1 => ?_) (fun h1 => ?_)
      · have h1 : b ≤ d := by have := of_decide_eq_true h1; omega
        exact stop 2 (by rw [if_pos h1]) 0 rfl
      have h1 : ¬ b ≤ d := by have := of_decide_eq_false h1; omega
      rw [if_neg h1] at stop hsc
      have ov : 18446744073709551615 < m * b + d → ∀ x, x = (18446744073709551615 : Int) → (∃ x' y', (Ending.returned (.tuple #[.int .u64 x, NErr 1])) = .returned (.tuple #[x', y']) ∧ ReadU (scanU b s 0) x' y') ∧ Still w3 w6 := fun h x hx => stop 1 (by rw [if_pos h]) x (by rw [hx]; rfl)
      have hdm := Nat.div_add_mod 18446744073709551615 b
      have hml := Nat.mod_lt 18446744073709551615 (show 0 < b by omega)
      refine bsel_of (fun h2 => ?_) (fun h2 => ?_)
      · have h2 : 18446744073709551615 / b + 1 ≤ m := by have := of_decide_eq_true h2; omega
        have h3 : b * (18446744073709551615 / b + 1) ≤ b * m := Nat.mul_le_mul_left _ h2
        have h4 : b * m = m * b := Nat.mul_comm _ _
        rw [Nat.mul_add] at h3
        exact ov (by omega) _ rfl
      have h2 : m ≤ 18446744073709551615 / b := by have := of_decide_eq_false h2; omega
      have h3 : b * m ≤ b * (18446744073709551615 / b) := Nat.mul_le_mul_left _ h2
      have h4 : b * m = m * b := Nat.mul_comm _ _
      have e2 : IntKind.u64.wrap ((m : Int) * (b : Int)) = ((m * b : Nat) : Int) := by
        have : ((m : Int) * (b : Int)) = ((m * b : Nat) : Int) := by push_cast; rfl
        rw [this]
        exact wrap_u64 (by omega) (by omega)
      have e3 : IntKind.u64.wrap (d : Int) = (d : Int) := wrap_u64 (by omega) (by omega)
      rw [e2, e3]
      by_cases hov : 18446744073709551615 < m * b + d
      · have e4 : IntKind.u64.wrap (((m * b : Nat) : Int) + (d : Int)) = (((m * b : Nat) : Int) + (d : Int) - 18446744073709551616) := by
          rw [wrap_u64_over (by omega) (by omega)]
        rw [e4]
        refine bsel_of (fun _ => ov hov _ rfl) (fun h5 => ?_)
        have h6 := of_decide_eq_false h5
        exact (over_no hd36 h6).elim
      · have e4 : IntKind.u64.wrap (((m * b : Nat) : Int) + (d : Int)) = ((m * b + d : Nat) : Int) := by
          rw [wrap_u64 (by omega) (by omega)]
          omega
        rw [e4]
        refine bsel_of (fun h5 => ?_) (fun _ => bsel_of (fun h5 => ?_) (fun _ => ⟨rfl, d, hd, by omega, by omega, rfl, rfl⟩))
        · have := of_decide_eq_true h5
          omega
        · have := of_decide_eq_true h5
          omega
    · rintro _ _ _ w6 ⟨rfl, d, hd, hdb, hle, rfl, rfl⟩
      rw [hd] at hsc
      dsimp only at hsc
      rw [if_neg (by omega), if_neg (by omega)] at hsc
      exact ⟨⟨k + 1, m * b + d, rfl, rfl, rfl, hx, hle, hsc, rfl⟩, by dsimp only; omega⟩
  · have hx : k = s.length := by have := of_decide_eq_false hx; omega
    subst hx
    rw [List.drop_length] at hsc
    refine bsel_of (fun h => by cases h) (fun _ => ⟨⟨_, _, rfl, ?_⟩, hst4⟩)
    rw [hsc]
    exact ⟨rfl, rfl⟩
end Go.Proofs.YtgincpkggnndeaaGreatDoor
