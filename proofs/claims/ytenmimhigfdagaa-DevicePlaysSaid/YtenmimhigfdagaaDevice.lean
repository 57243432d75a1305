/- The device and its reference, function for function: what each does to a device's state. Conditions: the device is one that New made and these functions have turned. -/
import Derived.Test.YtenmimhigfdagaaGen
import Derived.Test.YtenmimhigfdagaaPlain
namespace Go.Proofs.Ytenmimhigfdagaa
open Go.RowKit Vc

structure St where
  n : Nat
  F : Nat → UInt8
  e : Bool
  p : Int
  m : Int

structure Dev (w : World) (g b : Nat) (s : St) : Prop where
  top : Row w g ty_device_Device #[.slice (some ⟨b, 0, none⟩) s.n s.n, .bool s.e, .int .i64 s.p, .int .u64 s.m]
  bytes : Row w b ty_device_sector ⟨cellsF s.F (s.n * 64)⟩
structure Ref (w : World) (h q : Nat) (s : St) : Prop where
  top : ∃ c, Row w h ty_scullionref03_Device #[.slice (some ⟨q, 0, none⟩) s.n c, .int .i64 (if s.e then -1 else s.p), .int .u64 s.m]
  strs : ∃ cur : List Value, Row w q ty_string ⟨cur⟩ ∧ ∀ k, k < s.n → cur[k]? = some (.string (S (rowF s.F (k * 64) 64)))
/-- What the state's numbers keep to. -/
structure St.Ok (s : St) : Prop where
  n1 : 1 ≤ s.n
  n2 : s.n ≤ 4096
  p0 : 0 ≤ s.p
  p1 : s.p < 9223372036854775808
  m0 : 0 ≤ s.m
  m1 : s.m < 18446744073709551616

variable {w : World} {g b h q : Nat} {s : St}
theorem Dev.mod {w' : World} {T : Nat → Prop} (d : Dev w g b s) (hm : Mod T w w') (h1 : ¬ T g) (h2 : ¬ T b) : Dev w' g b s := ⟨d.top.mod hm h1, d.bytes.mod hm h2⟩
theorem Ref.mod {w' : World} {T : Nat → Prop} (d : Ref w h q s) (hm : Mod T w w') (h1 : ¬ T h) (h2 : ¬ T q) : Ref w' h q s := by
  obtain ⟨⟨c, ht⟩, cur, hc, hk⟩ := d
  exact ⟨⟨c, ht.mod hm h1⟩, cur, hc.mod hm h2, hk⟩

/-! ### The device -/
theorem device_Size_spec (d : Dev w g b s) : Calls Try.prog fn_device_Device_Size #[.pointer (some ⟨g, 0, none⟩)] w (fun e w' => e = .returned (.int .i64 s.n) ∧ w' = w) := by
  refine device_Device_Size_calls _ _ _ ?_
  exact ⟨_, _, _, d.top.cellv rfl, rfl, rfl⟩

theorem device_at_spec (d : Dev w g b s) (k : Int) : Calls Try.prog fn_device_Device_at #[.pointer (some ⟨g, 0, none⟩), .int .i64 k] w
    (fun e w' => e = .returned (.pointer (if 0 ≤ k ∧ k < s.n then some ⟨b, k.toNat * 64, none⟩ else none)) ∧ w' = w) := by
  refine device_Device_at_calls _ _ _ _ ?_
  refine bsel_of (fun h => ?_) (fun h => ⟨_, _, _, d.top.cellv rfl, ?_⟩)
  · rw [if_neg (by have := of_decide_eq_true h; omega)]; exact ⟨rfl, rfl⟩
  · have h0 := of_decide_eq_false h
    refine bsel_of (fun h => ?_) (fun h => ⟨_, _, _, d.top.cellv rfl, by omega, by have := of_decide_eq_false h; omega, ?_⟩)
    · rw [if_neg (by have := of_decide_eq_true h; omega)]; exact ⟨rfl, rfl⟩
    · rw [if_pos (by have := of_decide_eq_false h; omega)]
      exact ⟨by simp [add_row], rfl⟩

theorem device_Read_spec (d : Dev w g b s) (k : Int) : Calls Try.prog fn_device_Device_Read #[.pointer (some ⟨g, 0, none⟩), .int .i64 k] w
    (fun e w' => e = .returned (if 0 ≤ k ∧ k < s.n then .tuple #[.string (S (rowF s.F (k.toNat * 64) 64)), .int .i64 0] else .tuple #[.string (S []), .int .i64 1]) ∧ w' = w) := by
  refine device_Device_Read_calls _ _ _ _ ?_
  refine (device_at_spec d k).mono ?_
  rintro _ w' ⟨rfl, rfl⟩
  refine .inl ⟨_, rfl, ?_⟩
  by_cases hk : 0 ≤ k ∧ k < s.n
  · rw [if_pos hk, if_pos hk]
    refine ⟨_, rowF_bytes d.bytes (by omega), rfl, rfl⟩
  · rw [if_neg hk, if_neg hk]
    exact ⟨rfl, rfl⟩

def St.limit (s : St) (n m : Int) : St := { s with e := false, p := if 0 > n then 0 else n, m := m }
def St.restart (s : St) : St := { s with e := true, m := 0 }

theorem device_Limit_spec (d : Dev w g b s) (n m : Int) : Calls Try.prog fn_device_Device_Limit #[.pointer (some ⟨g, 0, none⟩), .int .i64 n, .int .u64 m] w
    (fun e w' => e = .returned (.tuple #[]) ∧ Mod (fun i => i = g ∨ i = b) w w' ∧ Dev w' g b (s.limit n m)) := by
  refine device_Device_Limit_calls _ _ _ _ _ ?_
  have hne : b ≠ g := d.bytes.ne d.top (by decide)
  refine ⟨d.top.wr 1 (by simp), ((d.top.set 1 _).wr 2 (by simp)), (((d.top.set 1 _).set 2 _).wr 3 (by simp)), rfl, ?_, ?_, ?_⟩
  · exact (((Mod.refl _ _).setCell (.inl (.inl rfl)) _).setCell (.inl (.inl rfl)) _).setCell (.inl (.inl rfl)) _
  · exact ((d.top.set 1 _).set 2 _).set 3 _
  · exact ((d.bytes.far hne _).far hne _).far hne _

theorem device_Restart_spec (d : Dev w g b s) : Calls Try.prog fn_device_Device_Restart #[.pointer (some ⟨g, 0, none⟩)] w
    (fun e w' => e = .returned (.tuple #[]) ∧ Mod (fun i => i = g ∨ i = b) w w' ∧ Dev w' g b s.restart) := by
  refine device_Device_Restart_calls _ _ _ ?_
  have hne : b ≠ g := d.bytes.ne d.top (by decide)
  refine ⟨d.top.wr 1 (by simp), ((d.top.set 1 _).wr 3 (by simp)), rfl, ?_, ?_, ?_⟩
  · exact ((Mod.refl _ _).setCell (.inl (.inl rfl)) _).setCell (.inl (.inl rfl)) _
  · exact (d.top.set 1 _).set 3 _
  · exact (d.bytes.far hne _).far hne _

/-- A sector torn as far as byte x. -/
def tornF (F T : Nat → UInt8) (m : Int) (o x : Nat) : Nat → UInt8 := fun j => if o ≤ j ∧ j < o + x ∧ bit m (j - o) = true then T (j - o) else F j

theorem torn_step {F T : Nat → UInt8} {m : Int} {o x y : Nat} (hc : bit m x = true) (hy : y = x + 1) : tornF F T m o y = fun j => if j = o + x then T x else tornF F T m o x j := by
  subst hy
  funext j
  by_cases hj : j = o + x
  · subst hj
    have e1 : o + x - o = x := by omega
    simp [tornF, e1, hc]
  · have : (o ≤ j ∧ j < o + (x + 1) ∧ bit m (j - o) = true) ↔ (o ≤ j ∧ j < o + x ∧ bit m (j - o) = true) := by
      constructor
      · rintro ⟨a, b, c⟩; exact ⟨a, by omega, c⟩
      · rintro ⟨a, b, c⟩; exact ⟨a, by omega, c⟩
    simp only [tornF, this, if_neg hj]
theorem torn_still {F T : Nat → UInt8} {m : Int} {o x y : Nat} (hc : bit m x = false) (hy : y = x + 1) : tornF F T m o y = tornF F T m o x := by
  subst hy
  funext j
  by_cases hj : j = o + x
  · subst hj
    have e1 : o + x - o = x := by omega
    simp [tornF, e1, hc]
  · have : (o ≤ j ∧ j < o + (x + 1) ∧ bit m (j - o) = true) ↔ (o ≤ j ∧ j < o + x ∧ bit m (j - o) = true) := by
      constructor
      · rintro ⟨a, b, c⟩; exact ⟨a, by omega, c⟩
      · rintro ⟨a, b, c⟩; exact ⟨a, by omega, c⟩
    simp only [tornF, this]
theorem torn_zero (F T : Nat → UInt8) (m : Int) (o : Nat) : tornF F T m o 0 = F := by
  funext j
  unfold tornF
  rw [if_neg (by omega)]

theorem tear_spec {F T : Nat → UInt8} {N tb o : Nat} {m : Int} (hb : Row w b ty_device_sector ⟨cellsF F N⟩) (ht : Row w tb ty_device_sector ⟨cellsF T 64⟩) (hne : tb ≠ b) (ho : o + 64 ≤ N)
    (hm0 : 0 ≤ m) (hm1 : m < 18446744073709551616) :
    Calls Try.prog fn_device_sector_tear #[.pointer (some ⟨b, o, none⟩), .pointer (some ⟨tb, 0, none⟩), .int .u64 m] w
      (fun e w' => e = .returned (.tuple #[]) ∧ Mod (fun i => i = b) w w' ∧ Row w' b ty_device_sector ⟨cellsF (tornF F T m o 64) N⟩) := by
  refine device_sector_tear_calls _ _ _ _ _ ?_
  refine ⟨fun x w1 => 0 ≤ x ∧ x ≤ 64 ∧ Mod (fun i => i = b) w w1 ∧ Row w1 b ty_device_sector ⟨cellsF (tornF F T m o x.toNat) N⟩, fun x _ => (64 - x).toNat, ?_, ?_⟩
  · refine ⟨by decide, by decide, Mod.refl _ _, ?_⟩
    have : tornF F T m o (Int.toNat 0) = F := torn_zero F T m o
    rw [this]; exact hb
  · rintro x _ w1 ⟨h0, h1, hmod, hrow⟩
    refine bsel_of (fun hx => ⟨h0, ?_⟩) (fun hx => ?_)
    · have hx := of_decide_eq_true hx
      have hw : IntKind.i64.wrap (x + 1) = x + 1 := wrap_i64 (by omega) (by omega)
      rw [bit_mask hm0 hm1 h0 hx, hw]
      refine bsel_of (fun hc => ?_) (fun hc => ?_)
      · have hc : bit m x.toNat = true := by simpa using hc
        refine ⟨fun wq => Row wq tb ty_device_sector ⟨cellsF T 64⟩, (ht.mod hmod hne).drew, h0, hx, (T x.toNat).toNat, ?_, h0, hx, ?_, ⟨by omega, by omega, ?_, ?_⟩, by dsimp only; omega⟩
        · intro wq hq
          rw [add_row]
          exact hq.cellv (by simpa using cellsF_get (F := T) (N := 64) (by omega))
        · rw [add_row]
          exact hrow.drew.wr _ (by simp; omega)
        · rw [add_row]
          exact hmod.drew.setCell (.inl rfl) _
        · rw [add_row, torn_step hc (by omega), Nat.mul_one, ← cellsF_set]
          exact hrow.drew.set _ _
      · have hc : bit m x.toNat = false := by simpa using hc
        refine ⟨⟨by omega, by omega, hmod, ?_⟩, by dsimp only; omega⟩
        rw [torn_still hc (by omega)]
        exact hrow
    · have hx := of_decide_eq_false hx
      have : x.toNat = 64 := by omega
      rw [this] at hrow
      exact ⟨rfl, hmod, hrow⟩

/-- What a write does: the errno, the state behind it. -/
def St.put (s : St) (k : Nat) (t : Nat → UInt8) : St := { s with F := fun j => if k * 64 ≤ j ∧ j < k * 64 + 64 then t (j - k * 64) else s.F j }
def St.write (s : St) (k : Int) (text : List UInt8) : Int × St :=
  if 0 ≤ k ∧ k < s.n ∧ text.length ≤ 64 then
    if s.e then (0, s.put k.toNat fun j => text.getD j 0)
    else if 0 < s.p then (0, { s.put k.toNat (fun j => text.getD j 0) with p := s.p - 1 })
    else (13, { s with F := tornF s.F (fun j => text.getD j 0) s.m (k.toNat * 64) 64, m := 0 })
  else (1, s)

/-- A new device's state. -/
def St.new (n : Nat) : St := ⟨n, fun _ => 0, true, 0, 0⟩
theorem madeCells_zero (z : List Value) (hz : ∀ v ∈ z, v = .int .u8 0) (h0 : z ≠ []) (N : Nat) : madeCells ⟨z⟩ N = ⟨cellsF (fun _ => 0) N⟩ := by
  apply Array.ext'
  apply List.ext_getElem?
  intro i
  by_cases h : i < N
  · have hl : 0 < z.length := by cases z with
      | nil => exact (h0 rfl).elim
      | cons a r => simp
    have hm : i % z.length < z.length := Nat.mod_lt _ hl
    rw [cellsF_get h]
    simp [madeCells, h]
    simp [hm]
    exact hz _ (List.getElem_mem _)
  · rw [List.getElem?_eq_none (by simp [madeCells]; omega), List.getElem?_eq_none (by simp; omega)]

theorem device_New_bad {n : Int} (hn : n < 1 ∨ 4096 < n) : Calls Try.prog fn_device_New #[.int .i64 n] w (fun e w' => e = .returned (.tuple #[.pointer none, .int .i64 1]) ∧ w' = w) := by
  refine device_New_calls _ _ _ ?_
  refine bsel_of (fun h => ⟨rfl, rfl⟩) (fun h => bsel_of (fun h => ⟨rfl, rfl⟩) (fun h2 => ?_))
  have := of_decide_eq_false h
  have := of_decide_eq_false h2
  omega
theorem device_New_spec {n : Int} (h1 : 1 ≤ n) (h2 : n ≤ 4096) : Calls Try.prog fn_device_New #[.int .i64 n] w
    (fun e w' => ∃ g b, e = .returned (.tuple #[.pointer (some ⟨g, 0, none⟩), .int .i64 0]) ∧ Mod (fun _ => False) w w' ∧ w.heap.size ≤ g ∧ w.heap.size ≤ b ∧ Dev w' g b (St.new n.toNat)) := by
  refine device_New_calls _ _ _ ?_
  refine bsel_of (fun h => (by have := of_decide_eq_true h; omega)) (fun _ => bsel_of (fun h => (by have := of_decide_eq_true h; omega)) (fun _ => ⟨by omega, by omega, by omega, by omega, ?_⟩))
  rw [madeCells_zero _ (by intro v hv; simpa using hv) (by simp)]
  refine ⟨_, w.heap.size, rfl, ((Mod.refl _ _).alloc _).alloc _, by simp, Nat.le_refl _, ?_, ?_⟩
  · exact Row.new _ _ _
  · exact (Row.new w _ _).alloc _

theorem device_Write_spec (d : Dev w g b s) (hs : s.Ok) (k : Int) (text : List UInt8) : Calls Try.prog fn_device_Device_Write #[.pointer (some ⟨g, 0, none⟩), .int .i64 k, .string (S text)] w
    (fun e w' => e = .returned (.int .i64 (s.write k text).1) ∧ Mod (fun i => i = g ∨ i = b) w w' ∧ Dev w' g b (s.write k text).2) := by
  refine device_Device_Write_calls _ _ _ _ _ ?_
  refine (device_at_spec d k).mono ?_
  rintro _ w ⟨rfl, rfl⟩
  refine .inl ⟨_, rfl, ?_⟩
  by_cases hk : 0 ≤ k ∧ k < s.n
  case neg =>
    rw [if_neg hk]
    have hw : s.write k text = (1, s) := by unfold St.write; rw [if_neg (fun h => hk ⟨h.1, h.2.1⟩)]
    rw [hw]
    exact ⟨rfl, Mod.refl _ _, d⟩
  rw [if_pos hk]
  refine bsel_of (fun h => by cases h) (fun _ => ?_)
  refine bsel_of (fun h => ?_) (fun hl => ?_)
  · have h := of_decide_eq_true h
    have hw : s.write k text = (1, s) := by unfold St.write; rw [if_neg (by omega)]
    rw [hw]
    exact ⟨rfl, Mod.refl _ _, d⟩
  have hl : text.length ≤ 64 := by have := of_decide_eq_false hl; omega
  have hne : b ≠ g := d.bytes.ne d.top (by decide)
  have hgz : g ≠ w.heap.size := Nat.ne_of_lt d.top.lt
  have hbz : b ≠ w.heap.size := Nat.ne_of_lt d.bytes.lt
  have hko : k.toNat * 64 + 64 ≤ s.n * 64 := by omega
  generalize hT : (fun j => text.getD j 0 : Nat → UInt8) = T
  have hcs : (text.take (min text.length 64)).map (fun b => Value.int .u8 b.toNat) = cellsF T text.length := by
    rw [Nat.min_eq_left hl, List.take_length, cellsF_map, hT]
  have hrep : List.replicate 64 (Value.int .u8 0) = cellsF (fun _ => 0) 64 := cellsF_replicate 64
  refine ⟨_, ?_, rfl, .inr ⟨w.heap.size, 0, cellsF (fun _ => 0) 64, ty_device_sector, rfl, ?_, by rw [hcs]; simpa using hl, ?_⟩⟩
  · rw [hcs]; exact cellsF_one _ _
  · rw [← hrep]; exact Row.new w _ _
  have hsp : (cellsF (fun _ => 0) 64).take 0 ++ (cellsF T text.length ++ (cellsF (fun _ => 0) 64).drop (0 + (cellsF T text.length).length)) = cellsF T 64 := by
    rw [cellsF_length, cellsF_splice (by omega)]
    apply cellsF_congr
    intro i hi
    by_cases h : i < text.length
    · simp [h]
    · rw [if_neg (by omega), ← hT]
      simp [Nat.le_of_not_lt h]
  rw [hcs, hsp, hrep]
  generalize hw2 : (w.alloc (.cells ⟨cellsF (fun _ => 0) 64⟩ 54)).setRow w.heap.size ⟨cellsF T 64⟩ = w2
  have hm2 : Mod (fun i => i = g ∨ i = b) w w2 := by
    subst hw2
    exact ((Mod.refl _ _).alloc _).setRow (.inr (Nat.le_refl _)) _
  have ht2 : Row w2 w.heap.size ty_device_sector ⟨cellsF T 64⟩ := by
    subst hw2
    exact (Row.new w _ _).setRow _
  have d2 : Dev w2 g b s := by
    subst hw2
    exact ⟨(d.top.alloc _).setRow_far hgz _, (d.bytes.alloc _).setRow_far hbz _⟩
  refine ⟨_, d2.top.cellv rfl, bsel_of (fun he => ?_) (fun he => ?_)⟩
  · have hw : s.write k text = (0, s.put k.toNat T) := by unfold St.write; rw [if_pos ⟨hk.1, hk.2, hl⟩, if_pos he, hT]
    rw [hw]
    refine ⟨cellsF T 64, by simp, ?_, by simp, cellsF_one _ _, b, k.toNat * 64, cellsF s.F (s.n * 64), ty_device_sector, rfl, d2.bytes, by simpa using hko, rfl, ?_, ?_, ?_⟩
    · intro j u hu
      rw [add_row, Nat.zero_add]
      exact ht2.cellv (by simpa using hu)
    · exact hm2.setRow (.inl (.inr rfl)) _
    · exact d2.top.setRow_far hne.symm _
    · rw [cellsF_length, cellsF_splice hko]
      exact d2.bytes.setRow _
  · refine ⟨_, d2.top.cellv rfl, bsel_of (fun hp => ?_) (fun hp => ?_)⟩
    · have hp := of_decide_eq_true hp
      have hw : s.write k text = (0, { s.put k.toNat T with p := s.p - 1 }) := by unfold St.write; rw [if_pos ⟨hk.1, hk.2, hl⟩, if_neg (by simp [he]), if_pos hp, hT]
      rw [hw]
      refine ⟨cellsF T 64, by simp, ?_, by simp, cellsF_one _ _, b, k.toNat * 64, cellsF s.F (s.n * 64), ty_device_sector, rfl, d2.bytes, by simpa using hko, ?_⟩
      · intro j u hu
        rw [add_row, Nat.zero_add]
        exact ht2.cellv (by simpa using hu)
      rw [cellsF_length, cellsF_splice hko]
      have h3 := d2.top.setRow_far hne.symm ⟨cellsF (fun j => if k.toNat * 64 ≤ j ∧ j < k.toNat * 64 + 64 then T (j - k.toNat * 64) else s.F j) (s.n * 64)⟩
      refine ⟨_, h3.cellv rfl, h3.wr 2 (by simp), rfl, ?_, ?_, ?_⟩
      · exact (hm2.setRow (.inl (.inr rfl)) _).setCell (.inl (.inl rfl)) _
      · rw [wrap_i64 (by have := hs.p1; omega) (by have := hs.p1; omega)]
        exact h3.set 2 _
      · exact (d2.bytes.setRow _).far hne _
    · have hp := of_decide_eq_false hp
      have hw : s.write k text = (13, { s with F := tornF s.F T s.m (k.toNat * 64) 64, m := 0 }) := by unfold St.write; rw [if_pos ⟨hk.1, hk.2, hl⟩, if_neg (by simp [he]), if_neg hp, hT]
      rw [hw]
      refine ⟨_, d2.top.cellv rfl, ?_⟩
      refine (tear_spec d2.bytes ht2 hbz.symm hko hs.m0 hs.m1).mono ?_
      rintro _ w3 ⟨rfl, hm3, hb3⟩
      have ht3 := d2.top.mod hm3 hne.symm
      refine .inl ⟨rfl, ht3.wr 3 (by simp), rfl, ?_, ?_, ?_⟩
      · exact (hm2.trans hm3 (fun _ h => h) (fun _ _ h => .inr h)).setCell (.inl (.inl rfl)) _
      · exact ht3.set 3 _
      · exact hb3.far hne _
end Go.Proofs.Ytenmimhigfdagaa
