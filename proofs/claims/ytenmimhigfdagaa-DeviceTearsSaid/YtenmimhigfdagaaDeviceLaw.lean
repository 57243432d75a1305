/- The device's laws: each of the three returns true and turns no block that stood ahead of it. Conditions: the arguments' cells hold acts whose numbers keep to their kinds. -/
import Derived.Test.YtenmimhigfdagaaDeviceRef
namespace Go.Proofs.Ytenmimhigfdagaa
open Go.RowKit Vc
variable {w : World} {g b h q : Nat} {s : St}

/-- Nothing that stood has turned. -/
abbrev Still (w w' : World) : Prop := Mod (fun _ => False) w w'
theorem Mod.on {a b c : World} {T : Nat → Prop} (h : Still a b) (k : Mod T b c) (hT : ∀ i, T i → a.heap.size ≤ i) : Still a c := h.trans k (fun _ h => h) (fun i hi ht => by have := hT i ht; omega)
theorem Mod.stillCell {w' : World} (h : Still w w') {a : Addr} {v : Value} (hc : w.cell? a = some v) : w'.cell? a = some v :=
  (World.cell?_of_block (h.block a.block (World.block_lt_of_cell? w a hc) (fun h => h))).trans hc

theorem St.new_ok {n : Nat} (h1 : 1 ≤ n) (h2 : n ≤ 4096) : (St.new n).Ok := ⟨h1, h2, Int.le_refl _, (by show (0 : Int) < _; decide), Int.le_refl _, (by show (0 : Int) < _; decide)⟩
theorem St.Ok.limit (hs : s.Ok) {n m : Int} (hn : n < 9223372036854775808) (hm0 : 0 ≤ m) (hm1 : m < 18446744073709551616) : (s.limit n m).Ok :=
  ⟨hs.n1, hs.n2, by simp only [St.limit]; split <;> omega, by simp only [St.limit]; split <;> omega, hm0, hm1⟩
theorem St.Ok.restart (hs : s.Ok) : s.restart.Ok := ⟨hs.n1, hs.n2, hs.p0, hs.p1, Int.le_refl _, (by show (0 : Int) < _; decide)⟩
theorem St.Ok.write (hs : s.Ok) (k : Int) (t : List UInt8) : (s.write k t).2.Ok := by
  unfold St.write
  split
  · split
    · exact ⟨hs.n1, hs.n2, hs.p0, hs.p1, hs.m0, hs.m1⟩
    · split
      · exact ⟨hs.n1, hs.n2, by dsimp only; omega, by have := hs.p1; dsimp only; omega, hs.m0, hs.m1⟩
      · exact ⟨hs.n1, hs.n2, hs.p0, hs.p1, Int.le_refl _, (by show (0 : Int) < _; decide)⟩
  · exact hs

theorem Row.ne_of {_w' : World} {g g' : Nat} {t t' : TypeId} {cs cs' : Array Value} (h : Row w g t cs) (h' : Row w g' t' cs') (hne : t ≠ t') : g ≠ g' := h.ne h' hne
/-- The device and its reference stand apart. -/
theorem apart (d : Dev w g b s) {s' : St} (r : Ref w h q s') : g ≠ h ∧ g ≠ q ∧ b ≠ h ∧ b ≠ q := by
  obtain ⟨⟨c, ht⟩, cur, hc, _⟩ := r
  exact ⟨d.top.ne ht (by decide), d.top.ne hc (by decide), d.bytes.ne ht (by decide), d.bytes.ne hc (by decide)⟩

theorem Same_spec (d : Dev w g b s) (r : Ref w h q s) (hs : s.Ok) : Calls Try.prog fn_law03_Same #[.pointer (some ⟨g, 0, none⟩), .pointer (some ⟨h, 0, none⟩)] w (fun e w' => e = .returned (.bool true) ∧ w' = w) := by
  refine law03_Same_calls _ _ _ _ ?_
  refine (device_Size_spec d).mono ?_
  rintro _ w ⟨rfl, rfl⟩
  refine .inl ⟨_, rfl, (ref_Size_spec r).mono ?_⟩
  rintro _ w ⟨rfl, rfl⟩
  refine .inl ⟨_, rfl, bsel_of (fun h => by simp at h) (fun _ => ?_)⟩
  refine ⟨fun i w1 => 0 ≤ i ∧ i ≤ s.n ∧ w1 = w, fun i _ => (s.n - i).toNat, ⟨by decide, by omega, rfl⟩, ?_⟩
  rintro i _ w1 ⟨h0, h1, rfl⟩
  refine (ref_Size_spec r).mono ?_
  rintro _ w ⟨rfl, rfl⟩
  refine .inl ⟨_, rfl, bsel_of (fun hx => ?_) (fun _ => ⟨rfl, rfl⟩)⟩
  have hx := of_decide_eq_true hx
  have hn := hs.n2
  refine (device_Read_spec d i).mono ?_
  rintro _ w ⟨rfl, rfl⟩
  rw [if_pos ⟨h0, hx⟩]
  refine .inl ⟨_, _, rfl, (ref_Read_spec r i).mono ?_⟩
  rintro _ w ⟨rfl, rfl⟩
  rw [if_pos ⟨h0, hx⟩]
  refine .inl ⟨_, _, rfl, bsel_of (fun h => by simp at h) (fun _ => ?_)⟩
  rw [wrap_i64 (by omega) (by omega)]
  exact ⟨⟨by omega, by omega, rfl⟩, by dsimp only; omega⟩

theorem does_spec (d : Dev w g b s) (r : Ref w h q s) (hs : s.Ok) (what k n : Int) (t : List UInt8) (m : Int) (hn : n < 9223372036854775808) (hm0 : 0 ≤ m) (hm1 : m < 18446744073709551616) :
    Calls Try.prog fn_law03_does #[.pointer (some ⟨g, 0, none⟩), .pointer (some ⟨h, 0, none⟩), .agg #[.int .i64 what, .int .i64 k, .int .i64 n, .string (S t), .int .u64 m]] w
      (fun e w' => e = .returned (.bool true) ∧ ∃ s', s'.Ok ∧ Mod (fun i => i = g ∨ i = b ∨ i = h ∨ i = q) w w' ∧ Dev w' g b s' ∧ Ref w' h q s') := by
  refine law03_does_calls _ _ _ _ _ _ _ _ _ ?_
  obtain ⟨hgh, hgq, hbh, hbq⟩ := apart d r
  have hg := d.top.lt
  have hb := d.bytes.lt
  have hh : h < w.heap.size := by obtain ⟨⟨c, ht⟩, _⟩ := r; exact ht.lt
  have hq : q < w.heap.size := by obtain ⟨_, cur, hc, _⟩ := r; exact hc.lt
  have ha : Row (w.alloc (.cells #[.int .i64 what, .int .i64 k, .int .i64 n, .string (S t), .int .u64 m] 33)) w.heap.size 33 #[.int .i64 what, .int .i64 k, .int .i64 n, .string (S t), .int .u64 m] := Row.new _ _ _
  have hma : Mod (fun i => i = g ∨ i = b ∨ i = h ∨ i = q) w (w.alloc (.cells #[.int .i64 what, .int .i64 k, .int .i64 n, .string (S t), .int .u64 m] 33)) := (Mod.refl _ _).alloc _
  have hms : Still w (w.alloc (.cells #[.int .i64 what, .int .i64 k, .int .i64 n, .string (S t), .int .u64 m] 33)) := (Mod.refl _ _).alloc _
  have da := d.mod hms (fun h => h) (fun h => h)
  have ra := r.mod hms (fun h => h) (fun h => h)
  unfold vc_law03_does
  generalize (w.alloc (.cells #[.int .i64 what, .int .i64 k, .int .i64 n, .string (S t), .int .u64 m] 33)) = w0 at ha hma da ra ⊢
  have fin : ∀ {s' : St} {w1 w2 : World}, s'.Ok → Mod (fun i => i = g ∨ i = b) w0 w1 → Dev w1 g b s' → Mod (fun i => i = h ∨ i = q) w1 w2 → Ref w2 h q s' →
      ∃ s', s'.Ok ∧ Mod (fun i => i = g ∨ i = b ∨ i = h ∨ i = q) w w2 ∧ Dev w2 g b s' ∧ Ref w2 h q s' := by
    intro s' w1 w2 ho h1 d1 h2 r2
    refine ⟨s', ho, (hma.trans h1 (fun _ h => h) (fun _ _ h => ?_)).trans h2 (fun _ h => h) (fun _ _ h => ?_), d1.mod h2 ?_ ?_, r2⟩
    · rcases h with h | h
      · exact .inl h
      · exact .inr (.inl h)
    · rcases h with h | h
      · exact .inr (.inr (.inl h))
      · exact .inr (.inr (.inr h))
    · rintro (h | h)
      · exact hgh h
      · exact hgq h
    · rintro (h | h)
      · exact hbh h
      · exact hbq h
  have keep : ∀ {s' : St} {w1 : World}, Mod (fun i => i = g ∨ i = b) w0 w1 → Ref w0 h q s' → Ref w1 h q s' := by
    intro s' w1 h1 r1
    refine r1.mod h1 ?_ ?_
    · rintro (h | h)
      · exact hgh h.symm
      · exact hbh h.symm
    · rintro (h | h)
      · exact hgq h.symm
      · exact hbq h.symm
  have keepA : ∀ {w1 : World}, Mod (fun i => i = g ∨ i = b) w0 w1 → Row w1 w.heap.size 33 #[.int .i64 what, .int .i64 k, .int .i64 n, .string (S t), .int .u64 m] := by
    intro w1 h1
    refine ha.mod h1 ?_
    rintro (h | h) <;> omega
  refine ⟨_, ha.cellv rfl, bsel_of (fun _ => ?_) (fun _ => bsel_of (fun _ => ?_) (fun _ => bsel_of (fun _ => ?_) (fun _ => ?_)))⟩
  · refine ⟨_, ha.cellv rfl, _, ha.cellv rfl, (device_Limit_spec da n m).mono ?_⟩
    rintro _ w1 ⟨rfl, hm1, d1⟩
    refine .inl ⟨rfl, _, (keepA hm1).cellv rfl, _, (keepA hm1).cellv rfl, (ref_Limit_spec (keep hm1 ra) n m).mono ?_⟩
    rintro _ w2 ⟨rfl, hm2, r2⟩
    exact .inl ⟨rfl, rfl, fin (hs.limit hn hm0 ‹_›) hm1 d1 hm2 r2⟩
  · refine (device_Restart_spec da).mono ?_
    rintro _ w1 ⟨rfl, hm1, d1⟩
    refine .inl ⟨rfl, (ref_Restart_spec (keep hm1 ra)).mono ?_⟩
    rintro _ w2 ⟨rfl, hm2, r2⟩
    exact .inl ⟨rfl, rfl, fin hs.restart hm1 d1 hm2 r2⟩
  · refine ⟨_, ha.cellv rfl, (device_Read_spec da k).mono ?_⟩
    rintro _ w1 ⟨rfl, rfl⟩
    have hx : ∃ (l : List UInt8) (x : Int), (if 0 ≤ k ∧ k < s.n then Value.tuple #[.string (S (rowF s.F (k.toNat * 64) 64)), .int .i64 0] else .tuple #[.string (S []), .int .i64 1]) = .tuple #[.string (S l), .int .i64 x] := by
      split
      · exact ⟨_, _, rfl⟩
      · exact ⟨_, _, rfl⟩
    obtain ⟨l, x, hx⟩ := hx
    rw [hx]
    refine .inl ⟨l, x, rfl, _, ha.cellv rfl, (ref_Read_spec ra k).mono ?_⟩
    rintro _ w1 ⟨rfl, rfl⟩
    rw [hx]
    refine .inl ⟨l, x, rfl, bsel_of (fun _ => ⟨by simp, s, hs, hma, da, ra⟩) (fun h => by simp at h)⟩
  · refine ⟨fun wq => Row wq w.heap.size 33 #[.int .i64 what, .int .i64 k, .int .i64 n, .string (S t), .int .u64 m], ha.drew, _, fun wq hq => hq.cellv rfl, _, fun wq hq => hq.cellv rfl, _, fun wq hq => hq.cellv rfl, _, fun wq hq => hq.cellv rfl, ?_⟩
    have dd : Dev w0.drew g b s := ⟨da.top.drew, da.bytes.drew⟩
    refine (device_Write_spec dd hs k t).mono ?_
    rintro _ w1 ⟨rfl, hm1, d1⟩
    have hm1 : Mod (fun i => i = g ∨ i = b) w0 w1 := (Mod.refl _ _).drew.trans hm1 (fun _ h => h) (fun _ _ h => h)
    refine .inl ⟨_, rfl, keepA hm1, (ref_Write_spec (keep hm1 ra) hs k t).mono ?_⟩
    rintro _ w2 ⟨rfl, hm2, r2⟩
    exact .inl ⟨_, rfl, by simp, fin (hs.write k t) hm1 d1 hm2 r2⟩

theorem awake_spec (w : World) : Calls Try.prog fn_law03_awake #[] w (fun e w' => e = .returned (.bool true) ∧ Still w w') := by
  refine law03_awake_calls _ _ ?_
  refine (device_New_spec (by decide) (by decide)).mono ?_
  rintro _ w1 ⟨g, b, rfl, hm, hg, hb, d⟩
  refine .inl ⟨_, _, rfl, bsel_of (fun h => by cases h) (fun _ => ?_)⟩
  have hT : ∀ i, (i = g ∨ i = b) → w.heap.size ≤ i := by rintro i (rfl | rfl) <;> assumption
  have hs : (St.new (Int.toNat 2)).Ok := St.new_ok (by decide) (by decide)
  refine (device_Limit_spec d 1 1).mono ?_
  rintro _ w2 ⟨rfl, hm2, d2⟩
  have hs2 := hs.limit (n := 1) (m := 1) (by decide) (by decide) (by decide)
  refine .inl ⟨rfl, (device_Write_spec d2 hs2 0 [97, 98]).mono ?_⟩
  rintro _ w3 ⟨rfl, hm3, d3⟩
  have hs3 := hs2.write 0 [97, 98]
  refine .inl ⟨_, rfl, (device_Write_spec d3 hs3 0 [99, 100]).mono ?_⟩
  rintro _ w4 ⟨rfl, hm4, d4⟩
  refine .inl ⟨_, rfl, (device_Read_spec d4 0).mono ?_⟩
  rintro _ w5 ⟨rfl, rfl⟩
  have hst := ((hm.on hm2 hT).on hm3 hT).on hm4 hT
  rw [if_pos (by refine ⟨by decide, ?_⟩; decide)]
  refine .inl ⟨_, _, rfl, bsel_of (fun _ => ?_) (fun h => absurd h (by decide))⟩
  refine bsel_of (fun _ => ?_) (fun h => absurd h (by decide))
  refine bsel_of (fun _ => ?_) (fun h => absurd h (by decide))
  refine bsel_of (fun _ => ?_) (fun h => absurd h (by decide))
  refine bsel_of (fun _ => ?_) (fun h => by simp at h)
  refine ⟨by decide, by simp, bsel_of (fun _ => ?_) (fun h => absurd h (by decide))⟩
  refine (device_Size_spec d4).mono ?_
  rintro _ w6 ⟨rfl, rfl⟩
  exact .inl ⟨_, rfl, rfl, hst⟩

/-- An act's cells. -/
structure ActAt (w : World) (a : Addr) (i : Nat) (what k n : Int) (t : List UInt8) (m : Int) : Prop where
  c0 : w.cell? (a.add (i * 5)) = some (.int .i64 what)
  c1 : w.cell? ((a.add (i * 5)).add 1) = some (.int .i64 k)
  c2 : w.cell? ((a.add (i * 5)).add 2) = some (.int .i64 n)
  c3 : w.cell? ((a.add (i * 5)).add 3) = some (.string (S t))
  c4 : w.cell? ((a.add (i * 5)).add 4) = some (.int .u64 m)
  hn : n < 9223372036854775808
  m0 : 0 ≤ m
  m1 : m < 18446744073709551616
theorem ActAt.still {w' : World} {a : Addr} {i : Nat} {what k n : Int} {t : List UInt8} {m : Int} (h : ActAt w a i what k n t m) (hs : Still w w') : ActAt w' a i what k n t m :=
  ⟨hs.stillCell h.c0, hs.stillCell h.c1, hs.stillCell h.c2, hs.stillCell h.c3, hs.stillCell h.c4, h.hn, h.m0, h.m1⟩
def Acts (w : World) (p : Option Addr) (L : Nat) : Prop := ∀ i, i < L → ∃ a, p = some a ∧ ∃ what k n t m, ActAt w a i what k n t m

theorem DevicePlays_spec (n : Int) (p : Option Addr) (L C : Nat) (ha : Acts w p L) : Calls Try.prog fn_law03_DevicePlays #[.int .i64 n, .slice p L C] w (fun e w' => e = .returned (.bool true) ∧ Still w w') := by
  refine law03_DevicePlays_calls _ _ _ _ _ _ ?_
  have wake : ∀ {w1 : World}, Still w w1 → Calls Try.prog fn_law03_awake #[] w1 (fun ed2 w3 => (∃ r4 : Bool, ed2 = .returned (.bool r4) ∧ (Ending.returned (.bool r4)) = .returned (.bool true) ∧ Still w w3) ∨ (∃ ch2, ed2 = .panicked ch2 ∧ (Ending.panicked ch2) = .returned (.bool true) ∧ Still w w3)) := by
    intro w1 h1
    refine (awake_spec w1).mono ?_
    rintro _ w2 ⟨rfl, h2⟩
    exact .inl ⟨_, rfl, rfl, h1.on h2 (fun _ h => h.elim)⟩
  by_cases hn : n < 1 ∨ 4096 < n
  · refine (device_New_bad hn).mono ?_
    rintro _ w ⟨rfl, rfl⟩
    refine .inl ⟨_, _, rfl, (ref_New_bad hn).mono ?_⟩
    rintro _ w ⟨rfl, rfl⟩
    refine .inl ⟨_, _, rfl, bsel_of (fun h => by simp at h) (fun _ => bsel_of (fun h => by simp at h) (fun _ => bsel_of (fun _ => wake (Mod.refl _ _)) (fun h => by simp at h)))⟩
  refine (device_New_spec (by omega) (by omega)).mono ?_
  rintro _ w1 ⟨g, b, rfl, hm1, hg, hb, d1⟩
  refine .inl ⟨_, _, rfl, (ref_New_spec (by omega) (by omega)).mono ?_⟩
  rintro _ w2 ⟨h, q, rfl, hm2, hh, hq, r2⟩
  have hs1 := hm1.size
  have d2 := d1.mod hm2 (fun h => h) (fun h => h)
  have hw2 : Still w w2 := hm1.on hm2 (fun _ h => h.elim)
  refine .inl ⟨_, _, rfl, bsel_of (fun h => by simp at h) (fun _ => bsel_of (fun h => by simp at h) (fun _ => bsel_of (fun h => by simp at h) (fun _ => bsel_of (fun _ => wake hw2) (fun _ => ?_))))⟩
  refine ⟨fun i w5 => 0 ≤ i ∧ i ≤ L ∧ Still w w5 ∧ ∃ s, s.Ok ∧ Dev w5 g b s ∧ Ref w5 h q s, fun i _ => (L - i).toNat, ⟨by decide, by omega, hw2, St.new n.toNat, St.new_ok (by omega) (by omega), d2, r2⟩, ?_⟩
  rintro i _ w5 ⟨h0, h1, hw5, s, hs, d, r⟩
  have last : Calls Try.prog fn_law03_awake #[] w5 (fun ed5 w7 => (∃ r7 : Bool, ed5 = .returned (.bool r7) ∧ bsel r7 (Calls Try.prog fn_law03_Same #[(.pointer (some ⟨g, 0, none⟩)), (.pointer (some ⟨h, 0, none⟩))] w7 (fun ed6 w8 => (∃ r8 : Bool, ed6 = .returned (.bool r8) ∧ (Ending.returned (.bool r8)) = .returned (.bool true) ∧ Still w w8) ∨ (∃ ch6, ed6 = .panicked ch6 ∧ (Ending.panicked ch6) = .returned (.bool true) ∧ Still w w8))) ((Ending.returned (.bool false)) = .returned (.bool true) ∧ Still w w7)) ∨ (∃ ch5, ed5 = .panicked ch5 ∧ (Ending.panicked ch5) = .returned (.bool true) ∧ Still w w7)) := by
    refine (awake_spec w5).mono ?_
    rintro _ w7 ⟨rfl, h7⟩
    refine .inl ⟨_, rfl, bsel_of (fun _ => ?_) (fun h => by cases h)⟩
    refine (Same_spec (d.mod h7 (fun h => h) (fun h => h)) (r.mod h7 (fun h => h) (fun h => h)) hs).mono ?_
    rintro _ w8 ⟨rfl, rfl⟩
    exact .inl ⟨_, rfl, rfl, hw5.on h7 (fun _ h => h.elim)⟩
  refine bsel_of (fun hx => bsel_of (fun hx2 => ?_) (fun _ => last)) (fun _ => last)
  have hx := of_decide_eq_true hx
  have hx2 := of_decide_eq_true hx2
  rw [wrap_i64 (by omega) (by omega)]
  obtain ⟨a, rfl, what, k, m', t, m, hA⟩ := ha i.toNat (by omega)
  have hA := hA.still hw5
  refine ⟨h0, hx, t, hA.c3, bsel_of (fun _ => ⟨h0, hx, what, k, m', t, m, hA.c0, hA.c1, hA.c2, hA.c3, hA.c4, ?_⟩) (fun _ => ⟨⟨by omega, by omega, hw5, s, hs, d, r⟩, by dsimp only; omega⟩)⟩
  refine (does_spec d r hs what k m' t m hA.hn hA.m0 hA.m1).mono ?_
  rintro _ w6 ⟨rfl, s', hs', hm6, d6, r6⟩
  refine .inl ⟨_, rfl, bsel_of (fun h => by cases h) (fun _ => ⟨⟨by omega, by omega, hw5.on hm6 ?_, s', hs', d6, r6⟩, by dsimp only; omega⟩)⟩
  rintro i (rfl | rfl | rfl | rfl) <;> omega

theorem DeviceSmall_spec (size : Int) (hz0 : 0 ≤ size) (hz1 : size < 256) (p : Option Addr) (L C : Nat) (ha : Acts w p L) : Calls Try.prog fn_law03_DeviceSmall #[.int .u8 size, .slice p L C] w (fun e w' => e = .returned (.bool true) ∧ Still w w') := by
  refine law03_DeviceSmall_calls _ _ _ _ _ _ ?_
  refine ⟨by decide, ?_⟩
  have ht0 : 0 ≤ Int.tmod size 4 := Int.tmod_nonneg _ hz0
  have ht1 : Int.tmod size 4 < 4 := Int.tmod_lt_of_pos _ (by decide)
  rw [wrap_i64 (n := size) (by omega) (by omega), wrap_i64 (n := 1 + Int.tmod size 4) (by omega) (by omega)]
  refine (device_New_spec (by omega) (by omega)).mono ?_
  rintro _ w1 ⟨g, b, rfl, hm1, hg, hb, d1⟩
  refine .inl ⟨_, _, rfl, (ref_New_spec (by omega) (by omega)).mono ?_⟩
  rintro _ w2 ⟨h, q, rfl, hm2, hh, hq, r2⟩
  have hs1 := hm1.size
  have d2 := d1.mod hm2 (fun h => h) (fun h => h)
  have hw2 : Still w w2 := hm1.on hm2 (fun _ h => h.elim)
  refine .inl ⟨_, _, rfl, bsel_of (fun h => by cases h) (fun _ => bsel_of (fun h => by cases h) (fun _ => ?_))⟩
  refine ⟨fun i w5 => 0 ≤ i ∧ i ≤ L ∧ Still w w5 ∧ ∃ s, s.Ok ∧ Dev w5 g b s ∧ Ref w5 h q s, fun i _ => (L - i).toNat, ⟨by decide, by omega, hw2, St.new (1 + Int.tmod size 4).toNat, St.new_ok (by omega) (by omega), d2, r2⟩, ?_⟩
  rintro i _ w5 ⟨h0, h1, hw5, s, hs, d, r⟩
  have last : Calls Try.prog fn_law03_awake #[] w5 (fun ed5 w7 => (∃ r7 : Bool, ed5 = .returned (.bool r7) ∧ bsel r7 (Calls Try.prog fn_law03_Same #[(.pointer (some ⟨g, 0, none⟩)), (.pointer (some ⟨h, 0, none⟩))] w7 (fun ed6 w8 => (∃ r8 : Bool, ed6 = .returned (.bool r8) ∧ (Ending.returned (.bool r8)) = .returned (.bool true) ∧ Still w w8) ∨ (∃ ch6, ed6 = .panicked ch6 ∧ (Ending.panicked ch6) = .returned (.bool true) ∧ Still w w8))) ((Ending.returned (.bool false)) = .returned (.bool true) ∧ Still w w7)) ∨ (∃ ch5, ed5 = .panicked ch5 ∧ (Ending.panicked ch5) = .returned (.bool true) ∧ Still w w7)) := by
    refine (awake_spec w5).mono ?_
    rintro _ w7 ⟨rfl, h7⟩
    refine .inl ⟨_, rfl, bsel_of (fun _ => ?_) (fun h => by cases h)⟩
    refine (Same_spec (d.mod h7 (fun h => h) (fun h => h)) (r.mod h7 (fun h => h) (fun h => h)) hs).mono ?_
    rintro _ w8 ⟨rfl, rfl⟩
    exact .inl ⟨_, rfl, rfl, hw5.on h7 (fun _ h => h.elim)⟩
  refine bsel_of (fun hx => bsel_of (fun hx2 => ?_) (fun _ => last)) (fun _ => last)
  have hx := of_decide_eq_true hx
  have hx2 := of_decide_eq_true hx2
  rw [wrap_i64 (n := i + 1) (by omega) (by omega)]
  obtain ⟨a, rfl, what, k, m', t, m, hA⟩ := ha i.toNat (by omega)
  have hA := hA.still hw5
  refine ⟨h0, hx, what, k, m', t, m, hA.c0, hA.c1, hA.c2, hA.c3, hA.c4, ?_⟩
  have e0 : Row (w5.alloc (.cells #[(.int .i64 0), (.int .i64 0), (.int .i64 0), (.string (S ([] : List UInt8))), (.int .u64 0)] 33)) w5.heap.size 33 _ := Row.new _ _ _
  have s0 : Still w5 (w5.alloc (.cells #[(.int .i64 0), (.int .i64 0), (.int .i64 0), (.string (S ([] : List UInt8))), (.int .u64 0)] 33)) := (Mod.refl _ _).alloc _
  generalize (w5.alloc (.cells #[(.int .i64 0), (.int .i64 0), (.int .i64 0), (.string (S ([] : List UInt8))), (.int .u64 0)] 33)) = w6 at e0 s0 ⊢
  have set : ∀ {wx : World} {cs : List Value}, Row wx w5.heap.size 33 ⟨cs⟩ → Still w5 wx → ∀ (j : Nat) (u : Value), Row (wx.setCell ⟨w5.heap.size, j, none⟩ u) w5.heap.size 33 ⟨cs.set j u⟩ ∧ Still w5 (wx.setCell ⟨w5.heap.size, j, none⟩ u) :=
    fun e s j u => ⟨e.setl j u, s.setCell (.inr (Nat.le_refl _)) u⟩
  have e1 := set e0 s0 0 (.int .i64 what)
  have e2 := set e1.1 e1.2 1 (.int .i64 k)
  have e3 := set e2.1 e2.2 2 (.int .i64 m')
  have e4 := set e3.1 e3.2 3 (.string (S t))
  have e5 := set e4.1 e4.2 4 (.int .u64 m)
  have e6 := set e5.1 e5.2 1 (.int .i64 (bits .and .i64 k 3))
  have e7 := set e6.1 e6.2 2 (.int .i64 (bits .and .i64 m' 3))
  refine ⟨e0.wr 0 (by simp), e1.1.wr 1 (by simp), e2.1.wr 2 (by simp), e3.1.wr 3 (by simp), e4.1.wr 4 (by simp), k, e5.1.cell_l rfl, m', e5.1.cell_l rfl, e5.1.wr 1 (by simp), e6.1.wr 2 (by simp), t, e7.1.cell_l rfl, ?_⟩
  have f7 := e7.2
  have hw7 := hw5.on e7.2 (fun _ h => h.elim)
  have d7 := d.mod f7 (fun h => h) (fun h => h)
  have r7 := r.mod f7 (fun h => h) (fun h => h)
  refine bsel_of (fun _ => ⟨_, _, _, _, _, e7.1.cell_l rfl, e7.1.cell_l rfl, e7.1.cell_l rfl, e7.1.cell_l rfl, e7.1.cell_l rfl, ?_⟩) (fun _ => ⟨⟨by omega, by omega, hw7, s, hs, d7, r7⟩, by dsimp only; omega⟩)
  have hb3 := bits_and_i64 (a := m') (b := 3) (by decide) (by decide)
  refine (does_spec d7 r7 hs _ _ _ t m (by omega) hA.m0 hA.m1).mono ?_
  rintro _ w8 ⟨rfl, s', hs', hm8, d8, r8⟩
  refine .inl ⟨_, rfl, bsel_of (fun h => by cases h) (fun _ => ⟨⟨by omega, by omega, hw7.on hm8 ?_, s', hs', d8, r8⟩, by dsimp only; omega⟩)⟩
  rintro i (rfl | rfl | rfl | rfl) <;> omega

theorem DeviceTears_spec (old now last : List UInt8) (mask k : Int) (hm0 : 0 ≤ mask) (hm1 : mask < 18446744073709551616) (hk0 : 0 ≤ k) (hk1 : k < 256) :
    Calls Try.prog fn_law03_DeviceTears #[.string (S old), .string (S now), .string (S last), .int .u64 mask, .int .u8 k] w (fun e w' => e = .returned (.bool true) ∧ Still w w') := by
  refine law03_DeviceTears_calls _ _ _ _ _ _ _ ?_
  unfold vc_law03_DeviceTears
  rw [wrap_i64 (n := k) (by omega) (by omega)]
  have hK0 : 0 ≤ Int.tmod k 3 := Int.tmod_nonneg _ hk0
  have hK1 : Int.tmod k 3 < 3 := Int.tmod_lt_of_pos _ (by decide)
  generalize Int.tmod k 3 = K at hK0 hK1 ⊢
  refine (awake_spec w).mono ?_
  rintro _ w1 ⟨rfl, st1⟩
  refine .inl ⟨_, rfl, bsel_of (fun h => by cases h) (fun _ => ?_)⟩
  refine (device_New_spec (by decide) (by decide)).mono ?_
  rintro _ w2 ⟨g, b, rfl, st2, hg, hb, d2⟩
  have hw2 := st1.on st2 (fun _ h => h.elim)
  have hsz := st1.size
  have hT : ∀ i, (i = g ∨ i = b) → w.heap.size ≤ i := by rintro i (rfl | rfl) <;> omega
  refine .inl ⟨_, _, rfl, bsel_of (fun h => by cases h) (fun _ => bsel_of (fun _ => ⟨rfl, hw2⟩) (fun ho => bsel_of (fun _ => ⟨rfl, hw2⟩) (fun hn => bsel_of (fun _ => ⟨rfl, hw2⟩) (fun hl => ⟨by decide, ?_⟩))))⟩
  have ho : old.length ≤ 64 := by have := of_decide_eq_false ho; omega
  have hn : now.length ≤ 64 := by have := of_decide_eq_false hn; omega
  have hl : last.length ≤ 64 := by have := of_decide_eq_false hl; omega
  refine ⟨fun i w3 => 0 ≤ i ∧ i ≤ 3 ∧ Still w w3 ∧ ∃ s : St, s.Ok ∧ s.n = 3 ∧ s.e = true ∧ Dev w3 g b s ∧ ∀ j, j < i.toNat → rowF s.F (j * 64) 64 = rowF (fun j => old.getD j 0) 0 64, fun i _ => (3 - i).toNat,
    ⟨by decide, by decide, hw2, St.new 3, St.new_ok (by decide) (by decide), rfl, rfl, d2, fun j hj => by simp at hj⟩, ?_⟩
  rintro i _ w3 ⟨hi0, hi1, hw3, s, hs, hsn, hse, d3, hF⟩
  refine bsel_of (fun hx => ?_) (fun hx => ?_)
  · have hx := of_decide_eq_true hx
    refine (device_Write_spec d3 hs i old).mono ?_
    rintro _ w4 ⟨rfl, hm4, d4⟩
    have hwr : s.write i old = (0, s.put i.toNat fun j => old.getD j 0) := by unfold St.write; rw [if_pos (by omega), if_pos hse]
    rw [wrap_i64 (by omega) (by omega)]
    refine .inl ⟨_, rfl, ⟨by omega, by omega, hw3.on hm4 hT, _, hs.write i old, ?_, ?_, d4, ?_⟩, by dsimp only; omega⟩
    · rw [hwr]; exact hsn
    · rw [hwr]; exact hse
    · intro j hj
      rw [hwr]
      by_cases hji : j = i.toNat
      · rw [hji]; exact rowF_put_here _ _ _
      · rw [rowF_put_far _ hji]
        exact hF j (by omega)
  · have hx := of_decide_eq_false hx
    have hi3 : i.toNat = 3 := by omega
    rw [hi3] at hF
    generalize hO : rowF (fun j => old.getD j 0) 0 64 = O at hF
    have hKn : K.toNat < 3 := by omega
    refine (device_Read_spec d3 K).mono ?_
    rintro _ w3 ⟨rfl, rfl⟩
    rw [if_pos (by omega), hF _ hKn]
    refine .inl ⟨_, _, rfl, (device_Limit_spec d3 0 mask).mono ?_⟩
    rintro _ w6 ⟨rfl, hm6, d6⟩
    have hw6 := hw3.on hm6 hT
    have hs6 := hs.limit (n := 0) (by decide) hm0 hm1
    refine .inl ⟨rfl, (device_Write_spec d6 hs6 K now).mono ?_⟩
    rintro _ w7 ⟨rfl, hm7, d7⟩
    have hw7 := hw6.on hm7 hT
    have hs7 := hs6.write K now
    generalize hT1 : (fun j => now.getD j 0 : Nat → UInt8) = T1
    generalize hG : tornF s.F T1 mask (K.toNat * 64) 64 = G
    have hwr7 : (s.limit 0 mask).write K now = (13, { s with F := G, e := false, p := 0, m := 0 }) := by
      unfold St.write
      rw [if_pos (by refine ⟨hK0, ?_, hn⟩; show K < s.n; omega), if_neg (by simp [St.limit]), if_neg (by simp [St.limit]), hT1]
      simp only [St.limit]
      rw [hG]
      rfl
    rw [hwr7] at d7 hs7 ⊢
    refine .inl ⟨_, rfl, (device_Read_spec d7 K).mono ?_⟩
    rintro _ w7 ⟨rfl, rfl⟩
    have hK3 : 0 ≤ K ∧ K < (s.n : Int) := by omega
    rw [if_pos hK3]
    refine .inl ⟨_, _, rfl, (device_Write_spec d7 hs7 K last).mono ?_⟩
    rintro _ w9 ⟨rfl, hm9, d9⟩
    have hw9 := hw7.on hm9 hT
    have hwr9 : ({ s with F := G, e := false, p := 0, m := 0 } : St).write K last = (13, { s with F := G, e := false, p := 0, m := 0 }) := by
      unfold St.write
      rw [if_pos ⟨hK3.1, hK3.2, hl⟩, if_neg (by simp), if_neg (by simp), torn_none]
    dsimp only at d9 ⊢
    rw [hwr9] at d9 ⊢
    refine .inl ⟨_, rfl, (device_Read_spec d9 K).mono ?_⟩
    rintro _ w9 ⟨rfl, rfl⟩
    rw [if_pos hK3]
    refine .inl ⟨_, _, rfl, (device_Restart_spec d9).mono ?_⟩
    rintro _ w11 ⟨rfl, hm11, d11⟩
    have hw11 := hw9.on hm11 hT
    have hs11 := hs7.restart
    refine .inl ⟨rfl, (device_Write_spec d11 hs11 K now).mono ?_⟩
    rintro _ w12 ⟨rfl, hm12, d12⟩
    have hw12 := hw11.on hm12 hT
    generalize hZ : ({ s with F := G, e := false, p := 0, m := 0 } : St).restart = z at *
    have hzn : z.n = s.n := by rw [← hZ]; rfl
    have hzF : z.F = G := by rw [← hZ]; rfl
    have hze : z.e = true := by rw [← hZ]; rfl
    have hwr12 : z.write K now = (0, z.put K.toNat T1) := by
      unfold St.write
      rw [if_pos ⟨hK3.1, by rw [hzn]; exact hK3.2, hn⟩, if_pos hze, hT1]
    rw [hwr12] at d12 ⊢
    refine .inl ⟨_, rfl, (device_Read_spec d12 K).mono ?_⟩
    rintro _ w12 ⟨rfl, rfl⟩
    have hK4 : 0 ≤ K ∧ K < ((z.put K.toNat T1).n : Int) := by show 0 ≤ K ∧ K < (z.n : Int); rw [hzn]; exact hK3
    dsimp only
    rw [if_pos hK4, rowF_put_here]
    refine .inl ⟨_, _, rfl, bsel_of (fun h => by simp at h) (fun _ => bsel_of (fun h => by simp at h) (fun _ => bsel_of (fun h => by simp at h) (fun _ => bsel_of (fun h => by simp at h) (fun _ => bsel_of (fun h => by simp at h) (fun _ => bsel_of (fun h => ?_) (fun _ => bsel_of (fun h => by simp at h) (fun _ => ?_)))))))⟩
    · rw [← hO] at h; simp at h
    have hrG : ∀ j, j < 64 → (rowF G (K.toNat * 64) 64)[j]? = some (if bit mask j then T1 j else s.F (K.toNat * 64 + j)) := by
      intro j hj
      rw [rowF_get hj, ← hG]
      have e1 : K.toNat * 64 + j - K.toNat * 64 = j := by omega
      simp only [tornF, e1]
      by_cases hb : bit mask j = true
      · rw [if_pos (by refine ⟨by omega, by omega, hb⟩), if_pos hb]
      · rw [if_neg (fun h => hb h.2.2), if_neg hb]
    have hrO : ∀ j, j < 64 → O[j]? = some (s.F (K.toNat * 64 + j)) := by
      intro j hj
      rw [← hF _ hKn, rowF_get hj]
    refine ⟨fun i w14 => 0 ≤ i ∧ i ≤ 64 ∧ Still w w14 ∧ Dev w14 g b (z.put K.toNat T1), fun i _ => (64 - i).toNat, ⟨by decide, by decide, hw12, d12⟩, ?_⟩
    rintro i _ w14 ⟨hi0, hi1, hw14, d14⟩
    refine bsel_of (fun hx => ⟨hi0, ?_⟩) (fun _ => ?_)
    · have hx := of_decide_eq_true hx
      rw [bit_shift1 hm0 hm1 hi0 hx, bit_shift0 hm0 hm1 hi0 hx, wrap_i64 (n := i + 1) (by omega) (by omega)]
      have d14' : Dev w14.drew g b (z.put K.toNat T1) := ⟨d14.top.drew, d14.bytes.drew⟩
      have go : (0 ≤ i + 1 ∧ i + 1 ≤ 64 ∧ Still w w14.drew ∧ Dev w14.drew g b (z.put K.toNat T1)) ∧ (64 - (i + 1)).toNat < (64 - i).toNat := ⟨⟨by omega, by omega, hw14.drew, d14'⟩, by omega⟩
      have hr := hrG i.toNat (by omega)
      cases hb : bit mask i.toNat with
      | true =>
        rw [hb] at hr
        refine ⟨hi0, T1 i.toNat, hr, hi0, T1 i.toNat, by rw [rowF_get (by omega), Nat.zero_add], bsel_of (fun h => by simp at h) (fun _ => ⟨hi0, go⟩)⟩
      | false =>
        rw [hb] at hr
        refine ⟨hi0, hi0, _, hr, hi0, _, hrO _ (by omega), bsel_of (fun h => by simp at h) (fun _ => go)⟩
    · refine ⟨fun i w15 => 0 ≤ i ∧ i ≤ 3 ∧ Still w w15 ∧ Dev w15 g b (z.put K.toNat T1), fun i _ => (3 - i).toNat, ⟨by decide, by decide, hw14, d14⟩, ?_⟩
      rintro i _ w15 ⟨hi0, hi1, hw15, d15⟩
      refine bsel_of (fun hx => ?_) (fun _ => ⟨rfl, hw15⟩)
      have hx := of_decide_eq_true hx
      refine (device_Read_spec d15 i).mono ?_
      rintro _ w15 ⟨rfl, rfl⟩
      rw [if_pos (by refine ⟨hi0, ?_⟩; show i < (z.n : Int); omega), wrap_i64 (by omega) (by omega)]
      refine .inl ⟨_, _, rfl, bsel_of (fun hne => bsel_of (fun h => ?_) (fun _ => ⟨⟨by omega, by omega, hw15, d15⟩, by dsimp only; omega⟩)) (fun _ => ⟨⟨by omega, by omega, hw15, d15⟩, by dsimp only; omega⟩)⟩
      have hne : i ≠ K := by simpa using hne
      have hne' : i.toNat ≠ K.toNat := by omega
      rw [rowF_put_far _ hne', hzF, ← hG, rowF_torn_far _ _ hne', hF _ (by omega)] at h
      simp at h
end Go.Proofs.Ytenmimhigfdagaa
