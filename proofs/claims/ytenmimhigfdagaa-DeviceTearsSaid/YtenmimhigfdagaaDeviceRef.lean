/- The device's reference, function for function: what each does to a device's state. Conditions: the reference is one that New made and these functions have turned. -/
import Derived.Test.YtenmimhigfdagaaDevice
namespace Go.Proofs.Ytenmimhigfdagaa
open Go.RowKit Vc
variable {w : World} {g b h q : Nat} {s : St}

theorem ref_Size_spec (d : Ref w h q s) : Calls Try.prog fn_ref03_Device_Size #[.pointer (some ⟨h, 0, none⟩)] w (fun e w' => e = .returned (.int .i64 s.n) ∧ w' = w) := by
  obtain ⟨⟨c, ht⟩, _⟩ := d
  refine ref03_Device_Size_calls _ _ _ ?_
  exact ⟨_, _, _, ht.cellv rfl, rfl, rfl⟩

theorem ref_Read_spec (d : Ref w h q s) (k : Int) : Calls Try.prog fn_ref03_Device_Read #[.pointer (some ⟨h, 0, none⟩), .int .i64 k] w
    (fun e w' => e = .returned (if 0 ≤ k ∧ k < s.n then .tuple #[.string (S (rowF s.F (k.toNat * 64) 64)), .int .i64 0] else .tuple #[.string (S []), .int .i64 1]) ∧ w' = w) := by
  obtain ⟨⟨c, ht⟩, cur, hc, hk⟩ := d
  refine ref03_Device_Read_calls _ _ _ _ ?_
  refine bsel_of (fun h => ?_) (fun h => ⟨_, _, _, ht.cellv rfl, ?_⟩)
  · rw [if_neg (by have := of_decide_eq_true h; omega)]; exact ⟨rfl, rfl⟩
  · have h0 := of_decide_eq_false h
    refine bsel_of (fun h => ?_) (fun h => ⟨_, _, _, ht.cellv rfl, by omega, by have := of_decide_eq_false h; omega, ?_⟩)
    · rw [if_neg (by have := of_decide_eq_true h; omega)]; exact ⟨rfl, rfl⟩
    · have h1 := of_decide_eq_false h
      rw [if_pos (by omega)]
      refine ⟨_, ?_, rfl, rfl⟩
      rw [add_row]
      exact hc.cellv (by simpa using hk k.toNat (by omega))

theorem ref_Limit_spec (d : Ref w h q s) (n m : Int) : Calls Try.prog fn_ref03_Device_Limit #[.pointer (some ⟨h, 0, none⟩), .int .i64 n, .int .u64 m] w
    (fun e w' => e = .returned (.tuple #[]) ∧ Mod (fun i => i = h ∨ i = q) w w' ∧ Ref w' h q (s.limit n m)) := by
  obtain ⟨⟨c, ht⟩, cur, hc, hk⟩ := d
  refine ref03_Device_Limit_calls _ _ _ _ _ ?_
  have hne : q ≠ h := hc.ne ht (by decide)
  refine ⟨ht.wr 1 (by simp), ((ht.set 1 _).wr 2 (by simp)), rfl, ?_, ⟨c, ?_⟩, cur, ?_, hk⟩
  · exact ((Mod.refl _ _).setCell (.inl (.inl rfl)) _).setCell (.inl (.inl rfl)) _
  · exact (ht.set 1 _).set 2 _
  · exact (hc.far hne _).far hne _

theorem ref_Restart_spec (d : Ref w h q s) : Calls Try.prog fn_ref03_Device_Restart #[.pointer (some ⟨h, 0, none⟩)] w
    (fun e w' => e = .returned (.tuple #[]) ∧ Mod (fun i => i = h ∨ i = q) w w' ∧ Ref w' h q s.restart) := by
  obtain ⟨⟨c, ht⟩, cur, hc, hk⟩ := d
  refine ref03_Device_Restart_calls _ _ _ ?_
  have hne : q ≠ h := hc.ne ht (by decide)
  refine ⟨ht.wr 1 (by simp), ((ht.set 1 _).wr 2 (by simp)), rfl, ?_, ⟨c, ?_⟩, cur, ?_, hk⟩
  · exact ((Mod.refl _ _).setCell (.inl (.inl rfl)) _).setCell (.inl (.inl rfl)) _
  · exact (ht.set 1 _).set 2 _
  · exact (hc.far hne _).far hne _

theorem zeros_spec {n : Int} (h0 : 0 ≤ n) (h1 : n ≤ 4096) : Calls Try.prog fn_ref03_zeros #[.int .i64 n] w
    (fun e w' => e = .returned (.string (S (List.replicate n.toNat 0))) ∧ Mod (fun _ => False) w w') := by
  refine ref03_zeros_calls _ _ _ ?_
  refine ⟨h0, Int.le_refl _, by omega, by omega, List.replicate n.toNat 0, ⟨by simp, fun _ => ⟨_, rfl, ?_⟩⟩, rfl, (Mod.refl _ _).alloc _⟩
  intro j b hb
  rw [madeCells_zero _ (by intro v hv; simpa using hv) (by simp), add_row]
  have hj : j < n.toNat := by
    have := (List.getElem?_eq_some_iff.1 hb).1
    simpa using this
  rw [List.getElem?_replicate, if_pos hj] at hb
  obtain rfl := Option.some.inj hb
  exact (Row.new w _ _).cellv (by simpa using cellsF_get (F := fun _ => 0) (by omega))

theorem ref_New_bad {n : Int} (hn : n < 1 ∨ 4096 < n) : Calls Try.prog fn_ref03_New #[.int .i64 n] w (fun e w' => e = .returned (.tuple #[.pointer none, .int .i64 1]) ∧ w' = w) := by
  refine ref03_New_calls _ _ _ ?_
  refine bsel_of (fun h => ⟨rfl, rfl⟩) (fun h => bsel_of (fun h => ⟨rfl, rfl⟩) (fun h2 => ?_))
  have := of_decide_eq_false h
  have := of_decide_eq_false h2
  omega

/-- A slice of strings as far as it has been made. -/
def Made (w : World) (h B : Nat) (n : Nat) : Prop := ∃ p c, Row w h ty_scullionref03_Device #[.slice p n c, .int .i64 (-1), .int .u64 0] ∧
  w.ownsRow B ty_string 1 (.slice p n c) n (List.replicate n (.string (S (List.replicate 64 0))))
theorem ref_New_spec {n : Int} (h1 : 1 ≤ n) (h2 : n ≤ 4096) : Calls Try.prog fn_ref03_New #[.int .i64 n] w
    (fun e w' => ∃ h q, e = .returned (.tuple #[.pointer (some ⟨h, 0, none⟩), .int .i64 0]) ∧ Mod (fun _ => False) w w' ∧ w.heap.size ≤ h ∧ w.heap.size ≤ q ∧ Ref w' h q (St.new n.toNat)) := by
  refine ref03_New_calls _ _ _ ?_
  refine bsel_of (fun h => (by have := of_decide_eq_true h; omega)) (fun _ => bsel_of (fun h => (by have := of_decide_eq_true h; omega)) (fun _ => ?_))
  refine ⟨fun i w1 => 0 ≤ i ∧ i ≤ n ∧ Mod (fun _ => False) w w1 ∧ Made w1 w.heap.size w.heap.size i.toNat, fun i _ => (n - i).toNat, ?_, ?_⟩
  · refine ⟨by decide, by omega, (Mod.refl _ _).alloc _, none, 0, Row.new _ _ _, World.ownsRow_nil _ _ _ _⟩
  · rintro i _ w1 ⟨h0, hi, hm, p, c, ht, ho⟩
    refine bsel_of (fun hx => ?_) (fun hx => ?_)
    · have hx := of_decide_eq_true hx
      refine ⟨fun wq => Row wq w.heap.size ty_scullionref03_Device #[.slice p i.toNat c, .int .i64 (-1), .int .u64 0], ht.drew, p, i.toNat, c, fun wq hq => hq.cellv rfl, ?_⟩
      refine (zeros_spec (by decide) (by decide)).mono ?_
      rintro _ w2 ⟨rfl, hm2⟩
      have hm12 : Mod (fun _ => False) w1 w2 := ((Mod.refl (fun _ => False) w1).drew).trans hm2 (fun _ h => h) (fun _ _ h => h)
      have hm3 := hm12.alloc (.cells #[.string (S (List.replicate 64 0))] 9)
      have ht3 := ht.mod hm3 (fun h => h)
      refine .inl ⟨_, rfl, ht.mod hm12 (fun h => h), ht3, List.replicate i.toNat (.string (S (List.replicate 64 0))), [.string (S (List.replicate 64 0))], ?_, by simp, by simp [Value.oneCell'], ?_, by omega, by omega, ?_⟩
      · exact owns_base (owns_mod ho hm3 (fun _ _ h => h)) (fun _ _ => Nat.zero_le _)
      · refine fun _ => ⟨_, rfl, ?_⟩
        intro j u hu
        have hj : j = 0 := by
          have := (List.getElem?_eq_some_iff.1 hu).1
          simpa using this
        subst hj
        obtain rfl := Option.some.inj hu
        exact (Row.new w2 9 _).cellv rfl
      · intro p' c' w3 ho3 hg3 hblk
        have hown : ∀ k, (Value.slice p i.toNat c).ownBlock = some k → w.heap.size ≤ k ∧ k ≠ w.heap.size := by
          intro k hk
          obtain ⟨cur, hc⟩ := owns_typed ho hk
          exact ⟨(ho.lt k hk).1, hc.ne ht (by decide)⟩
        have ht4 : Row w3 w.heap.size ty_scullionref03_Device #[.slice p i.toNat c, .int .i64 (-1), .int .u64 0] := ht3.grown hg3 (fun e => (hown _ e.symm).2 rfl)
        have hw : IntKind.i64.wrap (i + 1) = i + 1 := wrap_i64 (by omega) (by omega)
        have hi1 : (i + 1).toNat = i.toNat + 1 := by omega
        have hmg : Mod (fun _ => False) w w3 := ((hm.trans hm3 (fun _ h => h) (fun _ _ h => h))).grown hg3 (fun k hk => .inr (hown k hk).1)
        have hblk' : ∀ k, (Value.slice p' (i.toNat + 1) c').ownBlock = some k → w.heap.size < k := by
          intro k hk
          rcases hblk with e | e
          · rw [hk] at e
            have := hown k e.symm
            omega
          · rw [hk] at e
            obtain rfl := Option.some.inj e
            exact Nat.lt_of_lt_of_le ht.lt hm3.size
        rw [hw]
        refine ⟨ht4.wr 0 (by simp), ⟨by omega, by omega, hmg.setCell (.inr (Nat.le_refl _)) _, p', c', ?_, ?_⟩, by dsimp only; omega⟩
        · rw [hi1]; exact ht4.set 0 _
        · rw [hi1, List.replicate_succ']
          exact owns_far (owns_base ho3 (fun k hk => Nat.le_of_lt (hblk' k hk))) (fun e => by have := hblk' _ e; simp at this) _
    · have hx := of_decide_eq_false hx
      have : i = n := by omega
      subst this
      refine ⟨w.heap.size, ?_⟩
      obtain ⟨g, cap, cur, he, hb, hgr, hc1, hc2, hc3⟩ := owns_row ho (by omega)
      injection he with he1 he2 he3
      subst he1
      refine ⟨g, rfl, hm, Nat.le_refl _, hb, ⟨c, ?_⟩, cur.toList, ?_, ?_⟩
      · exact ht
      · exact hgr
      · intro k hk
        have hk : k < i.toNat := hk
        have h3 : (cur.toList.take (i.toNat * 1))[k]? = some (.string (S (List.replicate 64 0))) := by
          rw [hc3, List.getElem?_replicate, if_pos hk]
        rw [List.getElem?_take_of_lt (by omega)] at h3
        rw [h3]
        rfl

theorem torn_none (F T : Nat → UInt8) (o x : Nat) : tornF F T 0 o x = F := by
  funext j
  simp [tornF, bit_zero]
theorem rowF_put_here (s : St) (k : Nat) (T : Nat → UInt8) : rowF (s.put k T).F (k * 64) 64 = rowF T 0 64 := by
  apply List.map_congr_left
  intro i hi
  have hi := List.mem_range.1 hi
  simp only [St.put]
  rw [if_pos (by omega)]
  congr 1
  omega
theorem rowF_put_far (s : St) {k k' : Nat} (hne : k' ≠ k) (T : Nat → UInt8) : rowF (s.put k T).F (k' * 64) 64 = rowF s.F (k' * 64) 64 := by
  apply rowF_congr
  intro i hi
  simp only [St.put]
  rw [if_neg (by omega)]
theorem rowF_torn_far (F T : Nat → UInt8) {m : Int} {k k' : Nat} (hne : k' ≠ k) : rowF (tornF F T m (k * 64) 64) (k' * 64) 64 = rowF F (k' * 64) 64 := by
  apply rowF_congr
  intro i hi
  simp only [tornF]
  rw [if_neg (by omega)]
theorem cellsF_succ (G : Nat → UInt8) (n : Nat) : cellsF G n ++ [.int .u8 (G n).toNat] = cellsF G (n + 1) := by
  simp [cellsF, List.range_succ]

/-- One string of the row set anew. -/
theorem strs_set {cur : List Value} {n k : Nat} {L : Nat → List UInt8} (_hk : k < n) (hc : ∀ j, j < n → cur[j]? = some (.string (S (L j)))) {L' : Nat → List UInt8} (hh : ∀ j, j < n → j ≠ k → L' j = L j) :
    ∀ j, j < n → ((Array.mk cur).setIfInBounds k (.string (S (L' k)))).toList[j]? = some (.string (S (L' j))) := by
  intro j hj
  have hlen : j < cur.length := (List.getElem?_eq_some_iff.1 (hc j hj)).1
  rw [Array.toList_setIfInBounds, List.getElem?_set]
  by_cases h : k = j
  · subst h; rw [if_pos rfl, if_pos hlen]
  · rw [if_neg h, hc j hj, hh j hj (fun e => h e.symm)]

theorem ref_Write_spec (d : Ref w h q s) (hs : s.Ok) (k : Int) (text : List UInt8) : Calls Try.prog fn_ref03_Device_Write #[.pointer (some ⟨h, 0, none⟩), .int .i64 k, .string (S text)] w
    (fun e w' => e = .returned (.int .i64 (s.write k text).1) ∧ Mod (fun i => i = h ∨ i = q) w w' ∧ Ref w' h q (s.write k text).2) := by
  have d0 := d
  obtain ⟨⟨c, ht⟩, cur, hc, hk⟩ := d
  refine ref03_Device_Write_calls _ _ _ _ _ ?_
  have bad : ¬ (0 ≤ k ∧ k < s.n ∧ text.length ≤ 64) → s.write k text = (1, s) := fun h => by unfold St.write; rw [if_neg h]
  refine bsel_of (fun h => ?_) (fun h0 => ⟨_, _, _, ht.cellv rfl, bsel_of (fun h => ?_) (fun h1 => bsel_of (fun h => ?_) (fun h2 => ?_))⟩)
  · have h := of_decide_eq_true h
    rw [bad (by omega)]; exact ⟨rfl, Mod.refl _ _, d0⟩
  · have h := of_decide_eq_true h
    rw [bad (by omega)]; exact ⟨rfl, Mod.refl _ _, d0⟩
  · have h := of_decide_eq_true h
    rw [bad (by omega)]; exact ⟨rfl, Mod.refl _ _, d0⟩
  have h0 := of_decide_eq_false h0
  have h1 := of_decide_eq_false h1
  have h2 := of_decide_eq_false h2
  have hgood : 0 ≤ k ∧ k < s.n ∧ text.length ≤ 64 := by omega
  have hkn : k.toNat < s.n := by omega
  have hqh : q ≠ h := hc.ne ht (by decide)
  have hlen : ∀ j, j < s.n → j < cur.length := fun j hj => (List.getElem?_eq_some_iff.1 (hk j hj)).1
  generalize hT : (fun j => text.getD j 0 : Nat → UInt8) = T
  generalize hP : (if s.e = true then -1 else s.p) = P at ht
  have hpl := hs.p1
  have hp0 := hs.p0
  have hPr : -1 ≤ P ∧ P < 9223372036854775808 := by rw [← hP]; split <;> omega
  refine ⟨fun w' => w' = w ∧ ¬ (P = 0 ∧ s.m = 0), ⟨fun x w' => w' = w ∧ x = decide (P = 0 ∧ s.m = 0), ⟨_, ht.cellv rfl, bsel_of (fun hp => ⟨_, ht.cellv rfl, rfl, ?_⟩) (fun hp => ⟨rfl, ?_⟩)⟩, ?_⟩, ?_⟩
  · have hp := of_decide_eq_true hp
    simp [hp]
  · have hp := of_decide_eq_false hp
    simp [hp]
  · rintro x _ w1 ⟨rfl, rfl⟩
    refine bsel_of (fun hx => ?_) (fun hx => ⟨rfl, of_decide_eq_false hx⟩)
    obtain ⟨hx1, hx2⟩ := of_decide_eq_true hx
    have he : s.e = false := by cases he : s.e with
      | false => rfl
      | true => simp [he] at hP; omega
    have hp : s.p = 0 := by simp [he] at hP; omega
    have : s.write k text = (13, s) := by
      unfold St.write
      rw [if_pos hgood, if_neg (by simp [he]), if_neg (by omega), hx2, torn_none]
      cases s; simp at hx2; subst hx2; rfl
    rw [this]
    exact ⟨rfl, Mod.refl _ _, d0⟩
  · rintro _ w2 ⟨rfl, hnz⟩
    rw [wrap_i64 (by omega) (by omega)]
    refine (zeros_spec (by omega) (by omega)).mono ?_
    rintro _ w3 ⟨rfl, hm3⟩
    have ht3 := ht.mod hm3 (fun h => h)
    have hc3 := hc.mod hm3 (fun h => h)
    have hm3' : Mod (fun i => i = h ∨ i = q) w2 w3 := hm3.weaken (fun _ h => h.elim)
    have hrow : text ++ List.replicate (64 - (text.length : Int)).toNat 0 = rowF T 0 64 := by
      apply List.ext_getElem?
      intro j
      by_cases hj : j < 64
      · rw [rowF_get hj, ← hT, Nat.zero_add]
        by_cases hj2 : j < text.length
        · rw [List.getElem?_append_left hj2]; simp [hj2]
        · rw [List.getElem?_append_right (by omega), List.getElem?_replicate, if_pos (by omega)]
          simp [Nat.le_of_not_lt hj2]
      · rw [List.getElem?_eq_none (by simp; omega), List.getElem?_eq_none (by simp; omega)]
    refine .inl ⟨_, rfl, ?_⟩
    rw [hrow]
    refine ⟨by simp; omega, _, ht3.cellv rfl, bsel_of (fun hp => ⟨_, ht3.cellv rfl, bsel_of (fun hp2 => ⟨_, ht3.cellv rfl, ht3.wr 1 (by simp), ?_⟩) (fun hp2 => ?_)⟩) (fun hp => ?_)⟩
    · have hp2 := of_decide_eq_true hp2
      have he : s.e = false := by cases he : s.e with
        | false => rfl
        | true => simp [he] at hP; omega
      have hp : s.p = P := by simpa [he] using hP
      have : s.write k text = (0, { s.put k.toNat T with p := s.p - 1 }) := by
        unfold St.write
        rw [if_pos hgood, if_neg (by simp [he]), if_pos (by omega), hT]
      rw [this]
      refine ⟨_, _, _, (ht3.set 1 _).cellv rfl, by omega, by omega, ?_⟩
      have hc4 := hc3.far (p := ⟨h, 1, none⟩) hqh (.int .i64 (IntKind.i64.wrap (P - 1)))
      refine ⟨?_, rfl, ?_, ⟨c, ?_⟩, ((Array.mk cur).setIfInBounds k.toNat (.string (S (rowF T 0 64)))).toList, ?_, ?_⟩
      · simp only [add_row, Nat.zero_add, Nat.mul_one]
        exact hc4.wr _ (by simpa using hlen _ hkn)
      · simp only [add_row, Nat.zero_add, Nat.mul_one]
        exact (hm3'.setCell (.inl (.inl rfl)) _).setCell (.inl (.inr rfl)) _
      · have := (ht3.set 1 (.int .i64 (IntKind.i64.wrap (P - 1)))).far (p := (Addr.mk q 0 none).add (k.toNat * 1)) (by rw [add_row]; exact hqh.symm) (.string (S (rowF T 0 64)))
        rw [wrap_i64 (by omega) (by omega)] at this ⊢
        have e2 : (if s.e = true then (-1 : Int) else s.p - 1) = P - 1 := by simp [he, hp]
        have e3 : (if { s.put k.toNat T with p := s.p - 1 }.e = true then (-1 : Int) else { s.put k.toNat T with p := s.p - 1 }.p) = P - 1 := e2
        rw [e3]
        exact this
      · simp only [add_row, Nat.zero_add, Nat.mul_one]
        exact hc4.set _ _
      · have := strs_set (L' := fun j => rowF (s.put k.toNat T).F (j * 64) 64) hkn hk (fun j _ hne => rowF_put_far s hne T)
        simp only [rowF_put_here] at this
        exact this
    · have hp := of_decide_eq_false (by simpa using hp)
      have hp2 := of_decide_eq_false hp2
      have he : s.e = true := by cases he : s.e with
        | true => rfl
        | false => simp [he] at hP; omega
      have : s.write k text = (0, s.put k.toNat T) := by
        unfold St.write
        rw [if_pos hgood, if_pos he, hT]
      rw [this]
      refine ⟨_, _, _, ht3.cellv rfl, by omega, by omega, ?_, rfl, ?_, ⟨c, ?_⟩, ((Array.mk cur).setIfInBounds k.toNat (.string (S (rowF T 0 64)))).toList, ?_, ?_⟩
      · rw [add_row]
        exact hc3.wr _ (by simpa using hlen _ hkn)
      · rw [add_row]
        exact hm3'.setCell (.inl (.inr rfl)) _
      · have := ht3.far (p := (Addr.mk q 0 none).add (k.toNat * 1)) (by rw [add_row]; exact hqh.symm) (.string (S (rowF T 0 64)))
        rw [← hP] at this
        exact this
      · rw [add_row, Nat.zero_add, Nat.mul_one]
        exact hc3.set _ _
      · have := strs_set (L' := fun j => rowF (s.put k.toNat T).F (j * 64) 64) hkn hk (fun j _ hne => rowF_put_far s hne T)
        simp only [rowF_put_here] at this
        exact this
    · have hp : P = 0 := by simpa using hp
      have he : s.e = false := by cases he : s.e with
        | false => rfl
        | true => simp [he] at hP; omega
      have hsp : s.p = 0 := by simp [he] at hP; omega
      generalize hG : tornF s.F T s.m (k.toNat * 64) 64 = G
      have : s.write k text = (13, { s with F := G, m := 0 }) := by
        unfold St.write
        rw [if_pos hgood, if_neg (by simp [he]), if_neg (by omega), hT, hG]
      rw [this]
      have hGbit : ∀ j, j < 64 → G (k.toNat * 64 + j) = if bit s.m j then T j else s.F (k.toNat * 64 + j) := by
        intro j hj
        rw [← hG]
        have e1 : k.toNat * 64 + j - k.toNat * 64 = j := by omega
        simp only [tornF, e1]
        by_cases hb : bit s.m j = true
        · rw [if_pos (by refine ⟨by omega, by omega, hb⟩), if_pos hb]
        · rw [if_neg (fun h => hb h.2.2), if_neg hb]
      refine ⟨fun b bL bC i w4 => 0 ≤ i ∧ i ≤ 64 ∧ bL = i.toNat ∧ Mod (fun _ => False) w3 w4 ∧ w4.ownsRow w3.heap.size ty_uint8 1 (.slice b bL bC) bL (cellsF (fun j => G (k.toNat * 64 + j)) i.toNat), fun _ _ _ i _ => (64 - i).toNat,
        ⟨by decide, by decide, rfl, Mod.refl _ _, World.ownsRow_nil _ _ _ _⟩, ?_⟩
      rintro b bL bC i _ w4 ⟨hi0, hi1, rfl, hm4, ho⟩
      have ht4 := ht3.mod hm4 (fun h => h)
      have hc4 := hc3.mod hm4 (fun h => h)
      refine bsel_of (fun hx => ⟨_, ht4.cellv rfl, hi0, ?_⟩) (fun hx => ?_)
      · have hx := of_decide_eq_true hx
        rw [bit_shift1 hs.m0 hs.m1 hi0 hx]
        have hw : IntKind.i64.wrap (i + 1) = i + 1 := wrap_i64 (by omega) (by omega)
        have hi1' : (i + 1).toNat = i.toNat + 1 := by omega
        have grow : ∀ (v : UInt8), v = G (k.toNat * 64 + i.toNat) → ∃ xs news : List Value, (w4.alloc (.cells #[(.int .u8 (v.toNat : Int))] 5)).ownsRow 0 5 1 (.slice b i.toNat bC) i.toNat xs ∧ news.length = 1 * 1 ∧ (∀ u ∈ news, u.oneCell' = true) ∧
            (0 < 1 → ∃ a12 : Addr, (some (Addr.mk w4.heap.size 0 none)) = some a12 ∧ ∀ (j : Nat) (u : Value), news[j]? = some u → (w4.alloc (.cells #[(.int .u8 (v.toNat : Int))] 5)).cell? (a12.add j) = some u) ∧
            i.toNat + 1 ≤ 9223372036854775807 ∧ (i.toNat + 1) * 1 ≤ 140737488355328 ∧
            ∀ (p : Option Addr) (cp : Nat) (w5 : World), w5.ownsRow 0 5 1 (Value.slice p (i.toNat + 1) cp) (i.toNat + 1) (xs ++ news) → (w4.alloc (.cells #[(.int .u8 (v.toNat : Int))] 5)).grownBy w5 (Value.ownBlock (Value.slice b i.toNat bC)) →
              (Value.ownBlock (Value.slice p (i.toNat + 1) cp) = Value.ownBlock (Value.slice b i.toNat bC) ∨ Value.ownBlock (Value.slice p (i.toNat + 1) cp) = some (w4.alloc (.cells #[(.int .u8 (v.toNat : Int))] 5)).heap.size) →
              (0 ≤ i + 1 ∧ i + 1 ≤ 64 ∧ i.toNat + 1 = (i + 1).toNat ∧ Mod (fun _ => False) w3 w5 ∧ w5.ownsRow w3.heap.size ty_uint8 1 (.slice p (i.toNat + 1) cp) (i.toNat + 1) (cellsF (fun j => G (k.toNat * 64 + j)) (i + 1).toNat)) ∧ (64 - (i + 1)).toNat < (64 - i).toNat := by
          intro v hv
          have hm5 := hm4.alloc (.cells #[(.int .u8 (v.toNat : Int))] 5)
          refine ⟨cellsF (fun j => G (k.toNat * 64 + j)) i.toNat, [.int .u8 (v.toNat : Int)], owns_base (ho.alloc _) (fun _ _ => Nat.zero_le _), by simp, by simp [Value.oneCell'], ?_, by omega, by omega, ?_⟩
          · refine fun _ => ⟨_, rfl, ?_⟩
            intro j u hu
            have hj : j = 0 := by
              have := (List.getElem?_eq_some_iff.1 hu).1
              simpa using this
            subst hj
            obtain rfl := Option.some.inj hu
            exact (Row.new w4 5 _).cellv rfl
          · intro p cp w5 ho5 hg5 hblk
            refine ⟨⟨by omega, by omega, hi1'.symm, hm5.grown hg5 (fun k hk => .inr (ho.lt k hk).1), ?_⟩, by omega⟩
            rw [hi1', ← cellsF_succ, ← hv]
            refine owns_base ho5 (fun k hk => ?_)
            rcases hblk with e | e
            · rw [hk] at e; exact (ho.lt k e.symm).1
            · rw [hk] at e
              obtain rfl := Option.some.inj e
              exact hm5.size
        have hiN : i.toNat < 64 := by omega
        refine bsel_of (fun hb => ⟨hi0, T i.toNat, ?_, ?_⟩) (fun hb => ⟨_, _, _, ht4.cellv rfl, by omega, by omega, rowF s.F (k.toNat * 64) 64, ?_, hi0, s.F (k.toNat * 64 + i.toNat), ?_, ?_⟩)
        · rw [rowF_get hiN, Nat.zero_add]
        · rw [hw]
          exact grow _ (by rw [hGbit _ hiN, if_pos hb])
        · rw [add_row, Nat.zero_add, Nat.mul_one]
          exact hc4.cellv (by simpa using hk _ hkn)
        · rw [rowF_get hiN]
        · rw [hw]
          exact grow _ (by rw [hGbit _ hiN, if_neg (by simp [hb])])
      · have hx := of_decide_eq_false hx
        have hi64 : i.toNat = 64 := by omega
        rw [hi64] at ho ⊢
        obtain ⟨gb, cap, cb, hsl, hgb, hrb, hcap, hsz, htake⟩ := owns_row ho (by omega)
        injection hsl with e1 e2 e3
        subst e1
        have hget : ∀ j, j < 64 → cb[j]? = some (.int .u8 (G (k.toNat * 64 + j)).toNat) := by
          intro j hj
          have h3 : (cb.toList.take (64 * 1))[j]? = some (.int .u8 (G (k.toNat * 64 + j)).toNat) := by rw [htake, cellsF_get hj]
          rw [List.getElem?_take_of_lt (by omega)] at h3
          simpa using h3
        refine ⟨fun wq => Row wq h ty_scullionref03_Device #[.slice (some ⟨q, 0, none⟩) s.n c, .int .i64 P, .int .u64 s.m] ∧ Row wq gb ty_uint8 cb, ⟨ht4.drew, hrb.drew⟩, _, _, _, fun wq hq => hq.1.cellv rfl, rowF G (k.toNat * 64) 64, ⟨by simp, fun _ => ⟨_, rfl, ?_⟩⟩, by omega, by omega, ?_, ?_, rfl, ?_, ⟨c, ?_⟩, ((Array.mk cur).setIfInBounds k.toNat (.string (S (rowF G (k.toNat * 64) 64)))).toList, ?_, ?_⟩
        · intro j b hb wq hq
          have hj : j < 64 := by
            have := (List.getElem?_eq_some_iff.1 hb).1
            simpa using this
          rw [rowF_get hj] at hb
          obtain rfl := Option.some.inj hb
          rw [add_row, Nat.zero_add]
          exact hq.2.cellv (hget j hj)
        · rw [add_row]
          exact hc4.drew.wr _ (by simpa using hlen _ hkn)
        · have := ht4.drew.far (p := (Addr.mk q 0 none).add (k.toNat * 1)) (by rw [add_row]; exact hqh.symm) (.string (S (rowF G (k.toNat * 64) 64)))
          exact this.wr 2 (by simp)
        · rw [add_row]
          exact (((hm3.trans hm4 (fun _ h => h) (fun _ _ h => h)).weaken (fun _ h => h.elim)).drew.setCell (.inl (.inr rfl)) _).setCell (.inl (.inl rfl)) _
        · have := (ht4.drew.far (p := (Addr.mk q 0 none).add (k.toNat * 1)) (by rw [add_row]; exact hqh.symm) (.string (S (rowF G (k.toNat * 64) 64)))).set 2 (.int .u64 0)
          rw [← hP] at this
          exact this
        · rw [add_row, Nat.zero_add, Nat.mul_one]
          exact (hc4.drew.set _ _).far hqh _
        · have := strs_set (L' := fun j => rowF G (j * 64) 64) hkn hk (fun j _ hne => by rw [← hG]; exact rowF_torn_far _ _ hne)
          exact this
end Go.Proofs.Ytenmimhigfdagaa
