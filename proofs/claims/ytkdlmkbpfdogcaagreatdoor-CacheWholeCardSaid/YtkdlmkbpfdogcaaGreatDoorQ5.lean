/- Texts of one proof, one behind the other. Conditions: as each theorem names them. -/
import Derived.Test.YtkdlmkbpfdogcaaGreatDoorQ4
import Derived.Shelf.Strings.Builder1
import Derived.Shelf.Strings.Trim
import Derived.Shelf.Small.Utf8
import Derived.Shelf.Small.Strs
import Derived.Shelf.Small.Wraps
import Derived.Shelf.Strings.BuilderF
import Derived.Shelf.Strings.BuilderK
import Derived.Shelf.Strconv.Atoi
import Derived.Shelf.Strconv.Itoa0
import Derived.Shelf.Strconv.Itoa1
import Derived.Shelf.LaysM
import Derived.Shelf.Strconv.Itoa2
import Derived.Shelf.Strconv.Itoa3
import Derived.Shelf.Strconv.AtoiErrFast
import Derived.Shelf.Strconv.ParseIntEmpty
import Derived.Shelf.Strconv.AtoiFail
import Derived.Shelf.Strconv.Clone
import Derived.Shelf.Strconv.SyntaxError
import Derived.Shelf.LaysC
import Derived.Shelf.Strconv.ToError
import Derived.Shelf.Strconv.AtoiErr
import Derived.Shelf.Strconv.ErrVar
import Derived.Shelf.Strconv.Lower
import Derived.Shelf.Strconv.ParseUint10
import Derived.Shelf.Strconv.ParseUint10Empty
import Derived.Shelf.Strconv.ParseUint10Any
import Derived.Shelf.Strconv.ParseInt10
import Derived.Shelf.Strconv.AtoiLong
import Derived.Shelf.Strconv.AtoiInnerAll
import Derived.Shelf.Strconv.RangeError
import Derived.Shelf.Strconv.ToErrorRange
import Derived.Shelf.Strconv.AtoiAll
import Derived.Shelf.Strconv.ErrVarAll
import Derived.Shelf.Strconv.ParseUintEmpty
import Derived.Shelf.Strconv.ParseUint10b64
import Derived.Shelf.Strconv.ParseUint10b32
import Derived.Shelf.Strconv.ParseUint10b16
import Derived.Shelf.Strconv.ParseUint10b8
import Derived.Shelf.Strconv.ParseUint10At
import Derived.Shelf.Strconv.ParseInt10At64
import Derived.Shelf.Strconv.ParseInt10At32
import Derived.Shelf.Strconv.ParseInt10At16
import Derived.Shelf.Strconv.ParseInt10At8
import Derived.Shelf.Strconv.ParseInt10All
import Derived.Shelf.Strings.Search1
import Derived.Shelf.Strings.Search2
import Derived.Shelf.Strings.Cut
import Derived.Shelf.Strings.Shaped
import Derived.Shelf.Strings.Prefix
import Derived.Shelf.Unicode.Decode
import Derived.Shelf.Strings.Runes
import Derived.Shelf.Strings.AsciiSet
import Derived.Shelf.Unicode.DecodeSlow
import Derived.Shelf.Unicode.DecodeAny
import Derived.Shelf.Unicode.DecodeLast
import Derived.Shelf.Strings.BuilderCap
import Derived.Ground.Names2Prog
import Derived.Shelf.Slices.Clone
import Derived.Test.YtkdlmkbpfdogcaaGreatDoorProg
import Derived.Lib.LaidTab
namespace Go.Proofs.YtkdlmkbpfdogcaaGreatDoor
open Go.RowKit Vc
variable {w : World}
def SrcB (w : World) (b : Option Addr) (bL bC : Nat) (T : List UInt8) : Prop := T.length = bL ∧ bL ≤ bC ∧ (0 < bL → ∃ g o, b = some ⟨g, o, none⟩ ∧ Src w g o T)
theorem Src.take {g o : Nat} {T : List UInt8} (h : Src w g o T) (n : Nat) : Src w g o (T.take n) := by
  obtain ⟨t, cs, hr, hc⟩ := h.row
  refine ⟨t, cs, hr, fun j x hx => ?_⟩
  rw [List.getElem?_take] at hx
  split at hx
  · exact hc j x hx
  · cases hx
theorem Src.drop {g o : Nat} {T : List UInt8} (h : Src w g o T) (n : Nat) : Src w g (o + n) (T.drop n) := by
  obtain ⟨t, cs, hr, hc⟩ := h.row
  refine ⟨t, cs, hr, fun j x hx => ?_⟩
  rw [List.getElem?_drop] at hx
  rw [Nat.add_assoc]
  exact hc _ x hx
theorem Owns.src {B : Nat} {p : Option Addr} {L C : Nat} {T : List UInt8} (h : Owns w B 5 1 (.slice p L C) L (bc T)) : SrcB w p L C T := by
  have hl := h.length
  rw [bc_length] at hl
  refine ⟨by omega, ?_, fun hL => ?_⟩
  · obtain ⟨_, ⟨e, e2⟩ | ⟨g, cap, cur, e, _, _, hc, _⟩⟩ := h
    · omega
    · injection e with _ _ e3
      omega
  · obtain ⟨g, cap, cur, e, _, hr, hc, hs, ht⟩ := h.row hL
    injection e with e1 e2 e3
    refine ⟨g, 0, e1, 5, cur, hr, fun j x hx => ?_⟩
    have hb := bc_get hx
    rw [← ht, List.getElem?_take] at hb
    split at hb
    · rw [Nat.zero_add]
      simpa using hb
    · cases hb
theorem ref_sum_spec (s : List UInt8) (hs : s.length < 1000000) : Calls Tryz.prog fn_ref01_Sum #[.string (S s)] w (fun e w' => e = .returned (.string (S (sha s))) ∧ Still w w') := by
  refine ref01_Sum_calls _ _ _ ?_
  refine initial_spec.mono ?_
  rintro _ w1 ⟨gi, rfl, hgi, hri, hm1⟩
  refine .inl ⟨_, _, _, rfl, (padded_spec s hs).mono ?_⟩
  rintro _ w2 ⟨pp, pL, pC, rfl, hop, hm2⟩
  have hm12 : Still w w2 := Mod.trans hm1 hm2 (fun _ h => h) (fun _ _ h => h)
  have hi2 : Owns w2 0 151 1 (.slice (some ⟨gi, 0, none⟩) 8 8) 8 (uvs init8.list) := Owns.of_row (hri.mod hm2 (fun h => h)) (Nat.zero_le _) rfl (by decide)
  have hT := hop.src
  have hb := blocks_of s
  unfold sha
  generalize (s ++ padding s.length).length / 64 = N at hb ⊢
  generalize s ++ padding s.length = T at hb hT hop ⊢
  refine .inl ⟨_, _, _, rfl, fun h hL hC b bL bC w3 => ∃ (n : Nat) (st : S8) (t : List UInt8), bL = n * 64 ∧ hL = 8 ∧ SrcB w3 b bL bC t ∧ absorb n t st = absorb N T init8 ∧ Owns w3 0 151 1 (.slice h 8 hC) 8 (uvs st.list) ∧ Still w w3,
    fun _ _ _ _ bL _ _ => bL, ⟨N, init8, T, by rw [← hT.1, hb], rfl, hT, rfl, hi2, hm12⟩, ?_⟩
  rintro h _ hC b bL bC _ w3 ⟨n, st, t, hbL, rfl, hsb, hab, ho, hm⟩
  obtain ⟨gh, ch, he, _, _, _, _⟩ := ho.ownAddr (by omega)
  injection he with he1 he2 he3
  subst he1
  obtain ⟨htl, hbC, hsrc⟩ := hsb
  refine bsel_of (fun hx => ?_) (fun hx => ?_)
  · have hx := of_decide_eq_true hx
    obtain ⟨m, rfl⟩ : ∃ m, n = m + 1 := by
      cases n with
      | zero => omega
      | succ m => exact ⟨m, rfl⟩
    obtain ⟨g, o, rfl, hsr⟩ := hsrc (by omega)
    rw [absorb_succ] at hab
    have e64 : Int.toNat 64 = 64 := rfl
    rw [e64]
    refine ⟨by decide, by omega, (block_spec (hsr.take 64) (by simp; omega) ho).mono ?_⟩
    rintro _ w4 ⟨p4, C4, rfl, ho4, hm4⟩
    refine .inl ⟨_, _, _, rfl, by decide, by omega, ⟨m, _, t.drop 64, by omega, rfl, ⟨by simp; omega, by omega, fun hpos => ?_⟩, hab, ho4.base0, Mod.trans hm hm4 (fun _ h => h) (fun _ _ h => h)⟩, by dsimp only; omega⟩
    rw [if_neg (by omega)]
    refine ⟨g, o + 64, ?_, (hsr.mod hm4 (fun h => h)).drop 64⟩
    simp [add_row]
  · have hx := of_decide_eq_false hx
    obtain rfl : n = 0 := by omega
    rw [absorb_zero] at hab
    rw [← hab]
    clear hab hsrc htl hbL hx
    refine ⟨fun p L C i w5 => ∃ n : Nat, i = (n : Int) ∧ n ≤ 8 ∧ Dig w w5 w3.heap.size p L C (hexUp st.list n) ∧ Owns w5 0 151 1 (.slice (some ⟨gh, 0, none⟩) 8 hC) 8 (uvs st.list) ∧ w3.heap.size ≤ w5.heap.size, fun _ _ _ i _ => (8 - i).toNat,
      ⟨0, rfl, by omega, ⟨Owns.nil _ _ _ _, hm⟩, ho, Nat.le_refl _⟩, ?_⟩
    rintro p L C _ _ w5 ⟨n, rfl, hn, hd, ho5, hsz⟩
    refine bsel_of (fun hx => ?_) (fun hx => ?_)
    · have hx := of_decide_eq_true hx
      have hx' : n < 8 := by omega
      have hl := hexUp_length st.list n
      generalize hxx : st.list.getD n 0 = x
      refine ⟨fun p L C k w1 => ∃ j : Nat, k = 28 - 4 * (j : Int) ∧ j ≤ 8 ∧ Dig w w1 w3.heap.size p L C (hexUp st.list n ++ (hex8 x).take j) ∧ Owns w1 0 151 1 (.slice (some ⟨gh, 0, none⟩) 8 hC) 8 (uvs st.list) ∧ w3.heap.size ≤ w1.heap.size, fun _ _ _ k _ => (k + 8).toNat, ⟨0, rfl, by omega, by simpa using hd, ho5, hsz⟩, ?_⟩
      rintro p1 L1 C1 _ _ w6 ⟨j, rfl, hj, hd1, ho6, hsz6⟩
      refine bsel_of (fun hk => ?_) (fun hk => ?_)
      · have hk := of_decide_eq_true hk
        have hj' : j < 8 := by omega
        have e4 : IntKind.i64.wrap (28 - 4 * (j : Int) - 4) = 28 - 4 * ((j + 1 : Nat) : Int) := by rw [wrap_i64 (by omega) (by omega)]; omega
        have ek : Int.toNat (28 - 4 * (j : Int)) = 28 - 4 * j := by omega
        have hcell : (uvs st.list)[n]? = some (.int .u32 (x.toNat : Int)) := by rw [← hxx]; exact uvs_get (l := st.list) hx'
        rw [ek, e4, Int.toNat_natCast]
        obtain ⟨hh, hh0⟩ := hex_at x (28 - 4 * j)
        have hL := hd1.own.length
        have hL2 : (hex8 x).length = 8 := rfl
        simp only [bc_length, List.length_append, List.length_take, hL2] at hL
        refine ⟨by omega, by omega, _, ho6.at hcell, hk, hh0, _, hh, _, [.int .u8 ((hexd x (28 - 4 * j)).toNat : Int)], (hd1.own.alloc _).base0, rfl, one_one rfl, one_src _ _ _, by omega, by omega, ?_⟩
        intro p2 c2 w7 ho7 hg7 hb7
        have hgh : ∀ k, (Value.slice (some ⟨gh, 0, none⟩) 8 hC).ownBlock = some k → k < w3.heap.size := fun k hk => (ho.lt k hk).2
        refine ⟨⟨j + 1, rfl, by omega, ⟨?_, hd1.still.pushed hd1.own hm.size hg7⟩, ho6.pushedOther hd1.own hgh hg7, ?_⟩, by dsimp only; omega⟩
        · have := hd1.own.pushed hsz6 ho7 hb7
          rw [hex8_get x hj', ← List.append_assoc, bc_append]
          exact this
        · refine Nat.le_trans hsz6 (Nat.le_trans ?_ hg7.size)
          simp
      · have hk := of_decide_eq_false hk
        obtain rfl : j = 8 := by omega
        have e1 : IntKind.i64.wrap ((n : Int) + 1) = ((n + 1 : Nat) : Int) := by rw [wrap_i64 (by omega) (by omega)]; omega
        rw [e1]
        refine ⟨⟨n + 1, rfl, by omega, ?_, ho6, hsz6⟩, by dsimp only; omega⟩
        rw [hexUp_succ (by simpa [S8.list] using hx'), hxx]
        exact hd1
    · have hx := of_decide_eq_false hx
      obtain rfl : n = 8 := by omega
      exact ⟨_, hd.own.bytes, rfl, hd.still⟩
end Go.Proofs.YtkdlmkbpfdogcaaGreatDoor
namespace Go.Proofs.YtkdlmkbpfdogcaaGreatDoor
open Go.RowKit Vc
variable {w : World} {g b h q : Nat} {s : St}
theorem ref_Size_spec (d : Ref w h q s) : Calls Tryz.prog fn_ref03_Device_Size #[.pointer (some ⟨h, 0, none⟩)] w (fun e w' => e = .returned (.int .i64 s.n) ∧ w' = w) := by
  obtain ⟨⟨c, ht⟩, _⟩ := d
  refine ref03_Device_Size_calls _ _ _ ?_
  exact ⟨_, _, _, ht.cellv rfl, rfl, rfl⟩
theorem ref_Read_spec (d : Ref w h q s) (k : Int) : Calls Tryz.prog fn_ref03_Device_Read #[.pointer (some ⟨h, 0, none⟩), .int .i64 k] w
    (fun e w' => e = .returned (if 0 ≤ k ∧ k < s.n then .tuple #[.string (S (rowF s.F (k.toNat * 64) 64)), .int .i64 0] else .tuple #[.string (S []), .int .i64 1]) ∧ w' = w) := by
  obtain ⟨⟨c, ht⟩, cur, hc, hk⟩ := d
  refine ref03_Device_Read_calls _ _ _ _ ?_
  refine bsel_of (fun h => ?_) (fun h => ⟨_, _, _, ht.cellv rfl, ?_⟩)
  · rw [if_neg (by have := of_decide_eq_true h; omega)]; exact ⟨rfl, rfl⟩
  · have h0 := of_decide_eq_false h
    refine bsel_of (fun h => ?_) (fun h => ⟨_, _, _, ht.cellv rfl, by omega, by have := of_decide_eq_false h; omega, ?_⟩)
    · rw [if_neg (by have := of_decide_eq_true h; omega)]; exact ⟨rfl, rfl⟩
    · have h1 := of_decide_eq_false h
      rw [if_pos (by omega)]
      refine ⟨_, ?_, rfl, rfl⟩
      rw [add_row]
      exact hc.cellv (by simpa using hk k.toNat (by omega))
theorem ref_Limit_spec (d : Ref w h q s) (n m : Int) : Calls Tryz.prog fn_ref03_Device_Limit #[.pointer (some ⟨h, 0, none⟩), .int .i64 n, .int .u64 m] w
    (fun e w' => e = .returned (.tuple #[]) ∧ Mod (fun i => i = h ∨ i = q) w w' ∧ Ref w' h q (s.limit n m)) := by
  obtain ⟨⟨c, ht⟩, cur, hc, hk⟩ := d
  refine ref03_Device_Limit_calls _ _ _ _ _ ?_
  have hne : q ≠ h := hc.ne ht (by decide)
  refine ⟨ht.wr 1 (by simp), ((ht.set 1 _).wr 2 (by simp)), rfl, ?_, ⟨c, ?_⟩, cur, ?_, hk⟩
  · exact ((Mod.refl _ _).setCell (.inl (.inl rfl)) _).setCell (.inl (.inl rfl)) _
  · exact (ht.set 1 _).set 2 _
  · exact (hc.far hne _).far hne _
theorem ref_Restart_spec (d : Ref w h q s) : Calls Tryz.prog fn_ref03_Device_Restart #[.pointer (some ⟨h, 0, none⟩)] w
    (fun e w' => e = .returned (.tuple #[]) ∧ Mod (fun i => i = h ∨ i = q) w w' ∧ Ref w' h q s.restart) := by
  obtain ⟨⟨c, ht⟩, cur, hc, hk⟩ := d
  refine ref03_Device_Restart_calls _ _ _ ?_
  have hne : q ≠ h := hc.ne ht (by decide)
  refine ⟨ht.wr 1 (by simp), ((ht.set 1 _).wr 2 (by simp)), rfl, ?_, ⟨c, ?_⟩, cur, ?_, hk⟩
  · exact ((Mod.refl _ _).setCell (.inl (.inl rfl)) _).setCell (.inl (.inl rfl)) _
  · exact (ht.set 1 _).set 2 _
  · exact (hc.far hne _).far hne _
theorem zeros_spec {n : Int} (h0 : 0 ≤ n) (h1 : n ≤ 4096) : Calls Tryz.prog fn_ref03_zeros #[.int .i64 n] w
    (fun e w' => e = .returned (.string (S (List.replicate n.toNat 0))) ∧ Mod (fun _ => False) w w') := by
  refine ref03_zeros_calls _ _ _ ?_
  refine ⟨h0, Int.le_refl _, by omega, by omega, List.replicate n.toNat 0, ⟨by simp, fun _ => ⟨_, rfl, ?_⟩⟩, rfl, (Mod.refl _ _).alloc _⟩
  intro j b hb
  rw [madeCells_zero _ (by intro v hv; simpa using hv) (by simp), add_row]
  have hj : j < n.toNat := by
    have := (List.getElem?_eq_some_iff.1 hb).1
    simpa using this
  rw [List.getElem?_replicate, if_pos hj] at hb
  obtain rfl := Option.some.inj hb
  exact (Row.new w _ _).cellv (by simpa using cellsF_get (F := fun _ => 0) (by omega))
def Made (w : World) (h B : Nat) (n : Nat) : Prop := ∃ p c, Row w h ty_scullionref03_Device #[.slice p n c, .int .i64 (-1), .int .u64 0] ∧
  Owns w B ty_string 1 (.slice p n c) n (List.replicate n (.string (S (List.replicate 64 0))))
theorem ref_New_spec {n : Int} (h1 : 1 ≤ n) (h2 : n ≤ 4096) : Calls Tryz.prog fn_ref03_New #[.int .i64 n] w
    (fun e w' => ∃ h q, e = .returned (.tuple #[.pointer (some ⟨h, 0, none⟩), .int .i64 0]) ∧ Mod (fun _ => False) w w' ∧ w.heap.size ≤ h ∧ w.heap.size ≤ q ∧ Ref w' h q (St.new n.toNat)) := by
  refine ref03_New_calls _ _ _ ?_
  refine bsel_of (fun h => (by have := of_decide_eq_true h; omega)) (fun _ => bsel_of (fun h => (by have := of_decide_eq_true h; omega)) (fun _ => ?_))
  refine ⟨fun i w1 => 0 ≤ i ∧ i ≤ n ∧ Mod (fun _ => False) w w1 ∧ Made w1 w.heap.size w.heap.size i.toNat, fun i _ => (n - i).toNat, ?_, ?_⟩
  · refine ⟨by decide, by omega, (Mod.refl _ _).alloc _, none, 0, Row.new _ _ _, Owns.nil _ _ _ _⟩
  · rintro i _ w1 ⟨h0, hi, hm, p, c, ht, ho⟩
    refine bsel_of (fun hx => ?_) (fun hx => ?_)
    · have hx := of_decide_eq_true hx
      refine ⟨fun wq => Row wq w.heap.size ty_scullionref03_Device #[.slice p i.toNat c, .int .i64 (-1), .int .u64 0], ht.drew, p, i.toNat, c, fun wq hq => hq.cellv rfl, ?_⟩
      refine (zeros_spec (by decide) (by decide)).mono ?_
      rintro _ w2 ⟨rfl, hm2⟩
      have hm12 : Mod (fun _ => False) w1 w2 := ((Mod.refl (fun _ => False) w1).drew).trans hm2 (fun _ h => h) (fun _ _ h => h)
      have hm3 := hm12.alloc (.cells #[.string (S (List.replicate 64 0))] 9)
      have ht3 := ht.mod hm3 (fun h => h)
      refine .inl ⟨_, rfl, ht.mod hm12 (fun h => h), ht3, List.replicate i.toNat (.string (S (List.replicate 64 0))), [.string (S (List.replicate 64 0))], ?_, by simp, by simp [Value.oneCell'], ?_, by omega, by omega, ?_⟩
      · exact (ho.mod hm3 (fun _ _ h => h)).base0
      · refine fun _ => ⟨_, rfl, ?_⟩
        intro j u hu
        have hj : j = 0 := by
          have := (List.getElem?_eq_some_iff.1 hu).1
          simpa using this
        subst hj
        obtain rfl := Option.some.inj hu
        exact (Row.new w2 9 _).cellv rfl
      · intro p' c' w3 ho3 hg3 hblk
        have hown : ∀ k, (Value.slice p i.toNat c).ownBlock = some k → w.heap.size ≤ k ∧ k ≠ w.heap.size := by
          intro k hk
          obtain ⟨cur, hc⟩ := ho.typed hk
          exact ⟨(ho.lt k hk).1, hc.ne ht (by decide)⟩
        have ht4 : Row w3 w.heap.size ty_scullionref03_Device #[.slice p i.toNat c, .int .i64 (-1), .int .u64 0] := ht3.grown hg3 (fun e => (hown _ e.symm).2 rfl)
        have hw : IntKind.i64.wrap (i + 1) = i + 1 := wrap_i64 (by omega) (by omega)
        have hi1 : (i + 1).toNat = i.toNat + 1 := by omega
        have hmg : Mod (fun _ => False) w w3 := ((hm.trans hm3 (fun _ h => h) (fun _ _ h => h))).grown hg3 (fun k hk => .inr (hown k hk).1)
        have hblk' : ∀ k, (Value.slice p' (i.toNat + 1) c').ownBlock = some k → w.heap.size < k := by
          intro k hk
          rcases hblk.own (n := i.toNat) with e | e
          · rw [hk] at e
            have := hown k e.symm
            omega
          · rw [hk] at e
            obtain rfl := Option.some.inj e
            exact Nat.lt_of_lt_of_le ht.lt hm3.size
        rw [hw]
        refine ⟨ht4.wr 0 (by simp), ⟨by omega, by omega, hmg.setCell (.inr (Nat.le_refl _)) _, p', c', ?_, ?_⟩, by dsimp only; omega⟩
        · rw [hi1]; exact ht4.set 0 _
        · rw [hi1, List.replicate_succ']
          exact ((ho3.base (fun k hk => Nat.le_of_lt (hblk' k hk))).far (fun e => by have := hblk' _ e; simp at this) _)
    · have hx := of_decide_eq_false hx
      have : i = n := by omega
      subst this
      refine ⟨w.heap.size, ?_⟩
      obtain ⟨g, cap, cur, he, hb, hgr, hc1, hc2, hc3⟩ := ho.row (by omega)
      injection he with he1 he2 he3
      subst he1
      refine ⟨g, rfl, hm, Nat.le_refl _, hb, ⟨c, ?_⟩, cur.toList, ?_, ?_⟩
      · exact ht
      · exact hgr
      · intro k hk
        have hk : k < i.toNat := hk
        have h3 : (cur.toList.take (i.toNat * 1))[k]? = some (.string (S (List.replicate 64 0))) := by
          rw [hc3, List.getElem?_replicate, if_pos hk]
        rw [List.getElem?_take_of_lt (by omega)] at h3
        rw [h3]
        rfl
theorem torn_none (F T : Nat → UInt8) (o x : Nat) : tornF F T 0 o x = F := by
  funext j
  simp [tornF, bit_zero]
theorem cellsF_succ (G : Nat → UInt8) (n : Nat) : cellsF G n ++ [.int .u8 (G n).toNat] = cellsF G (n + 1) := by
  simp [cellsF, List.range_succ]
theorem strs_set {cur : List Value} {n k : Nat} {L : Nat → List UInt8} (_hk : k < n) (hc : ∀ j, j < n → cur[j]? = some (.string (S (L j)))) {L' : Nat → List UInt8} (hh : ∀ j, j < n → j ≠ k → L' j = L j) :
    ∀ j, j < n → ((Array.mk cur).setIfInBounds k (.string (S (L' k)))).toList[j]? = some (.string (S (L' j))) := by
  intro j hj
  have hlen : j < cur.length := (List.getElem?_eq_some_iff.1 (hc j hj)).1
  rw [Array.toList_setIfInBounds, List.getElem?_set]
  by_cases h : k = j
  · subst h; rw [if_pos rfl, if_pos hlen]
  · rw [if_neg h, hc j hj, hh j hj (fun e => h e.symm)]
theorem ref_Write_spec (d : Ref w h q s) (hs : s.Ok) (k : Int) (text : List UInt8) : Calls Tryz.prog fn_ref03_Device_Write #[.pointer (some ⟨h, 0, none⟩), .int .i64 k, .string (S text)] w
    (fun e w' => e = .returned (.int .i64 (s.write k text).1) ∧ Mod (fun i => i = h ∨ i = q) w w' ∧ Ref w' h q (s.write k text).2) := by
  have d0 := d
  obtain ⟨⟨c, ht⟩, cur, hc, hk⟩ := d
  refine ref03_Device_Write_calls _ _ _ _ _ ?_
  have bad : ¬ (0 ≤ k ∧ k < s.n ∧ text.length ≤ 64) → s.write k text = (1, s) := fun h => by unfold St.write; rw [if_neg h]
  refine bsel_of (fun h => ?_) (fun h0 => ⟨_, _, _, ht.cellv rfl, bsel_of (fun h => ?_) (fun h1 => bsel_of (fun h => ?_) (fun h2 => ?_))⟩)
  · have h := of_decide_eq_true h
    rw [bad (by omega)]; exact ⟨rfl, Mod.refl _ _, d0⟩
  · have h := of_decide_eq_true h
    rw [bad (by omega)]; exact ⟨rfl, Mod.refl _ _, d0⟩
  · have h := of_decide_eq_true h
    rw [bad (by omega)]; exact ⟨rfl, Mod.refl _ _, d0⟩
  have h0 := of_decide_eq_false h0
  have h1 := of_decide_eq_false h1
  have h2 := of_decide_eq_false h2
  have hgood : 0 ≤ k ∧ k < s.n ∧ text.length ≤ 64 := by omega
  have hkn : k.toNat < s.n := by omega
  have hqh : q ≠ h := hc.ne ht (by decide)
  have hlen : ∀ j, j < s.n → j < cur.length := fun j hj => (List.getElem?_eq_some_iff.1 (hk j hj)).1
  generalize hT : (fun j => text.getD j 0 : Nat → UInt8) = T
  generalize hP : (if s.e = true then -1 else s.p) = P at ht
  have hpl := hs.p1
  have hp0 := hs.p0
  have hPr : -1 ≤ P ∧ P < 9223372036854775808 := by rw [← hP]; split <;> omega
  refine ⟨fun w' => w' = w ∧ ¬ (P = 0 ∧ s.m = 0), ⟨fun x w' => w' = w ∧ x = decide (P = 0 ∧ s.m = 0), ⟨_, ht.cellv rfl, bsel_of (fun hp => ⟨_, ht.cellv rfl, rfl, ?_⟩) (fun hp => ⟨rfl, ?_⟩)⟩, ?_⟩, ?_⟩
  · have hp := of_decide_eq_true hp
    simp [hp]
  · have hp := of_decide_eq_false hp
    simp [hp]
  · rintro x _ w1 ⟨rfl, rfl⟩
    refine bsel_of (fun hx => ?_) (fun hx => ⟨rfl, of_decide_eq_false hx⟩)
    obtain ⟨hx1, hx2⟩ := of_decide_eq_true hx
    have he : s.e = false := by cases he : s.e with
      | false => rfl
      | true => simp [he] at hP; omega
    have hp : s.p = 0 := by simp [he] at hP; omega
    have : s.write k text = (13, s) := by
      unfold St.write
      rw [if_pos hgood, if_neg (by simp [he]), if_neg (by omega), hx2, torn_none]
      cases s; simp at hx2; subst hx2; rfl
    rw [this]
    exact ⟨rfl, Mod.refl _ _, d0⟩
  · rintro _ w2 ⟨rfl, hnz⟩
    rw [wrap_i64 (by omega) (by omega)]
    refine (zeros_spec (by omega) (by omega)).mono ?_
    rintro _ w3 ⟨rfl, hm3⟩
    have ht3 := ht.mod hm3 (fun h => h)
    have hc3 := hc.mod hm3 (fun h => h)
    have hm3' : Mod (fun i => i = h ∨ i = q) w2 w3 := hm3.weaken (fun _ h => h.elim)
    have hrow : text ++ List.replicate (64 - (text.length : Int)).toNat 0 = rowF T 0 64 := by
      apply List.ext_getElem?
      intro j
      by_cases hj : j < 64
      · rw [rowF_get hj, ← hT, Nat.zero_add]
        by_cases hj2 : j < text.length
        · rw [List.getElem?_append_left hj2]; simp [hj2]
        · rw [List.getElem?_append_right (by omega), List.getElem?_replicate, if_pos (by omega)]
          simp [Nat.le_of_not_lt hj2]
      · rw [List.getElem?_eq_none (by simp; omega), List.getElem?_eq_none (by simp; omega)]
    refine .inl ⟨_, rfl, ?_⟩
    rw [hrow]
    refine ⟨by simp; omega, _, ht3.cellv rfl, bsel_of (fun hp => ⟨_, ht3.cellv rfl, bsel_of (fun hp2 => ⟨_, ht3.cellv rfl, ht3.wr 1 (by simp), ?_⟩) (fun hp2 => ?_)⟩) (fun hp => ?_)⟩
    · have hp2 := of_decide_eq_true hp2
      have he : s.e = false := by cases he : s.e with
        | false => rfl
        | true => simp [he] at hP; omega
      have hp : s.p = P := by simpa [he] using hP
      have : s.write k text = (0, { s.put k.toNat T with p := s.p - 1 }) := by
        unfold St.write
        rw [if_pos hgood, if_neg (by simp [he]), if_pos (by omega), hT]
      rw [this]
      refine ⟨_, _, _, (ht3.set 1 _).cellv rfl, by omega, by omega, ?_⟩
      have hc4 := hc3.far (p := ⟨h, 1, none⟩) hqh (.int .i64 (IntKind.i64.wrap (P - 1)))
      refine ⟨?_, rfl, ?_, ⟨c, ?_⟩, ((Array.mk cur).setIfInBounds k.toNat (.string (S (rowF T 0 64)))).toList, ?_, ?_⟩
      · simp only [add_row, Nat.zero_add, Nat.mul_one]
        exact hc4.wr _ (by simpa using hlen _ hkn)
      · simp only [add_row, Nat.zero_add, Nat.mul_one]
        exact (hm3'.setCell (.inl (.inl rfl)) _).setCell (.inl (.inr rfl)) _
      · have := (ht3.set 1 (.int .i64 (IntKind.i64.wrap (P - 1)))).far (p := (Addr.mk q 0 none).add (k.toNat * 1)) (by rw [add_row]; exact hqh.symm) (.string (S (rowF T 0 64)))
        rw [wrap_i64 (by omega) (by omega)] at this ⊢
        have e2 : (if s.e = true then (-1 : Int) else s.p - 1) = P - 1 := by simp [he, hp]
        have e3 : (if { s.put k.toNat T with p := s.p - 1 }.e = true then (-1 : Int) else { s.put k.toNat T with p := s.p - 1 }.p) = P - 1 := e2
        rw [e3]
        exact this
      · simp only [add_row, Nat.zero_add, Nat.mul_one]
        exact hc4.set _ _
      · have := strs_set (L' := fun j => rowF (s.put k.toNat T).F (j * 64) 64) hkn hk (fun j _ hne => rowF_put_far s hne T)
        simp only [rowF_put_here] at this
        exact this
    · have hp := of_decide_eq_false (by simpa using hp)
      have hp2 := of_decide_eq_false hp2
      have he : s.e = true := by cases he : s.e with
        | true => rfl
        | false => simp [he] at hP; omega
      have : s.write k text = (0, s.put k.toNat T) := by
        unfold St.write
        rw [if_pos hgood, if_pos he, hT]
      rw [this]
      refine ⟨_, _, _, ht3.cellv rfl, by omega, by omega, ?_, rfl, ?_, ⟨c, ?_⟩, ((Array.mk cur).setIfInBounds k.toNat (.string (S (rowF T 0 64)))).toList, ?_, ?_⟩
      · rw [add_row]
        exact hc3.wr _ (by simpa using hlen _ hkn)
      · rw [add_row]
        exact hm3'.setCell (.inl (.inr rfl)) _
      · have := ht3.far (p := (Addr.mk q 0 none).add (k.toNat * 1)) (by rw [add_row]; exact hqh.symm) (.string (S (rowF T 0 64)))
        rw [← hP] at this
        exact this
      · rw [add_row, Nat.zero_add, Nat.mul_one]
        exact hc3.set _ _
      · have := strs_set (L' := fun j => rowF (s.put k.toNat T).F (j * 64) 64) hkn hk (fun j _ hne => rowF_put_far s hne T)
        simp only [rowF_put_here] at this
        exact this
    · have hp : P = 0 := by simpa using hp
      have he : s.e = false := by cases he : s.e with
        | false => rfl
        | true => simp [he] at hP; omega
      have hsp : s.p = 0 := by simp [he] at hP; omega
      generalize hG : tornF s.F T s.m (k.toNat * 64) 64 = G
      have : s.write k text = (13, { s with F := G, m := 0 }) := by
        unfold St.write
        rw [if_pos hgood, if_neg (by simp [he]), if_neg (by omega), hT, hG]
      rw [this]
      have hGbit : ∀ j, j < 64 → G (k.toNat * 64 + j) = if bit s.m j then T j else s.F (k.toNat * 64 + j) := by
        intro j hj
        rw [← hG]
        have e1 : k.toNat * 64 + j - k.toNat * 64 = j := by omega
        simp only [tornF, e1]
        by_cases hb : bit s.m j = true
        · rw [if_pos (by refine ⟨by omega, by omega, hb⟩), if_pos hb]
        · rw [if_neg (fun h => hb h.2.2), if_neg hb]
      refine ⟨fun b bL bC i w4 => 0 ≤ i ∧ i ≤ 64 ∧ bL = i.toNat ∧ Mod (fun _ => False) w3 w4 ∧ Owns w4 w3.heap.size ty_uint8 1 (.slice b bL bC) bL (cellsF (fun j => G (k.toNat * 64 + j)) i.toNat), fun _ _ _ i _ => (64 - i).toNat,
        ⟨by decide, by decide, rfl, Mod.refl _ _, Owns.nil _ _ _ _⟩, ?_⟩
      rintro b bL bC i _ w4 ⟨hi0, hi1, rfl, hm4, ho⟩
      have ht4 := ht3.mod hm4 (fun h => h)
      have hc4 := hc3.mod hm4 (fun h => h)
      refine bsel_of (fun hx => ⟨_, ht4.cellv rfl, hi0, ?_⟩) (fun hx => ?_)
      · have hx := of_decide_eq_true hx
        rw [bit_shift1 hs.m0 hs.m1 hi0 hx]
        have hw : IntKind.i64.wrap (i + 1) = i + 1 := wrap_i64 (by omega) (by omega)
        have hi1' : (i + 1).toNat = i.toNat + 1 := by omega
        have grow : ∀ (v : UInt8), v = G (k.toNat * 64 + i.toNat) → ∃ xs news : List Value, Owns (w4.alloc (.cells #[(.int .u8 (v.toNat : Int))] 5)) 0 5 1 (.slice b i.toNat bC) i.toNat xs ∧ news.length = 1 * 1 ∧ (∀ u ∈ news, u.oneCell' = true) ∧
            (0 < 1 → ∃ a12 : Addr, (some (Addr.mk w4.heap.size 0 none)) = some a12 ∧ ∀ (j : Nat) (u : Value), news[j]? = some u → (w4.alloc (.cells #[(.int .u8 (v.toNat : Int))] 5)).cell? (a12.add j) = some u) ∧
            i.toNat + 1 ≤ 9223372036854775807 ∧ (i.toNat + 1) * 1 ≤ 140737488355328 ∧
            ∀ (p : Option Addr) (cp : Nat) (w5 : World), Owns w5 0 5 1 (Value.slice p (i.toNat + 1) cp) (i.toNat + 1) (xs ++ news) → (w4.alloc (.cells #[(.int .u8 (v.toNat : Int))] 5)).grownBy w5 (Value.ownBlock (Value.slice b i.toNat bC)) →
              Blk b p (i.toNat + 1) bC cp (w4.alloc (.cells #[(.int .u8 (v.toNat : Int))] 5)).heap.size →
              (0 ≤ i + 1 ∧ i + 1 ≤ 64 ∧ i.toNat + 1 = (i + 1).toNat ∧ Mod (fun _ => False) w3 w5 ∧ Owns w5 w3.heap.size ty_uint8 1 (.slice p (i.toNat + 1) cp) (i.toNat + 1) (cellsF (fun j => G (k.toNat * 64 + j)) (i + 1).toNat)) ∧ (64 - (i + 1)).toNat < (64 - i).toNat := by
          intro v hv
          have hm5 := hm4.alloc (.cells #[(.int .u8 (v.toNat : Int))] 5)
          refine ⟨cellsF (fun j => G (k.toNat * 64 + j)) i.toNat, [.int .u8 (v.toNat : Int)], (ho.alloc _).base0, by simp, by simp [Value.oneCell'], ?_, by omega, by omega, ?_⟩
          · refine fun _ => ⟨_, rfl, ?_⟩
            intro j u hu
            have hj : j = 0 := by
              have := (List.getElem?_eq_some_iff.1 hu).1
              simpa using this
            subst hj
            obtain rfl := Option.some.inj hu
            exact (Row.new w4 5 _).cellv rfl
          · intro p cp w5 ho5 hg5 hblk
            refine ⟨⟨by omega, by omega, hi1'.symm, hm5.grown hg5 (fun k hk => .inr (ho.lt k hk).1), ?_⟩, by omega⟩
            rw [hi1', ← cellsF_succ, ← hv]
            refine ho5.base (fun k hk => ?_)
            rcases hblk.own (n := i.toNat) with e | e
            · rw [hk] at e; exact (ho.lt k e.symm).1
            · rw [hk] at e
              obtain rfl := Option.some.inj e
              exact hm5.size
        have hiN : i.toNat < 64 := by omega
        refine bsel_of (fun hb => ⟨hi0, T i.toNat, ?_, ?_⟩) (fun hb => ⟨_, _, _, ht4.cellv rfl, by omega, by omega, rowF s.F (k.toNat * 64) 64, ?_, hi0, s.F (k.toNat * 64 + i.toNat), ?_, ?_⟩)
        · rw [rowF_get hiN, Nat.zero_add]
        · rw [hw]
          exact grow _ (by rw [hGbit _ hiN, if_pos hb])
        · rw [add_row, Nat.zero_add, Nat.mul_one]
          exact hc4.cellv (by simpa using hk _ hkn)
        · rw [rowF_get hiN]
        · rw [hw]
          exact grow _ (by rw [hGbit _ hiN, if_neg (by simp [hb])])
      · have hx := of_decide_eq_false hx
        have hi64 : i.toNat = 64 := by omega
        rw [hi64] at ho ⊢
        obtain ⟨gb, cap, cb, hsl, hgb, hrb, hcap, hsz, htake⟩ := ho.row (by omega)
        injection hsl with e1 e2 e3
        subst e1
        have hget : ∀ j, j < 64 → cb[j]? = some (.int .u8 (G (k.toNat * 64 + j)).toNat) := by
          intro j hj
          have h3 : (cb.toList.take (64 * 1))[j]? = some (.int .u8 (G (k.toNat * 64 + j)).toNat) := by rw [htake, cellsF_get hj]
          rw [List.getElem?_take_of_lt (by omega)] at h3
          simpa using h3
        refine ⟨fun wq => Row wq h ty_scullionref03_Device #[.slice (some ⟨q, 0, none⟩) s.n c, .int .i64 P, .int .u64 s.m] ∧ Row wq gb ty_uint8 cb, ⟨ht4.drew, hrb.drew⟩, _, _, _, fun wq hq => hq.1.cellv rfl, rowF G (k.toNat * 64) 64, ⟨by simp, fun _ => ⟨_, rfl, ?_⟩⟩, by omega, by omega, ?_, ?_, rfl, ?_, ⟨c, ?_⟩, ((Array.mk cur).setIfInBounds k.toNat (.string (S (rowF G (k.toNat * 64) 64)))).toList, ?_, ?_⟩
        · intro j b hb wq hq
          have hj : j < 64 := by
            have := (List.getElem?_eq_some_iff.1 hb).1
            simpa using this
          rw [rowF_get hj] at hb
          obtain rfl := Option.some.inj hb
          rw [add_row, Nat.zero_add]
          exact hq.2.cellv (hget j hj)
        · rw [add_row]
          exact hc4.drew.wr _ (by simpa using hlen _ hkn)
        · have := ht4.drew.far (p := (Addr.mk q 0 none).add (k.toNat * 1)) (by rw [add_row]; exact hqh.symm) (.string (S (rowF G (k.toNat * 64) 64)))
          exact this.wr 2 (by simp)
        · rw [add_row]
          exact (((hm3.trans hm4 (fun _ h => h) (fun _ _ h => h)).weaken (fun _ h => h.elim)).drew.setCell (.inl (.inr rfl)) _).setCell (.inl (.inl rfl)) _
        · have := (ht4.drew.far (p := (Addr.mk q 0 none).add (k.toNat * 1)) (by rw [add_row]; exact hqh.symm) (.string (S (rowF G (k.toNat * 64) 64)))).set 2 (.int .u64 0)
          rw [← hP] at this
          exact this
        · rw [add_row, Nat.zero_add, Nat.mul_one]
          exact (hc4.drew.set _ _).far hqh _
        · have := strs_set (L' := fun j => rowF G (j * 64) 64) hkn hk (fun j _ hne => by rw [← hG]; exact rowF_torn_far _ _ hne)
          exact this
end Go.Proofs.YtkdlmkbpfdogcaaGreatDoor
namespace Go.Proofs
open Go.Shelf
def Tryz.lays162_ren : Go.Shelf.Ren := ⟨fun | 162 => 69 | 232 => 85 | 227 => 86 | 234 => 87 | 236 => 88 | 228 => 103 | 271 => 104 | 151 => 105 | 120 => 123 | 197 => 124 | 152 => 125 | 260 => 140 | 137 => 141 | 119 => 142 | 224 => 128 | 225 => 127 | 217 => 126 | 266 => 143 | n => n, fun | 9 => 9 | 4 => 4 | 3 => 3 | 5 => 5 | 117 => 139 | 116 => 138 | 0 => 0 | 124 => 142 | 21 => 21 | 105 => 157 | 46 => 181 | 119 => 202 | 139 => 205 | 138 => 204 | n => n, fun | 3 => 4 | 4 => 5 | n => n⟩
theorem Tryz.lays162 : Go.Proofs.Lays.n162 Tryz.prog Tryz.lays162_ren := {
  mixed := by kernel_rfl
  f119 := Tryz.func142.trans (congrArg some (by kernel_rfl))
  f120 := Tryz.func123.trans (congrArg some (by kernel_rfl))
  f137 := Tryz.func141.trans (congrArg some (by kernel_rfl))
  f151 := Tryz.func105.trans (congrArg some (by kernel_rfl))
  f152 := Tryz.func125.trans (congrArg some (by kernel_rfl))
  f162 := Tryz.func69.trans (congrArg some (by kernel_rfl))
  f197 := Tryz.func124.trans (congrArg some (by kernel_rfl))
  f217 := Tryz.func126.trans (congrArg some (by kernel_rfl))
  f224 := Tryz.func128.trans (congrArg some (by kernel_rfl))
  f225 := Tryz.func127.trans (congrArg some (by kernel_rfl))
  f227 := Tryz.func86.trans (congrArg some (by kernel_rfl))
  f228 := Tryz.func103.trans (congrArg some (by kernel_rfl))
  f232 := Tryz.func85.trans (congrArg some (by kernel_rfl))
  f234 := Tryz.func87.trans (congrArg some (by kernel_rfl))
  f236 := Tryz.func88.trans (congrArg some (by kernel_rfl))
  f260 := Tryz.func140.trans (congrArg some (by kernel_rfl))
  f266 := Tryz.func143.trans (congrArg some (by kernel_rfl))
  f271 := Tryz.func104.trans (congrArg some (by kernel_rfl))
  t0 := Tryz.underlying0
  a0 := Tryz.isAgg0
  z0 := Tryz.sizeOf0
  v0 := Tryz.zeroValue0
  t3 := Tryz.underlying3
  a3 := Tryz.isAgg3
  z3 := Tryz.sizeOf3
  v3 := Tryz.zeroValue3
  t4 := Tryz.underlying4
  a4 := Tryz.isAgg4
  z4 := Tryz.sizeOf4
  v4 := Tryz.zeroValue4
  t5 := Tryz.underlying5
  a5 := Tryz.isAgg5
  z5 := Tryz.sizeOf5
  v5 := Tryz.zeroValue5
  t9 := Tryz.underlying9
  a9 := Tryz.isAgg9
  z9 := Tryz.sizeOf9
  v9 := Tryz.zeroValue9
  t21 := Tryz.underlying21
  a21 := Tryz.isAgg21
  z21 := Tryz.sizeOf21
  v21 := Tryz.zeroValue21
  t46 := Tryz.underlying181
  a46 := Tryz.isAgg181
  z46 := Tryz.sizeOf181
  v46 := Tryz.zeroValue181
  t105 := Tryz.underlying157
  a105 := Tryz.isAgg157
  z105 := Tryz.sizeOf157
  v105 := Tryz.zeroValue157
  t116 := Tryz.underlying138
  a116 := Tryz.isAgg138
  z116 := Tryz.sizeOf138
  t117 := Tryz.underlying139
  a117 := Tryz.isAgg139
  z117 := Tryz.sizeOf139
  v117 := Tryz.zeroValue139
  t119 := Tryz.underlying202
  a119 := Tryz.isAgg202
  z119 := Tryz.sizeOf202
  t124 := Tryz.underlying142
  a124 := Tryz.isAgg142
  z124 := Tryz.sizeOf142
  v124 := Tryz.zeroValue142
  t138 := Tryz.underlying204
  a138 := Tryz.isAgg204
  z138 := Tryz.sizeOf204
  v138 := Tryz.zeroValue204
  t139 := Tryz.underlying205
  a139 := Tryz.isAgg205
  z139 := Tryz.sizeOf205
  v139 := Tryz.zeroValue205
  g3 := by kernel_rfl
  g4 := by kernel_rfl }
open Go.RowKit in
theorem Tryz.strings_TrimRight_one (s : ByteArray) (c : UInt8) (hc : c.toNat < 128) (w : World) (hs : s.size ≤ 9223372036854775807) :
    Calls Tryz.prog 69 #[.string s, .string ⟨#[c]⟩] w fun e w' => e = .returned (.string ⟨(Lib.trimRightB s.data.toList c).toArray⟩) ∧ w' = w := Any.strings_TrimRight_one Tryz.lays162 s c hc w hs
def Tryz.lays103_ren : Go.Shelf.Ren := ⟨fun | 103 => 82 | 210 => 98 | 206 => 119 | n => n, fun | 9 => 9 | 4 => 4 | 24 => 91 | 3 => 3 | n => n, fun | n => n⟩
theorem Tryz.lays103 : Go.Proofs.Lays.n103 Tryz.prog Tryz.lays103_ren := {
  mixed := by kernel_rfl
  f103 := Tryz.func82.trans (congrArg some (by kernel_rfl))
  f206 := Tryz.func119.trans (congrArg some (by kernel_rfl))
  f210 := Tryz.func98.trans (congrArg some (by kernel_rfl))
  t3 := Tryz.underlying3
  a3 := Tryz.isAgg3
  z3 := Tryz.sizeOf3
  v3 := Tryz.zeroValue3
  t4 := Tryz.underlying4
  a4 := Tryz.isAgg4
  z4 := Tryz.sizeOf4
  v4 := Tryz.zeroValue4
  t9 := Tryz.underlying9
  a9 := Tryz.isAgg9
  z9 := Tryz.sizeOf9
  v9 := Tryz.zeroValue9
  t24 := Tryz.underlying91
  a24 := Tryz.isAgg91
  z24 := Tryz.sizeOf91
  v24 := Tryz.zeroValue91 }
open Go.RowKit in
theorem Tryz.strings_CutPrefix (s p : ByteArray) (w : World) :
    Calls Tryz.prog 82 #[.string s, .string p] w fun e w' => e = .returned (.tuple #[.string ⟨(Lib.trimPrefix s.data.toList p.data.toList).toArray⟩, .bool (Lib.hasPrefix s.data.toList p.data.toList)]) ∧ w' = w := Any.strings_CutPrefix Tryz.lays103 s p w
def Tryz.laysM171_ren : Go.Shelf.Ren := ⟨fun | 171 => 59 | 243 => 78 | 246 => 94 | 283 => 112 | 284 => 113 | 285 => 114 | 286 => 115 | 129 => 134 | 317 => 133 | 318 => 135 | 319 => 136 | 320 => 137 | 337 => 147 | 338 => 148 | n => n, fun | 3 => 3 | 9 => 9 | 2 => 2 | 4 => 4 | 171 => 167 | 0 => 0 | 53 => 51 | 37 => 43 | 5 => 5 | 173 => 170 | 212 => 188 | 51 => 151 | 20 => 20 | 213 => 189 | 46 => 181 | 232 => 206 | 233 => 68 | n => n, fun | 17 => 3 | 18 => 6 | 19 => 7 | n => n⟩
theorem Tryz.laysM171 : Go.Proofs.LaysM.n171 Tryz.prog Tryz.laysM171_ren := {
  mixed := by kernel_rfl
  f129 := Tryz.func134.trans (congrArg some (by kernel_rfl))
  f171 := Tryz.func59.trans (congrArg some (by kernel_rfl))
  f243 := Tryz.func78.trans (congrArg some (by kernel_rfl))
  f246 := Tryz.func94.trans (congrArg some (by kernel_rfl))
  f283 := Tryz.func112.trans (congrArg some (by kernel_rfl))
  f284 := Tryz.func113.trans (congrArg some (by kernel_rfl))
  f285 := Tryz.func114.trans (congrArg some (by kernel_rfl))
  f286 := Tryz.func115.trans (congrArg some (by kernel_rfl))
  f317 := Tryz.func133.trans (congrArg some (by kernel_rfl))
  f318 := Tryz.func135.trans (congrArg some (by kernel_rfl))
  f319 := Tryz.func136.trans (congrArg some (by kernel_rfl))
  f320 := Tryz.func137.trans (congrArg some (by kernel_rfl))
  f337 := Tryz.func147.trans (congrArg some (by kernel_rfl))
  f338 := Tryz.func148.trans (congrArg some (by kernel_rfl))
  t0 := Tryz.underlying0
  a0 := Tryz.isAgg0
  z0 := Tryz.sizeOf0
  v0 := Tryz.zeroValue0
  t2 := Tryz.underlying2
  a2 := Tryz.isAgg2
  z2 := Tryz.sizeOf2
  v2 := Tryz.zeroValue2
  t3 := Tryz.underlying3
  a3 := Tryz.isAgg3
  z3 := Tryz.sizeOf3
  v3 := Tryz.zeroValue3
  t4 := Tryz.underlying4
  a4 := Tryz.isAgg4
  z4 := Tryz.sizeOf4
  v4 := Tryz.zeroValue4
  t5 := Tryz.underlying5
  a5 := Tryz.isAgg5
  z5 := Tryz.sizeOf5
  v5 := Tryz.zeroValue5
  t9 := Tryz.underlying9
  a9 := Tryz.isAgg9
  z9 := Tryz.sizeOf9
  v9 := Tryz.zeroValue9
  t20 := Tryz.underlying20
  a20 := Tryz.isAgg20
  z20 := Tryz.sizeOf20
  v20 := Tryz.zeroValue20
  t37 := Tryz.underlying43
  a37 := Tryz.isAgg43
  z37 := Tryz.sizeOf43
  v37 := Tryz.zeroValue43
  t46 := Tryz.underlying181
  a46 := Tryz.isAgg181
  z46 := Tryz.sizeOf181
  v46 := Tryz.zeroValue181
  t51 := Tryz.underlying151
  a51 := Tryz.isAgg151
  z51 := Tryz.sizeOf151
  v51 := Tryz.zeroValue151
  t53 := Tryz.underlying51
  a53 := Tryz.isAgg51
  z53 := Tryz.sizeOf51
  v53 := Tryz.zeroValue51
  t171 := Tryz.underlying167
  a171 := Tryz.isAgg167
  z171 := Tryz.sizeOf167
  v171 := Tryz.zeroValue167
  t173 := Tryz.underlying170
  a173 := Tryz.isAgg170
  z173 := Tryz.sizeOf170
  v173 := Tryz.zeroValue170
  t212 := Tryz.underlying188
  a212 := Tryz.isAgg188
  z212 := Tryz.sizeOf188
  v212 := Tryz.zeroValue188
  t213 := Tryz.underlying189
  a213 := Tryz.isAgg189
  z213 := Tryz.sizeOf189
  t232 := Tryz.underlying206
  a232 := Tryz.isAgg206
  z232 := Tryz.sizeOf206
  v232 := Tryz.zeroValue206
  t233 := Tryz.underlying68
  a233 := Tryz.isAgg68
  z233 := Tryz.sizeOf68
  v233 := Tryz.zeroValue68
  g17 := by kernel_rfl
  g18 := by kernel_rfl
  g19 := by kernel_rfl
  i0 := by kernel_rfl
  i2 := by kernel_rfl
  i3 := by kernel_rfl
  i4 := by kernel_rfl
  i5 := by kernel_rfl
  i9 := by kernel_rfl
  i20 := by kernel_rfl
  i37 := by kernel_rfl
  i46 := by kernel_rfl
  i51 := by kernel_rfl
  i53 := by kernel_rfl
  i171 := by kernel_rfl
  i173 := by kernel_rfl
  i212 := by kernel_rfl
  i232 := by kernel_rfl
  i233 := by kernel_rfl
  m17 := by kernel_rfl
  m18 := by kernel_rfl
  m19 := by kernel_rfl }
open Go.RowKit Go.Sort Go.Lib in
theorem Tryz.strconv_Itoa (n : Int) (h0 : -9223372036854775808 ≤ n) (h1 : n ≤ 9223372036854775807) (w : World) (htab : Lib.TabIs Tryz.prog w "internal/strconv.uint64pow10" .u64 Lib.pow10Tab) :
    Calls Tryz.prog 59 #[.int .i64 n] w fun e w' => e = .returned (.string ⟨(Lib.itoa n).toArray⟩) ∧ ∃ k os, w' = grow (w.drewN k) os := Any.strconv_Itoa Tryz.laysM171 n h0 h1 w htab
def Tryz.lays219_ren : Go.Shelf.Ren := ⟨fun | 219 => 106 | 217 => 126 | 225 => 127 | 224 => 128 | 267 => 129 | 266 => 143 | 314 => 144 | n => n, fun | 9 => 9 | 3 => 3 | 4 => 4 | 5 => 5 | 46 => 181 | 146 => 194 | 51 => 151 | n => n, fun | 1 => 0 | n => n⟩
theorem Tryz.lays219 : Go.Proofs.Lays.n219 Tryz.prog Tryz.lays219_ren := {
  mixed := by kernel_rfl
  f217 := Tryz.func126.trans (congrArg some (by kernel_rfl))
  f219 := Tryz.func106.trans (congrArg some (by kernel_rfl))
  f224 := Tryz.func128.trans (congrArg some (by kernel_rfl))
  f225 := Tryz.func127.trans (congrArg some (by kernel_rfl))
  f266 := Tryz.func143.trans (congrArg some (by kernel_rfl))
  f267 := Tryz.func129.trans (congrArg some (by kernel_rfl))
  f314 := Tryz.func144.trans (congrArg some (by kernel_rfl))
  t3 := Tryz.underlying3
  a3 := Tryz.isAgg3
  z3 := Tryz.sizeOf3
  v3 := Tryz.zeroValue3
  t4 := Tryz.underlying4
  a4 := Tryz.isAgg4
  z4 := Tryz.sizeOf4
  v4 := Tryz.zeroValue4
  t5 := Tryz.underlying5
  a5 := Tryz.isAgg5
  z5 := Tryz.sizeOf5
  v5 := Tryz.zeroValue5
  t9 := Tryz.underlying9
  a9 := Tryz.isAgg9
  z9 := Tryz.sizeOf9
  v9 := Tryz.zeroValue9
  t46 := Tryz.underlying181
  a46 := Tryz.isAgg181
  z46 := Tryz.sizeOf181
  v46 := Tryz.zeroValue181
  t51 := Tryz.underlying151
  a51 := Tryz.isAgg151
  z51 := Tryz.sizeOf151
  v51 := Tryz.zeroValue151
  t146 := Tryz.underlying194
  a146 := Tryz.isAgg194
  z146 := Tryz.sizeOf194
  v146 := Tryz.zeroValue194
  g1 := by kernel_rfl }
open Go.RowKit Go.Lib in
theorem Tryz.stringslite_Index_one (s : ByteArray) (c : UInt8) (w : World) :
    Calls Tryz.prog 106 #[.string s, .string ⟨#[c]⟩] w fun e w' => e = .returned (.int .i64 (Lib.indexByte s.data.toList c)) ∧ w' = w := Any.stringslite_Index_one Tryz.lays219 s c w
end Go.Proofs
namespace Go.Proofs.YtkdlmkbpfdogcaaGreatDoor
open Go.RowKit Vc
variable {w : World}
structure Env (w : World) : Prop where
  tab : Lib.TabIs Tryz.prog w "internal/strconv.uint64pow10" .u64 Lib.pow10Tab
  es : ∃ v : Value, v.oneCell' = true ∧ w.cell? ⟨1, 0, none⟩ = some v
  er : ∃ v : Value, v.oneCell' = true ∧ w.cell? ⟨2, 0, none⟩ = some v
theorem var_lt {P : Program} {name : String} {g : Nat} {cs : Array Value} (hg : P.globalNamed name = some g) (h : w.var? P name = some cs) : g < w.heap.size := by
  unfold World.var? at h
  rw [hg] at h
  simp only [Option.bind_some] at h
  cases hh : w.heap[g]? with
  | none => rw [hh] at h; cases h
  | some o => exact (Array.getElem?_eq_some_iff.1 hh).1
theorem tab_still {P : Program} {name : String} {g : Nat} {k : IntKind} {zs : List Int} {w' : World} (hg : P.globalNamed name = some g) (h : Lib.TabIs P w name k zs) (hm : Still w w') : Lib.TabIs P w' name k zs := by
  have hlt := var_lt hg h
  unfold Lib.TabIs World.var? at h ⊢
  rw [hg] at h ⊢
  simp only [Option.bind_some] at h ⊢
  rw [hm.block g hlt (fun h => h)]
  exact h
theorem Env.still {w' : World} (h : Env w) (hm : Still w w') : Env w' := by
  obtain ⟨h1, ⟨v2, o2, c2⟩, ⟨v3, o3, c3⟩⟩ := h
  exact ⟨tab_still (g := 3) (by kernel_rfl) h1 hm, ⟨v2, o2, hm.cell c2⟩, ⟨v3, o3, hm.cell c3⟩⟩
theorem still_grow (w : World) (k : Nat) (os : Array Obj) : Still w (Go.Sort.grow (w.drewN k) os) :=
  ⟨rfl, rfl, rfl, by simp [Go.Sort.grow, World.drewN], fun i hi _ => by simp [Go.Sort.grow, World.drewN, Array.getElem?_append_left hi]⟩
theorem itoa_spec (h : Env w) (n : Int) (h0 : -9223372036854775808 ≤ n) (h1 : n < 9223372036854775808) : Calls Tryz.prog fn_strconv_Itoa #[.int .i64 n] w (fun e w' => e = .returned (.string (S (Lib.itoa n))) ∧ Still w w') := by
  refine (Tryz.strconv_Itoa n h0 (by omega) w h.tab).mono ?_
  rintro _ w' ⟨rfl, k, os, rfl⟩
  exact ⟨rfl, still_grow w k os⟩
theorem freeze_mod (w : World) (g n : Nat) : Mod (fun k => k = g) w (w.freeze ⟨g, 0, none⟩ n) := by
  unfold World.freeze
  split
  · exact Mod.refl _ _
  · exact ⟨rfl, rfl, rfl, by simp, fun k hk hn => by
      simp only [Array.getElem?_modify]
      rw [if_neg (fun e => hn e.symm)]⟩
theorem clone_spec (s : Txt) (hs : s.length ≤ 140737488355328) : Calls Tryz.prog fn_internal_stringslite_Clone #[.string (S s)] w (fun e w' => e = .returned (.string (S s)) ∧ Still w w') := by
  refine internal_stringslite_Clone_calls _ _ _ ?_
  refine bsel_of (fun h => ?_) (fun h => ?_)
  · have h : s.length = 0 := by have := of_decide_eq_true h; omega
    obtain rfl := List.eq_nil_of_length_eq_zero h
    exact ⟨rfl, Still.refl _⟩
  have h : s.length ≠ 0 := by have := of_decide_eq_false h; omega
  have h0 : s ≠ [] := fun e => h (by rw [e]; rfl)
  refine ⟨by omega, by omega, by omega, by omega, letIn ?_⟩
  have hsz0 : (madeCells #[(.int .u8 (0 : Int))] (Int.toNat (s.length : Int) * 1)).size = s.length := by rw [size_madeCells]; simp
  have hst0 : Still w (w.alloc (.cells (madeCells #[(.int .u8 (0 : Int))] (Int.toNat (s.length : Int) * 1)) 5)) := (Mod.refl _ _).alloc _
  have hr0 : Row (w.alloc (.cells (madeCells #[(.int .u8 (0 : Int))] (Int.toNat (s.length : Int) * 1)) 5)) w.heap.size 5 (madeCells #[(.int .u8 (0 : Int))] (Int.toNat (s.length : Int) * 1)) := Row.new _ _ _
  generalize w.alloc (.cells (madeCells #[(.int .u8 (0 : Int))] (Int.toNat (s.length : Int) * 1)) 5) = w1 at *
  generalize madeCells #[(.int .u8 (0 : Int))] (Int.toNat (s.length : Int) * 1) = row0 at *
  have ebc : (s.take (min (Int.toNat (s.length : Int)) s.length)).map (fun b => Value.int .u8 b.toNat) = bc s := by rw [Int.toNat_natCast, Nat.min_self, List.take_length]; rfl
  refine ⟨bc s, bc_one s, ebc.symm, .inr ⟨w.heap.size, 0, row0.toList, 5, rfl, hr0, by rw [bc_length]; simp [hsz0], letIn ?_⟩⟩
  have hcs : row0.toList.take 0 ++ (bc s ++ row0.toList.drop (0 + (bc s).length)) = bc s := by
    rw [bc_length, List.drop_of_length_le (by simp [hsz0])]
    simp
  rw [hcs]
  have hr1 := hr0.setRow ⟨bc s⟩ (by simp [hsz0])
  have hst1 : Still w (w1.setRow w.heap.size ⟨bc s⟩) := hst0.setRow (.inr (Nat.le_refl _)) _
  generalize w1.setRow w.heap.size ⟨bc s⟩ = w2 at *
  refine ⟨by decide, by omega, s, rfl, by omega, .inr ⟨h0, w.heap.size, s.length, rfl, by obtain ⟨fz, hh, _⟩ := hr1; show World.shape? _ _ = _; simp [World.shape?, hh], Nat.le_refl _, fun j x hx => ?_, rfl, hst1.box (Nat.le_refl _) (freeze_mod _ _ _)⟩⟩
  exact (by rw [add_row, Nat.zero_add] : (Addr.mk w.heap.size 0 none).add j = Addr.mk w.heap.size j none) ▸ hr1.lget (bc_get hx)
theorem syntaxError_spec (he : Env w) (f s : Txt) (hs : s.length ≤ 140737488355328) : Calls Tryz.prog fn_strconv_syntaxError #[.string (S f), .string (S s)] w (fun e w' => (∃ p, e = .returned (.pointer p)) ∧ Still w w') := by
  refine strconv_syntaxError_calls _ _ _ _ ?_
  obtain ⟨v, h1, h2⟩ := he.es
  refine ⟨fun wq => Still w wq, (Still.refl _).toDrew, v, h1, fun wq hq => hq.cell h2, (clone_spec s hs).mono ?_⟩
  rintro _ w1 ⟨rfl, hs1⟩
  have hst := (Still.refl w).toDrew.trans hs1
  exact .inl ⟨_, rfl, hst, by refine spliceRaw (l := [.string (S f), .string (S s), .nilIface]) h1 (by show 2 < 3; decide) (letIn ⟨⟨_, rfl⟩, hst.alloc _⟩)⟩
theorem rangeError_spec (he : Env w) (f s : Txt) (hs : s.length ≤ 140737488355328) : Calls Tryz.prog fn_strconv_rangeError #[.string (S f), .string (S s)] w (fun e w' => (∃ p, e = .returned (.pointer p)) ∧ Still w w') := by
  refine strconv_rangeError_calls _ _ _ _ ?_
  obtain ⟨v, h1, h2⟩ := he.er
  refine ⟨fun wq => Still w wq, (Still.refl _).toDrew, v, h1, fun wq hq => hq.cell h2, (clone_spec s hs).mono ?_⟩
  rintro _ w1 ⟨rfl, hs1⟩
  have hst := (Still.refl w).toDrew.trans hs1
  exact .inl ⟨_, rfl, hst, by refine spliceRaw (l := [.string (S f), .string (S s), .nilIface]) h1 (by show 2 < 3; decide) (letIn ⟨⟨_, rfl⟩, hst.alloc _⟩)⟩
abbrev NErr (k : Nat) : Value := .iface 161 (.int .i64 (k : Int))
theorem toError_spec (he : Env w) (f s : Txt) (b z : Int) (hs : s.length ≤ 140737488355328) {k : Nat} (hk : k = 1 ∨ k = 2) :
    Calls Tryz.prog fn_strconv_toError #[.string (S f), .string (S s), .int .i64 b, .int .i64 z, NErr k] w (fun e w' => (∃ t v, e = .returned (.iface t v)) ∧ Still w w') := by
  refine strconv_toError_calls _ _ _ _ _ _ _ ?_
  refine ⟨rfl, rfl, ?_⟩
  rcases hk with rfl | rfl
  · refine bsel_of (fun h => by cases h) (fun _ => ⟨rfl, rfl, bsel_of (fun _ => ?_) (fun h => by cases h)⟩)
    refine (rangeError_spec he f s hs).mono ?_
    rintro _ w1 ⟨⟨p, rfl⟩, hs1⟩
    exact .inl ⟨_, rfl, ⟨_, _, rfl⟩, hs1⟩
  · refine bsel_of (fun _ => ?_) (fun h => by cases h)
    refine (syntaxError_spec he f s hs).mono ?_
    rintro _ w1 ⟨⟨p, rfl⟩, hs1⟩
    exact .inl ⟨_, rfl, ⟨_, _, rfl⟩, hs1⟩
def Read (r : Pr Int) (a b : Value) : Prop := match r with
  | .ok n => a = .int .i64 n ∧ b = .nilIface
  | .bad k => (∃ m : Int, a = .int .i64 m ∧ -9223372036854775808 ≤ m ∧ m < 9223372036854775808) ∧ b = NErr k
def ReadU (r : Pr Nat) (a b : Value) : Prop := match r with
  | .ok n => a = .int .u64 (n : Int) ∧ b = .nilIface
  | .bad k => (a = .int .u64 (if k = 1 then 18446744073709551615 else 0)) ∧ b = NErr k
theorem low_eq (c : UInt8) : bits .or .u8 (c.toNat : Int) 32 = ((lowN c : Nat) : Int) := by
  have h : ∀ n : Nat, n < 256 → bits .or .u8 (n : Int) 32 = ((n ||| 32 : Nat) : Int) := by decide +kernel
  rw [h _ c.toNat_lt]
  unfold lowN
  rw [UInt8.toNat_or]
  rfl
theorem lower_spec (c : UInt8) : Calls Tryz.prog fn_internal_strconv_lower #[.int .u8 (c.toNat : Int)] w (fun e w' => e = .returned (.int .u8 ((lowN c : Nat) : Int)) ∧ w' = w) :=
  internal_strconv_lower_calls _ _ _ ⟨by rw [low_eq], rfl⟩
theorem wrap_u8 {n : Int} (h0 : 0 ≤ n) (h1 : n < 256) : IntKind.u8.wrap n = n := by
  simp only [IntKind.wrap, IntKind.signed, IntKind.bits]
  simp
  omega
theorem wrap_u64_over {n : Int} (h0 : 18446744073709551616 ≤ n) (h1 : n < 36893488147419103232) : IntKind.u64.wrap n = n - 18446744073709551616 := by
  simp only [IntKind.wrap, IntKind.signed, IntKind.bits]
  simp
  omega
theorem over_no {a d : Nat} (hd : d < 36) (h : ¬ ((a : Int) + (d : Int) - 18446744073709551616 < (a : Int))) : False := h (by omega)
theorem lowN_lt (c : UInt8) : lowN c < 256 := (c ||| 32).toNat_lt
theorem digV_lt {c : UInt8} {d : Nat} (h : digV c = some d) : d < 36 := by
  unfold digV at h
  split at h
  · injection h with h; omega
  · split at h
    · injection h with h; omega
    · cases h
set_option maxRecDepth 20000 in
theorem parseUint_spec (b : Nat) (hb : b = 8 ∨ b = 10 ∨ b = 16) (z : Int) (hz : z = 0 ∨ z = 64) (s : Txt) (hs : s.length ≤ 140737488355328) :
    Calls Tryz.prog fn_internal_strconv_ParseUint #[.string (S s), .int .i64 (b : Int), .int .i64 z] w (fun e w' => (∃ x y, e = .returned (.tuple #[x, y]) ∧ ReadU (parseU b s) x y) ∧ Still w w') := by
  refine internal_strconv_ParseUint_calls _ _ _ _ _ ?_
  refine bsel_of (fun h => ?_) (fun h => ?_)
  · have h := of_decide_eq_true h
    subst h
    exact ⟨⟨_, _, rfl, rfl, rfl⟩, Still.refl _⟩
  have h0 : s ≠ [] := of_decide_eq_false h
  have hpu : parseU b s = scanU b s 0 := by unfold parseU; rw [if_neg h0]
  rw [hpu]
  have ubase : IntKind.u64.wrap (b : Int) = (b : Int) := wrap_u64 (by omega) (by omega)
  have ubase8 : IntKind.u8.wrap (b : Int) = (b : Int) := wrap_u8 (by omega) (by omega)
  refine ⟨fun s1 b1 w1 => s = s1 ∧ b1 = (b : Int) ∧ w1 = w, ⟨fun x w1 => x = true ∧ w1 = w, ?_, ?_⟩, ?_⟩
  · exact bsel_of (fun _ => ⟨by rw [decide_eq_true]; omega, rfl⟩) (fun h => by have := of_decide_eq_false h; omega)
  · rintro _ _ w1 ⟨rfl, rfl⟩
    exact bsel_of (fun _ => ⟨rfl, rfl, rfl⟩) (fun h => by cases h)
  rintro _ _ _ w1 ⟨rfl, rfl, rfl⟩
  refine ⟨fun z1 w2 => z1 = 64 ∧ w2 = w1, ?_, ?_⟩
  · rcases hz with rfl | rfl
    · exact bsel_of (fun _ => ⟨rfl, rfl⟩) (fun h => by simp at h)
    · exact bsel_of (fun h => by simp at h) (fun _ => bsel_of (fun h => by simp at h) (fun _ => bsel_of (fun h => by simp at h) (fun _ => ⟨rfl, rfl⟩)))
  rintro _ _ w2 ⟨rfl, rfl⟩
  refine ⟨fun c w3 => c = ((18446744073709551615 / b + 1 : Nat) : Int) ∧ w3 = w2, ?_, ?_⟩
  · rcases hb with rfl | rfl | rfl
    · refine bsel_of (fun h => by simp at h) (fun _ => bsel_of (fun h => by simp at h) (fun _ => ⟨by decide, by decide, rfl⟩))
    · exact bsel_of (fun _ => ⟨by decide, rfl⟩) (fun h => by simp at h)
    · exact bsel_of (fun h => by simp at h) (fun _ => bsel_of (fun _ => ⟨by decide, rfl⟩) (fun h => by simp at h))
  rintro _ _ w3 ⟨rfl, rfl⟩
  refine ⟨by decide, by omega, fun cp w4 ho4 hg4 => ?_⟩
  have hst4 : Still w3 w4 := (Mod.refl _ _).grown hg4 (fun g e => by cases e)
  have hat : ∀ {w5 : World}, Still w4 w5 → ∀ {k : Nat} {c : UInt8}, s[k]? = some c → w5.cell? (Addr.mk w3.heap.size k none) = some (.int .u8 (c.toNat : Int)) := fun hst k c hc => hst.cell (ho4.cells rfl k _ (bc_get hc))
  have emax : IntKind.u64.wrap (IntKind.u64.wrap (1 * 2 ^ (min (Int.toNat (IntKind.u64.wrap 64)) (IntKind.u64.bits))) - 1) = 18446744073709551615 := by decide
  rw [emax, ubase, ubase8]
  refine ⟨fun u n i w5 => ∃ k m : Nat, u = false ∧ n = (m : Int) ∧ i = (k : Int) ∧ k ≤ s.length ∧ m ≤ 18446744073709551615 ∧ scanU b s 0 = scanU b (s.drop k) m ∧ w5 = w4, fun _ _ i _ => s.length - i.toNat, ⟨0, 0, rfl, rfl, rfl, Nat.zero_le _, by decide, rfl, rfl⟩, ?_⟩
  rintro _ _ _ _ w5 ⟨k, m, rfl, rfl, rfl, hk, hm, hsc, rfl⟩
  refine bsel_of (fun hx => ?_) (fun hx => ?_)
  · have hx : k < s.length := by have := of_decide_eq_true hx; omega
    have e1 : IntKind.i64.wrap ((k : Int) + 1) = ((k + 1 : Nat) : Int) := by rw [wrap_i64 (by omega) (by omega)]; omega
    rw [e1, List.drop_eq_getElem_cons hx] at *
    have hsk := getD_some hx
    generalize s[k] = c at *
    have hc256 : c.toNat < 256 := c.toNat_lt
    have stop : ∀ j, scanU b (c :: s.drop (k + 1)) m = .bad j → ∀ x, x = (if j = 1 then 18446744073709551615 else 0 : Int) → (∃ x' y', (Ending.returned (.tuple #[.int .u64 x, NErr j])) = .returned (.tuple #[x', y']) ∧ ReadU (scanU b s 0) x' y') ∧ Still w3 w5 := by
      rintro j hj x rfl
      rw [hsc, hj]
      exact ⟨⟨_, _, rfl, rfl, rfl⟩, hst4⟩
    simp only [scanU] at stop hsc
    refine ⟨fun u n w6 => u = false ∧ ∃ d, digV c = some d ∧ d < b ∧ m * b + d ≤ 18446744073709551615 ∧ n = ((m * b + d : Nat) : Int) ∧ w6 = w5, ⟨by omega, by omega, _, by rw [Int.toNat_natCast, Nat.mul_one, add_row, Nat.zero_add]; exact hat (Still.refl _) hsk, fun u d w6 => u = false ∧ ∃ d' : Nat, digV c = some d' ∧ d = (d' : Int) ∧ w6 = w5, ⟨fun x w6 => x = false ∧ w6 = w5, ?_, ?_⟩, ?_⟩, ?_⟩
    · refine bsel_of (fun _ => ⟨?_, rfl⟩) (fun _ => ⟨rfl, rfl⟩)
      rw [decide_eq_false]
      omega
    · rintro _ _ w6 ⟨rfl, rfl⟩
      refine bsel_of (fun h => by cases h) (fun _ => ⟨fun x w7 => x = (decide (48 ≤ c.toNat ∧ c.toNat ≤ 57)) ∧ w7 = w6, ?_, ?_⟩)
      · refine bsel_of (fun h1 => ⟨?_, rfl⟩) (fun h1 => ⟨?_, rfl⟩)
        · have h1 : 48 ≤ c.toNat := by have := of_decide_eq_true h1; omega
          by_cases h2 : c.toNat ≤ 57
          · rw [decide_eq_true (show ((c.toNat : Int) ≤ 57) by omega), decide_eq_true ⟨h1, h2⟩]
          · rw [decide_eq_false (show ¬ ((c.toNat : Int) ≤ 57) by omega), decide_eq_false (fun h => h2 h.2)]
        · have h1 : ¬ 48 ≤ c.toNat := by have := of_decide_eq_false h1; omega
          rw [decide_eq_false (fun h => h1 h.1)]
      · rintro _ _ w7 ⟨rfl, rfl⟩
        refine bsel_of (fun h => ?_) (fun h => ?_)
        · have h := of_decide_eq_true h
          refine ⟨rfl, c.toNat - 48, by unfold digV; rw [if_pos h], ?_, rfl⟩
          rw [wrap_u8 (by omega) (by omega)]
          omega
        · have h := of_decide_eq_false h
          have hll := lowN_lt c
          refine (lower_spec c).mono ?_
          rintro _ w8 ⟨rfl, rfl⟩
          refine .inl ⟨_, rfl, bsel_of (fun h2 => ?_) (fun h2 => ?_)⟩
          · have h2 : 97 ≤ lowN c := by have := of_decide_eq_true h2; omega
            refine (lower_spec c).mono ?_
            rintro _ w8 ⟨rfl, rfl⟩
            refine .inl ⟨_, rfl, bsel_of (fun h3 => ?_) (fun h3 => ?_)⟩
            · have h3 : lowN c ≤ 122 := by have := of_decide_eq_true h3; omega
              refine (lower_spec c).mono ?_
              rintro _ w8 ⟨rfl, rfl⟩
              refine .inl ⟨_, rfl, rfl, lowN c - 97 + 10, by unfold digV; rw [if_neg h, if_pos ⟨h2, h3⟩], ?_, rfl⟩
              have e2 : IntKind.u8.wrap (((lowN c : Nat) : Int) - 97) = ((lowN c - 97 : Nat) : Int) := by rw [wrap_u8 (by omega) (by omega)]; omega
              rw [e2, wrap_u8 (by omega) (by omega)]
              omega
            · have h3 : ¬ lowN c ≤ 122 := by have := of_decide_eq_false h3; omega
              have hd : digV c = none := by unfold digV; rw [if_neg h, if_neg (fun h => h3 h.2)]
              exact stop 2 (by rw [hd]) 0 rfl
          · have h2 : ¬ 97 ≤ lowN c := by have := of_decide_eq_false h2; omega
            have hd : digV c = none := by unfold digV; rw [if_neg h, if_neg (fun h => h2 h.1)]
            exact stop 2 (by rw [hd]) 0 rfl
    · rintro _ _ _ w6 ⟨rfl, d, hd, rfl, rfl⟩
      have hd36 := digV_lt hd
      rw [hd] at stop hsc
      dsimp only at stop hsc
      refine bsel_of (fun h1 => ?_) (fun h1 => ?_)
      · have h1 : b ≤ d := by have := of_decide_eq_true h1; omega
        exact stop 2 (by rw [if_pos h1]) 0 rfl
      have h1 : ¬ b ≤ d := by have := of_decide_eq_false h1; omega
      rw [if_neg h1] at stop hsc
      have ov : 18446744073709551615 < m * b + d → ∀ x, x = (18446744073709551615 : Int) → (∃ x' y', (Ending.returned (.tuple #[.int .u64 x, NErr 1])) = .returned (.tuple #[x', y']) ∧ ReadU (scanU b s 0) x' y') ∧ Still w3 w6 := fun h x hx => stop 1 (by rw [if_pos h]) x (by rw [hx]; rfl)
      have hdm := Nat.div_add_mod 18446744073709551615 b
      have hml := Nat.mod_lt 18446744073709551615 (show 0 < b by omega)
      refine bsel_of (fun h2 => ?_) (fun h2 => ?_)
      · have h2 : 18446744073709551615 / b + 1 ≤ m := by have := of_decide_eq_true h2; omega
        have h3 : b * (18446744073709551615 / b + 1) ≤ b * m := Nat.mul_le_mul_left _ h2
        have h4 : b * m = m * b := Nat.mul_comm _ _
        rw [Nat.mul_add] at h3
        exact ov (by omega) _ rfl
      have h2 : m ≤ 18446744073709551615 / b := by have := of_decide_eq_false h2; omega
      have h3 : b * m ≤ b * (18446744073709551615 / b) := Nat.mul_le_mul_left _ h2
      have h4 : b * m = m * b := Nat.mul_comm _ _
      have e2 : IntKind.u64.wrap ((m : Int) * (b : Int)) = ((m * b : Nat) : Int) := by
        have : ((m : Int) * (b : Int)) = ((m * b : Nat) : Int) := by push_cast; rfl
        rw [this]
        exact wrap_u64 (by omega) (by omega)
      have e3 : IntKind.u64.wrap (d : Int) = (d : Int) := wrap_u64 (by omega) (by omega)
      rw [e2, e3]
      by_cases hov : 18446744073709551615 < m * b + d
      · have e4 : IntKind.u64.wrap (((m * b : Nat) : Int) + (d : Int)) = (((m * b : Nat) : Int) + (d : Int) - 18446744073709551616) := by
          rw [wrap_u64_over (by omega) (by omega)]
        rw [e4]
        refine bsel_of (fun _ => ov hov _ rfl) (fun h5 => ?_)
        have h6 := of_decide_eq_false h5
        exact (over_no hd36 h6).elim
      · have e4 : IntKind.u64.wrap (((m * b : Nat) : Int) + (d : Int)) = ((m * b + d : Nat) : Int) := by
          rw [wrap_u64 (by omega) (by omega)]
          omega
        rw [e4]
        refine bsel_of (fun h5 => ?_) (fun _ => bsel_of (fun h5 => ?_) (fun _ => ⟨rfl, d, hd, by omega, by omega, rfl, rfl⟩))
        · have := of_decide_eq_true h5
          omega
        · have := of_decide_eq_true h5
          omega
    · rintro _ _ _ w6 ⟨rfl, d, hd, hdb, hle, rfl, rfl⟩
      rw [hd] at hsc
      dsimp only at hsc
      rw [if_neg (by omega), if_neg (by omega)] at hsc
      exact ⟨⟨k + 1, m * b + d, rfl, rfl, rfl, hx, hle, hsc, rfl⟩, by dsimp only; omega⟩
  · have hx : k = s.length := by have := of_decide_eq_false hx; omega
    subst hx
    rw [List.drop_length] at hsc
    refine bsel_of (fun h => by cases h) (fun _ => ⟨⟨_, _, rfl, ?_⟩, hst4⟩)
    rw [hsc]
    exact ⟨rfl, rfl⟩
theorem two63 {z : Int} (hz : z = 64) : IntKind.u64.wrap (1 * 2 ^ (min (Int.toNat (IntKind.u64.wrap (IntKind.i64.wrap (z - 1)))) (IntKind.u64.bits))) = 9223372036854775808 := by subst hz; decide
theorem neg_wrap {m : Nat} (h : ¬ 9223372036854775808 < m) : IntKind.i64.wrap (0 - IntKind.i64.wrap (m : Int)) = -(m : Int) := by
  simp only [IntKind.wrap, IntKind.signed, IntKind.bits]
  simp
  omega
set_option maxRecDepth 20000 in
theorem parseInt_spec (b : Nat) (hb : b = 8 ∨ b = 10 ∨ b = 16) (z : Int) (hz : z = 0 ∨ z = 64) (s : Txt) (hs : s.length ≤ 140737488355328) :
    Calls Tryz.prog fn_internal_strconv_ParseInt #[.string (S s), .int .i64 (b : Int), .int .i64 z] w (fun e w' => (∃ x y, e = .returned (.tuple #[x, y]) ∧ Read (parseI b s) x y) ∧ Still w w') := by
  refine internal_strconv_ParseInt_calls _ _ _ _ _ ?_
  refine bsel_of (fun h => ?_) (fun h => ?_)
  · have h := of_decide_eq_true h
    subst h
    exact ⟨⟨_, _, rfl, ⟨_, rfl, by decide, by decide⟩, rfl⟩, Still.refl _⟩
  have h0 : s ≠ [] := of_decide_eq_false h
  refine ⟨fun s1 neg w1 => w1 = w ∧ parseI b s = signed neg (parseU b s1) ∧ s1.length ≤ 140737488355328, ?_, ?_⟩
  · cases s with
    | nil => exact absurd rfl h0
    | cons c t =>
      simp only [List.length_cons] at hs
      refine ⟨by decide, c, rfl, bsel_of (fun h1 => ?_) (fun h1 => ?_)⟩
      · have h1 : c = 43 := byte_eq.1 (of_decide_eq_true h1)
        refine ⟨by decide, by simp only [List.length_cons]; omega, rfl, ?_, by show t.length ≤ _; omega⟩
        show parseI b (c :: t) = signed false (parseU b t)
        simp only [parseI]
        rw [if_pos h1]
      have h1 : ¬ c = 43 := fun e => of_decide_eq_false h1 (byte_eq.2 e)
      refine bsel_of (fun h2 => ?_) (fun h2 => ?_)
      · have h2 : c = 45 := byte_eq.1 (of_decide_eq_true h2)
        refine ⟨by decide, by simp only [List.length_cons]; omega, rfl, ?_, by show t.length ≤ _; omega⟩
        show parseI b (c :: t) = signed true (parseU b t)
        simp only [parseI]
        rw [if_neg h1, if_pos h2]
      have h2 : ¬ c = 45 := fun e => of_decide_eq_false h2 (byte_eq.2 e)
      refine ⟨rfl, ?_, by simp only [List.length_cons]; omega⟩
      simp only [parseI]
      rw [if_neg h1, if_neg h2]
  rintro s1 neg _ w1 ⟨rfl, hpi, hs1⟩
  rw [hpi]
  refine (parseUint_spec b hb z hz s1 hs1).mono ?_
  rintro _ w2 ⟨⟨x, y, rfl, hr⟩, hs2⟩
  have main : ∃ m : Nat, x = .int .u64 (m : Int) ∧ m ≤ 18446744073709551615 ∧ y.oneCell' = true ∧
      ((y = .nilIface ∧ parseU b s1 = .ok m) ∨ (y = NErr 1 ∧ parseU b s1 = .bad 1 ∧ m = 18446744073709551615) ∨ (y = NErr 2 ∧ parseU b s1 = .bad 2)) := by
    cases hp : parseU b s1 with
    | ok m =>
      rw [hp] at hr
      obtain ⟨rfl, rfl⟩ := hr
      exact ⟨m, rfl, parseU_le hp, rfl, .inl ⟨rfl, rfl⟩⟩
    | bad k =>
      rw [hp] at hr
      obtain ⟨rfl, rfl⟩ := hr
      rcases parseU_bad hp with rfl | rfl
      · exact ⟨18446744073709551615, rfl, by decide, rfl, .inr (.inl ⟨rfl, rfl, rfl⟩)⟩
      · exact ⟨0, rfl, by decide, rfl, .inr (.inr ⟨rfl, rfl⟩)⟩
  obtain ⟨m, rfl, hm, hy1, hy⟩ := main
  refine .inl ⟨_, y, hy1, rfl, fun w3 => w3 = w2 ∧ ((parseU b s1 = .ok m) ∨ (parseU b s1 = .bad 1 ∧ m = 18446744073709551615)), ⟨fun q w3 => w3 = w2 ∧ ((q = false ∧ ((parseU b s1 = .ok m) ∨ (parseU b s1 = .bad 1 ∧ m = 18446744073709551615))) ∨ (q = true ∧ y = NErr 2 ∧ parseU b s1 = .bad 2)), ?_, ?_⟩, ?_⟩
  · rcases hy with ⟨rfl, hp⟩ | ⟨rfl, hp, hmm⟩ | ⟨rfl, hp⟩
    · exact ⟨rfl, .inl ⟨rfl, .inl hp⟩⟩
    · exact ⟨rfl, rfl, rfl, .inl ⟨rfl, .inr ⟨hp, hmm⟩⟩⟩
    · exact ⟨rfl, rfl, rfl, .inr ⟨rfl, rfl, hp⟩⟩
  · rintro _ _ w3 ⟨rfl, ⟨rfl, h⟩ | ⟨rfl, rfl, h⟩⟩
    · exact ⟨rfl, h⟩
    · rw [h]
      exact ⟨⟨_, _, rfl, ⟨_, rfl, by decide, by decide⟩, rfl⟩, hs2⟩
  clear hy hy1 hr
  rintro _ w3 ⟨rfl, hp⟩
  have sg : signed neg (parseU b s1) = if neg = true then (if 9223372036854775808 < m then .bad 1 else .ok (-(m : Int))) else if 9223372036854775808 ≤ m then .bad 1 else .ok (m : Int) := by
    rcases hp with hp | ⟨hp, rfl⟩
    · rw [hp]; rfl
    · rw [hp]; cases neg <;> rfl
  rw [sg]
  clear sg hp
  rcases hz with rfl | rfl <;> first | refine bsel_of (fun h => absurd h (by decide)) (fun _ => ?_) | refine bsel_of (fun _ => ?_) (fun h => absurd h (by decide))
  all_goals
    refine ⟨by decide, ?_⟩
    rw [two63 rfl]
    cases neg with
    | false =>
      refine bsel_of (fun _ => ?_) (fun h => by cases h)
      refine bsel_of (fun h => ?_) (fun h => ?_)
      · have h : 9223372036854775808 ≤ m := by have := of_decide_eq_true h; omega
        rw [if_neg (by decide), if_pos h]
        exact ⟨⟨_, _, rfl, ⟨_, rfl, by decide, by decide⟩, rfl⟩, hs2⟩
      · have h : ¬ 9223372036854775808 ≤ m := by have := of_decide_eq_false h; omega
        rw [if_neg (by decide), if_neg h]
        refine bsel_of (fun h => by cases h) (fun _ => bsel_of (fun h => by cases h) (fun _ => ⟨⟨_, _, rfl, ?_, rfl⟩, hs2⟩))
        rw [wrap_i64 (by omega) (by omega)]
    | true =>
      refine bsel_of (fun h => by cases h) (fun _ => bsel_of (fun _ => ?_) (fun h => by cases h))
      refine bsel_of (fun h => ?_) (fun h => ?_)
      · have h : 9223372036854775808 < m := by have := of_decide_eq_true h; omega
        rw [if_pos rfl, if_pos h]
        exact ⟨⟨_, _, rfl, ⟨_, rfl, by decide, by decide⟩, rfl⟩, hs2⟩
      · have h : ¬ 9223372036854775808 < m := by have := of_decide_eq_false h; omega
        rw [if_pos rfl, if_neg h]
        refine bsel_of (fun _ => ⟨⟨_, _, rfl, ?_, rfl⟩, hs2⟩) (fun h => by cases h)
        rw [neg_wrap h]
theorem sub48 {c : UInt8} : (decide ((9 : Int) < IntKind.u8.wrap ((c.toNat : Int) - 48))) = !isDig c := by
  have h : ∀ n : Nat, n < 256 → decide ((9 : Int) < IntKind.u8.wrap ((n : Int) - 48)) = !(decide (48 ≤ n) && decide (n ≤ 57)) := by decide +kernel
  exact h _ c.toNat_lt
theorem val48 {c : UInt8} (h : isDig c = true) : IntKind.u8.wrap ((c.toNat : Int) - 48) = ((c.toNat - 48 : Nat) : Int) ∧ c.toNat - 48 ≤ 9 := by
  unfold isDig at h
  simp only [Bool.and_eq_true, decide_eq_true_eq] at h
  rw [wrap_u8 (by omega) (by omega)]
  omega
theorem digV_no {c : UInt8} (h : isDig c = false) : ∀ d, digV c = some d → 10 ≤ d := by
  intro d hd
  unfold isDig at h
  unfold digV at hd
  rw [if_neg (by intro h2; rw [decide_eq_true h2.1, decide_eq_true h2.2] at h; cases h)] at hd
  split at hd
  · injection hd with hd; omega
  · cases hd
theorem pow_le18 {k : Nat} (h : k ≤ 18) : 10 ^ k ≤ 1000000000000000000 := Nat.le_trans (Nat.pow_le_pow_right (by decide) h) (by decide)
set_option maxRecDepth 20000 in
theorem atoi_in (s : Txt) (hs : s.length ≤ 140737488355328) :
    Calls Tryz.prog fn_internal_strconv_Atoi #[.string (S s)] w (fun e w' => (∃ x y, e = .returned (.tuple #[x, y]) ∧ y.oneCell' = true ∧ Read (parseI 10 s) x y) ∧ Still w w') := by
  refine internal_strconv_Atoi_calls _ _ _ ?_
  have slow : Calls Tryz.prog fn_internal_strconv_ParseInt #[.string (S s), .int .i64 ((10 : Nat) : Int), .int .i64 0] w (fun e w' => (∃ x y, e = .returned (.tuple #[x, y]) ∧ y.oneCell' = true ∧ ∃ n : Int, x = .int .i64 n ∧ Read (parseI 10 s) x y) ∧ Still w w') := by
    refine (parseInt_spec 10 (.inr (.inl rfl)) 0 (.inl rfl) s hs).mono ?_
    rintro _ w1 ⟨⟨x, y, rfl, hr⟩, hs1⟩
    refine ⟨⟨x, y, rfl, ?_⟩, hs1⟩
    cases hp : parseI 10 s with
    | ok n =>
      rw [hp] at hr
      obtain ⟨rfl, rfl⟩ := hr
      exact ⟨rfl, _, rfl, rfl, rfl⟩
    | bad k =>
      rw [hp] at hr
      obtain ⟨⟨m, rfl, h⟩, rfl⟩ := hr
      exact ⟨rfl, _, rfl, ⟨m, rfl, h⟩, rfl⟩
  refine bsel_of (fun h => ?_) (fun _ => ?_)
  rotate_left
  · refine slow.mono ?_
    rintro _ w1 ⟨⟨x, y, rfl, hy, n, rfl, hr⟩, hs1⟩
    exact .inl ⟨_, y, hy, rfl, ⟨_, _, rfl, hy, hr⟩, hs1⟩
  refine bsel_of (fun h9 => ?_) (fun _ => ?_)
  rotate_left
  · refine slow.mono ?_
    rintro _ w1 ⟨⟨x, y, rfl, hy, n, rfl, hr⟩, hs1⟩
    exact .inl ⟨_, y, hy, rfl, ⟨_, _, rfl, hy, hr⟩, hs1⟩
  clear slow
  have h : 0 < s.length := by have := of_decide_eq_true h; omega
  have h9 : s.length < 19 := by have := of_decide_eq_true h9; omega
  obtain ⟨c, t, rfl⟩ : ∃ c t, s = c :: t := by cases s with
    | nil => exact absurd h (Nat.lt_irrefl _)
    | cons c t => exact ⟨c, t, rfl⟩
  simp only [List.length_cons] at h9
  refine ⟨fun s1 w1 => w1 = w ∧ s1 ≠ [] ∧ s1.length ≤ 18 ∧ parseI 10 (c :: t) = signed (decide (c = 45)) (parseU 10 s1), ⟨fun q w1 => w1 = w ∧ q = (decide (c = 45) || decide (c = 43)), ?_, ?_⟩, ?_⟩
  · refine ⟨by decide, c, rfl, bsel_of (fun h1 => ?_) (fun h1 => ?_)⟩
    · have h1 : c = 45 := byte_eq.1 (of_decide_eq_true h1)
      exact ⟨rfl, by rw [decide_eq_true h1]; rfl⟩
    · have h1 : ¬ c = 45 := fun e => of_decide_eq_false h1 (byte_eq.2 e)
      refine ⟨by decide, c, rfl, rfl, ?_⟩
      rw [decide_eq_false h1, Bool.false_or]
      exact decide_eq_decide.2 (byte_eq (a := c) (b := 43))
  · rintro _ _ w1 ⟨rfl, rfl⟩
    have key : parseI 10 (c :: t) = (if c = 43 then signed false (parseU 10 t) else if c = 45 then signed true (parseU 10 t) else signed false (parseU 10 (c :: t))) := rfl
    refine bsel_of (fun h1 => ?_) (fun h1 => ?_)
    · have key2 : parseI 10 (c :: t) = signed (decide (c = 45)) (parseU 10 t) := by
        rw [key]
        by_cases h3 : c = 43
        · rw [if_pos h3, decide_eq_false (by rw [h3]; decide)]
        · have h4 : c = 45 := by rw [decide_eq_false h3, Bool.or_false] at h1; exact of_decide_eq_true h1
          rw [if_neg h3, if_pos h4, decide_eq_true h4]
      refine ⟨by decide, by simp only [List.length_cons]; omega, bsel_of (fun h2 => ?_) (fun h2 => ?_)⟩
      · have h2 : t = [] := by have := of_decide_eq_true h2; apply List.eq_nil_of_length_eq_zero; have e : ((c :: t).drop (Int.toNat 1)).length = t.length := rfl; rw [e] at this; omega
        subst h2
        rw [key2]
        exact ⟨⟨_, _, rfl, rfl, ⟨_, rfl, by decide, by decide⟩, rfl⟩, Still.refl _⟩
      · have h2 : t ≠ [] := by intro e; subst e; exact of_decide_eq_false h2 (by show ((0 : Nat) : Int) < 1; omega)
        exact ⟨rfl, h2, by show t.length ≤ 18; omega, key2⟩
    · have h3 : ¬ c = 43 := fun e => by rw [decide_eq_true e, Bool.or_true] at h1; cases h1
      have h4 : ¬ c = 45 := fun e => by rw [decide_eq_true e, Bool.true_or] at h1; cases h1
      refine ⟨rfl, (fun e => by cases e), by simp only [List.length_cons]; omega, ?_⟩
      rw [key, if_neg h3, if_neg h4, decide_eq_false h4]
  rintro s1 _ w2 ⟨rfl, hne, h18, hpi⟩
  rw [hpi]
  have hpu : parseU 10 s1 = scanU 10 s1 0 := by unfold parseU; rw [if_neg hne]
  rw [hpu]
  refine ⟨by omega, fun cp w4 ho4 hg4 => ?_⟩
  have hst4 : Still w2 w4 := (Mod.refl _ _).grown hg4 (fun g e => by cases e)
  refine ⟨fun n i w5 => ∃ k m : Nat, n = (m : Int) ∧ i = (k : Int) ∧ k ≤ s1.length ∧ m < 10 ^ k ∧ scanU 10 s1 0 = scanU 10 (s1.drop k) m ∧ w5 = w4, fun _ i _ => s1.length - i.toNat, ⟨0, 0, rfl, rfl, Nat.zero_le _, by decide, rfl, rfl⟩, ?_⟩
  rintro _ _ _ w5 ⟨k, m, rfl, rfl, hk, hm, hsc, rfl⟩
  refine bsel_of (fun hx => ?_) (fun hx => ?_)
  · have hx : k < s1.length := by have := of_decide_eq_true hx; omega
    have e1 : IntKind.i64.wrap ((k : Int) + 1) = ((k + 1 : Nat) : Int) := by rw [wrap_i64 (by omega) (by omega)]; omega
    rw [e1]
    rw [List.drop_eq_getElem_cons hx] at hsc
    have hsk := getD_some hx
    generalize s1[k] = d at *
    refine ⟨by omega, by omega, _, by rw [Int.toNat_natCast, Nat.mul_one, add_row, Nat.zero_add]; exact ho4.cells rfl k _ (bc_get hsk), ?_⟩
    rw [sub48]
    cases hd : isDig d with
    | false =>
      refine bsel_of (fun _ => ?_) (fun h => by cases h)
      have e2 : scanU 10 (d :: s1.drop (k + 1)) m = .bad 2 := by
        simp only [scanU]
        cases hv : digV d with
        | none => rfl
        | some v => dsimp only; rw [if_pos (digV_no hd v hv)]
      rw [hsc, e2]
      exact ⟨⟨_, _, rfl, rfl, ⟨_, rfl, by decide, by decide⟩, rfl⟩, hst4⟩
    | true =>
      refine bsel_of (fun h => by cases h) (fun _ => ?_)
      obtain ⟨e3, h9d⟩ := val48 hd
      have hp := pow_le18 (show k + 1 ≤ 18 by omega)
      have hp1 : 10 ^ (k + 1) = 10 ^ k * 10 := Nat.pow_succ _ _
      have e4 : IntKind.i64.wrap ((m : Int) * 10) = ((m * 10 : Nat) : Int) := by rw [wrap_i64 (by omega) (by omega)]; omega
      have e5 : IntKind.i64.wrap ((d.toNat - 48 : Nat) : Int) = ((d.toNat - 48 : Nat) : Int) := wrap_i64 (by omega) (by omega)
      have e6 : IntKind.i64.wrap (((m * 10 : Nat) : Int) + ((d.toNat - 48 : Nat) : Int)) = ((m * 10 + (d.toNat - 48) : Nat) : Int) := by rw [wrap_i64 (by omega) (by omega)]; omega
      rw [e3, e4, e5, e6]
      refine ⟨⟨k + 1, m * 10 + (d.toNat - 48), rfl, rfl, hx, by omega, ?_, rfl⟩, by dsimp only; omega⟩
      rw [hsc]
      simp only [scanU]
      rw [digV_dig hd]
      dsimp only
      rw [if_neg (by omega), if_neg (by omega)]
  · have hx : k = s1.length := by have := of_decide_eq_false hx; omega
    have hp := pow_le18 (show k ≤ 18 by omega)
    have e7 : scanU 10 (s1.drop k) m = .ok m := by rw [hx, List.drop_length]; rfl
    rw [hsc, e7]
    refine ⟨by decide, c, rfl, bsel_of (fun h1 => ?_) (fun h1 => ?_)⟩
    · have h1 : c = 45 := byte_eq.1 (of_decide_eq_true h1)
      rw [decide_eq_true h1]
      have e8 : signed true (.ok m) = .ok (-(m : Int)) := by unfold signed; dsimp only; rw [if_pos rfl, if_neg (by omega)]
      rw [e8, wrap_i64 (by omega) (by omega)]
      refine ⟨⟨_, _, rfl, rfl, ?_, rfl⟩, hst4⟩
      rw [Int.zero_sub]
    · have h1 : ¬ c = 45 := fun e => of_decide_eq_false h1 (byte_eq.2 e)
      rw [decide_eq_false h1]
      have e8 : signed false (.ok m) = .ok (m : Int) := by unfold signed; dsimp only; rw [if_neg (by decide), if_neg (by omega)]
      rw [e8]
      exact ⟨⟨_, _, rfl, rfl, rfl, rfl⟩, hst4⟩
theorem atoi_spec (he : Env w) (s : Txt) (hs : s.length ≤ 140737488355328) :
    Calls Tryz.prog fn_strconv_Atoi #[.string (S s)] w (fun e w' => (∃ x y, e = .returned (.tuple #[x, y]) ∧ y.oneCell' = true ∧ (match parseI 10 s with
      | .ok n => x = .int .i64 n ∧ y = .nilIface
      | .bad _ => (∃ m : Int, x = .int .i64 m ∧ -9223372036854775808 ≤ m ∧ m < 9223372036854775808) ∧ ∃ t v, y = .iface t v)) ∧ Still w w') := by
  refine strconv_Atoi_calls _ _ _ ?_
  refine (atoi_in s hs).mono ?_
  rintro _ w1 ⟨⟨x, y, rfl, hy, hr⟩, hs1⟩
  cases hp : parseI 10 s with
  | ok n =>
    rw [hp] at hr
    obtain ⟨rfl, rfl⟩ := hr
    exact .inl ⟨_, _, rfl, rfl, ⟨_, _, rfl, rfl, rfl, rfl⟩, hs1⟩
  | bad k =>
    rw [hp] at hr
    obtain ⟨⟨m, rfl, hm⟩, rfl⟩ := hr
    refine .inl ⟨_, _, rfl, rfl, ?_⟩
    refine (toError_spec (he.still hs1) _ s 0 0 hs (parseI_bad hp)).mono ?_
    rintro _ w2 ⟨⟨t, v, rfl⟩, hs2⟩
    exact .inl ⟨_, rfl, rfl, ⟨_, _, rfl, rfl, ⟨m, rfl, hm⟩, t, v, rfl⟩, hs1.trans hs2⟩
theorem nd {p : Prop} [Decidable p] (h : (!decide p) = false) : p := by simpa using h
theorem number_spec (he : Env w) (s : Txt) (hs : s.length ≤ 140737488355328) :
    Calls Tryz.prog fn_tuple_Number #[.string (S s)] w (fun e w' => (∃ (m : Int) (ok : Bool), e = .returned (.tuple #[.int .i64 m, .bool ok]) ∧ (match numR s with
      | some n => m = (n : Int) ∧ ok = true
      | none => ok = false)) ∧ Still w w') := by
  refine tuple_Number_calls _ _ _ ?_
  refine (atoi_spec he s hs).mono ?_
  rintro _ w1 ⟨⟨x, y, rfl, hy, hr⟩, hs1⟩
  cases hp : parseI 10 s with
  | bad k =>
    rw [hp] at hr
    obtain ⟨⟨m, rfl, hm⟩, t, v, rfl⟩ := hr
    refine .inl ⟨_, _, hy, rfl, ?_⟩
    have hn : numR s = none := by
      cases hn : numR s with
      | none => rfl
      | some n => rw [parseI_dec hn] at hp; cases hp
    rw [hn]
    exact ⟨⟨_, _, rfl, rfl⟩, hs1⟩
  | ok n =>
    rw [hp] at hr
    obtain ⟨rfl, rfl⟩ := hr
    have hrg := parseI_range hp
    have no : (∀ k, numR s = some k → False) → (∃ (m : Int) (ok : Bool), (Ending.returned (.tuple #[.int .i64 n, .bool false])) = .returned (.tuple #[.int .i64 m, .bool ok]) ∧ (match numR s with
      | some k => m = (k : Int) ∧ ok = true
      | none => ok = false)) ∧ Still w w1 := by
      intro h
      cases hn : numR s with
      | none => exact ⟨⟨_, _, rfl, rfl⟩, hs1⟩
      | some k => exact (h k hn).elim
    refine .inl ⟨_, _, rfl, rfl, ?_⟩
    refine bsel_of (fun h0 => ?_) (fun h0 => ?_)
    rotate_left
    · refine no fun k hk => ?_
      have hpk := parseI_dec hk
      rw [hp] at hpk
      injection hpk with hpk
      have := of_decide_eq_false h0
      omega
    have h0 : 0 ≤ n := of_decide_eq_true h0
    obtain ⟨u, rfl⟩ : ∃ u : Nat, n = (u : Int) := ⟨n.toNat, by omega⟩
    refine bsel_of (fun h9 => ?_) (fun h9 => ?_)
    rotate_left
    · refine no fun k hk => ?_
      have := (numR_some hk).2
      have := of_decide_eq_false h9
      omega
    have h9 : s.length ≤ 9 := by have := of_decide_eq_true h9; omega
    refine (itoa_spec (he.still hs1) (u : Int) hrg.1 hrg.2).mono ?_
    rintro _ w2 ⟨rfl, hs2⟩
    refine .inl ⟨_, rfl, ?_⟩
    rw [Lib.itoa_nonneg]
    cases hn : numR s with
    | some k =>
      have hpk := parseI_dec hn
      rw [hp] at hpk
      injection hpk with hpk
      obtain rfl : u = k := by omega
      exact ⟨⟨_, _, rfl, rfl, decide_eq_true (numR_some hn).1⟩, hs1.trans hs2⟩
    | none =>
      refine ⟨⟨_, _, rfl, decide_eq_false fun e => ?_⟩, hs1.trans hs2⟩
      have e : dec u = s := e
      have h := numR_dec (n := u) (by rw [e]; exact h9)
      rw [e, hn] at h
      cases h
theorem cut_spec (s : Txt) (hs : s.length ≤ 140737488355328) :
    Calls Tryz.prog fn_strings_Cut #[.string (S s), .string (S [58])] w (fun e w' => e = .returned (.tuple #[.string (S (s.take (colon s))), .string (S (s.drop (colon s + 1))), .bool (decide (colon s < s.length))]) ∧ Still w w') := by
  refine strings_Cut_calls _ _ _ _ ?_
  have h : Calls Tryz.prog fn_internal_stringslite_Cut #[.string (S s), .string (S [58])] w (fun e w' => e = .returned (.tuple #[.string (S (s.take (colon s))), .string (S (s.drop (colon s + 1))), .bool (decide (colon s < s.length))]) ∧ Still w w') := by
    refine internal_stringslite_Cut_calls _ _ _ _ ?_
    refine (Tryz.stringslite_Index_one (S s) 58 w).mono ?_
    rintro _ w1 ⟨rfl, rfl⟩
    have e : Lib.indexByte (S s).data.toList 58 = if colon s < s.length then (colon s : Int) else -1 := index_colon s
    rw [e]
    have hcl := colon_le s
    by_cases hc : colon s < s.length
    · rw [if_pos hc, decide_eq_true hc]
      have e1 : IntKind.i64.wrap ((colon s : Int) + (([58] : List UInt8).length : Int)) = ((colon s + 1 : Nat) : Int) := by
        simp only [List.length_cons, List.length_nil]
        rw [wrap_i64 (by omega) (by omega)]
        omega
      refine .inl ⟨_, rfl, bsel_of (fun _ => ?_) (fun h => by have := of_decide_eq_false h; omega)⟩
      rw [e1]
      exact ⟨by omega, by omega, by omega, by omega, rfl, (Still.refl _).toDrew⟩
    · rw [if_neg hc, decide_eq_false hc]
      refine .inl ⟨_, rfl, bsel_of (fun h => absurd h (by decide)) (fun _ => ⟨?_, Still.refl _⟩)⟩
      rw [List.take_of_length_le (by omega), List.drop_of_length_le (by omega)]
  refine h.mono ?_
  rintro _ w1 ⟨rfl, hs1⟩
  exact .inl ⟨_, _, _, rfl, rfl, hs1⟩
def DecAs (s : Txt) (w : World) (p : Option Addr) (n : Nat) (k : Int) : Prop := ∃ l, StrsAt w p n l ∧ ((k = 0 ∧ decode s = some l) ∨ (k = 20 ∧ n = 0 ∧ decode s = none))
theorem DecAs.still {s : Txt} {w' : World} {p : Option Addr} {n : Nat} {k : Int} (h : DecAs s w p n k) (hm : Still w w') : DecAs s w' p n k := by
  obtain ⟨l, h1, h2⟩ := h
  exact ⟨l, h1.still hm, h2⟩
theorem DecAs.bad {s : Txt} (h : decode s = none) (w : World) : DecAs s w none 0 20 := ⟨[], StrsAt.nil w, .inr ⟨rfl, rfl, h⟩⟩
theorem Owns.capLe {B : Nat} {e : TypeId} {size n : Nat} {p : Option Addr} {c : Nat} {xs : List Value} (h : Owns w B e size (.slice p n c) n xs) : n ≤ c := by
  rcases h.2 with ⟨he, rfl⟩ | ⟨g, cap, cur, he, _, _, hc, _⟩
  · exact Nat.zero_le _
  · injection he with _ _ e3
    subst e3
    exact hc
theorem Owns.ptrGe {B : Nat} {e : TypeId} {size n : Nat} {p : Option Addr} {c : Nat} {xs : List Value} (h : Owns w B e size (.slice p n c) n xs) {a : Addr} (ha : p = some a) : B ≤ a.block := by
  subst ha
  rcases h.2 with ⟨he, _⟩ | ⟨g, cap, cur, he, hB, _⟩
  · cases he
  · injection he with e1 _ _
    injection e1 with e1
    subst e1
    exact hB
theorem decode_specC (he : Env w) (s : Txt) (hs : s.length ≤ 1000000) :
    Calls Tryz.prog fn_tuple_Decode #[.string (S s)] w (fun e w' => (∃ p n C k, e = .returned (.tuple #[.slice p n C, .int .i64 k]) ∧ DecAs s w' p n k ∧ n ≤ C ∧ ∀ a, p = some a → w.heap.size ≤ a.block) ∧ Still w w') := by
  refine tuple_Decode_calls _ _ _ ?_
  refine ⟨fun s1 l lL lC w1 => ∃ (acc : List Txt) (f : Nat), lL = acc.length ∧ decode s = decT f s1 acc ∧ s1.length < f ∧ acc.length + s1.length ≤ s.length ∧ Owns w1 w.heap.size 9 1 (.slice l lL lC) lL (strs acc) ∧ Still w w1, fun s1 _ _ _ _ => s1.length,
    ⟨[], s.length + 1, rfl, rfl, Nat.lt_succ_self _, by simp, Owns.nil _ _ _ _, Still.refl _⟩, ?_⟩
  rintro s1 l _ lC _ w1 ⟨acc, f, rfl, hd, hf, hal, ho, hst⟩
  cases f with
  | zero => omega
  | succ f =>
  simp only [decT] at hd
  refine bsel_of (fun h => ?_) (fun h => ?_)
  · have hne : s1 ≠ [] := by intro e; rw [decide_eq_true e] at h; cases h
    rw [if_neg hne] at hd
    refine (cut_spec s1 (by omega)).mono ?_
    rintro _ w2 ⟨rfl, hs2⟩
    refine .inl ⟨_, _, _, rfl, ?_⟩
    have hcl := colon_le s1
    refine (number_spec (he.still (hst.trans hs2)) _ (by rw [List.length_take]; omega)).mono ?_
    rintro _ w3 ⟨⟨m, ok, rfl, hm⟩, hs3⟩
    refine .inl ⟨_, _, rfl, ?_⟩
    have hst3 := (hst.trans hs2).trans hs3
    have fail : step s1 = none → (∃ p n C k, (Ending.returned (.tuple #[.slice none 0 0, .int .i64 20])) = .returned (.tuple #[.slice p n C, .int .i64 k]) ∧ DecAs s w3 p n k ∧ n ≤ C ∧ ∀ a, p = some a → w.heap.size ≤ a.block) ∧ Still w w3 := by
      intro h
      rw [h] at hd
      exact ⟨⟨_, _, _, _, rfl, DecAs.bad hd w3, Nat.le_refl _, fun _ h => by cases h⟩, hst3⟩
    unfold step at fail
    refine bsel_of (fun hq => ?_) (fun hq => ?_)
    · have hq : ¬ colon s1 < s1.length := by intro e; rw [decide_eq_true e] at hq; cases hq
      refine fail ?_
      split
      · rfl
      · rw [if_neg]
        intro e
        have := (List.getElem?_eq_some_iff.1 e).1
        omega
    have hq : colon s1 < s1.length := by
      by_cases e : colon s1 < s1.length
      · exact e
      · rw [decide_eq_false e] at hq; cases hq
    refine bsel_of (fun hk => ?_) (fun hk => ?_)
    · obtain rfl : ok = false := by cases ok with
        | true => cases hk
        | false => rfl
      refine fail ?_
      cases hn : numR (s1.take (colon s1)) with
      | none => rfl
      | some n => rw [hn] at hm; cases hm.2
    obtain rfl : ok = true := by cases ok with
      | true => rfl
      | false => cases hk
    cases hn : numR (s1.take (colon s1)) with
    | none => rw [hn] at hm; cases hm
    | some n =>
    rw [hn] at hm fail
    dsimp only at fail
    obtain ⟨rfl, _⟩ := hm
    have hdl : (s1.drop (colon s1 + 1)).length = s1.length - (colon s1 + 1) := List.length_drop
    refine bsel_of (fun h1 => ?_) (fun h1 => ?_)
    · have h1 := of_decide_eq_true h1
      refine fail (if_neg fun e => ?_)
      have := (List.getElem?_eq_some_iff.1 e).1
      omega
    have h1 := of_decide_eq_false h1
    have h1 : colon s1 + 1 + n < s1.length := by omega
    have hb : (s1.drop (colon s1 + 1))[n]? = some s1[colon s1 + 1 + n] := by rw [List.getElem?_drop]; exact getD_some h1
    refine ⟨by omega, _, by rw [Int.toNat_natCast]; exact hb, bsel_of (fun h2 => ?_) (fun h2 => ?_)⟩
    · refine fail (if_neg fun e => ?_)
      rw [getD_some h1] at e
      rw [Option.some.inj e] at h2
      exact absurd h2 (by decide)
    have h2 : s1[colon s1 + 1 + n]? = some 44 := by
      rw [getD_some h1]
      congr 1
      exact (byte_eq (b := 44)).1 (nd h2)
    have hstep : step s1 = some ((s1.drop (colon s1 + 1)).take n, s1.drop (colon s1 + 2 + n)) := by
      unfold step
      rw [hn]
      dsimp only
      rw [if_pos h2]
    rw [hstep] at hd
    dsimp only at hd
    have e1 : IntKind.i64.wrap ((n : Int) + 1) = ((n + 1 : Nat) : Int) := by rw [wrap_i64 (by omega) (by omega)]; omega
    have hf2 := step_form hstep
    refine ⟨by omega, by omega, push1 (ho.still (hs2.trans hs3)) (by have := hst3.size; omega) rfl (fun u hu => by simp at hu; subst hu; rfl) (by omega) (by omega) fun p' c' w4 ho4 hm4 => ?_⟩
    rw [e1]
    refine ⟨by omega, by omega, ?_⟩
    rw [Int.toNat_natCast] at ho4
    rw [Int.toNat_natCast, List.drop_drop, show colon s1 + 1 + (n + 1) = colon s1 + 2 + n by omega]
    refine ⟨⟨acc ++ [(s1.drop (colon s1 + 1)).take n], f, by simp, hd, by omega, by simp only [List.length_append, List.length_cons, List.length_nil]; omega, ?_, ?_⟩, hf2.2.1⟩
    · rw [strs_append]
      exact ho4
    · exact Still.own hst3 (ho.still (hs2.trans hs3)) (Nat.le_refl _) hm4
  · have hne : s1 = [] := by
      by_cases e : s1 = []
      · exact e
      · rw [decide_eq_false e] at h; cases h
    rw [if_pos hne] at hd
    exact ⟨⟨_, _, _, _, rfl, ⟨acc, StrsAt.of ho, .inl ⟨rfl, hd⟩⟩, ho.capLe, fun a ha => ho.ptrGe ha⟩, hst⟩
theorem decode_spec (he : Env w) (s : Txt) (hs : s.length ≤ 1000000) :
    Calls Tryz.prog fn_tuple_Decode #[.string (S s)] w (fun e w' => (∃ p n C k, e = .returned (.tuple #[.slice p n C, .int .i64 k]) ∧ DecAs s w' p n k) ∧ Still w w') :=
  (decode_specC he s hs).mono fun _ _ ⟨⟨p, n, C, k, h1, h2, _⟩, h3⟩ => ⟨⟨p, n, C, k, h1, h2⟩, h3⟩
theorem dec_len_le (n : Nat) : (dec n).length ≤ n + 1 := by
  induction n using Nat.strongRecOn with
  | _ n ih =>
  by_cases h : n < 10
  · rw [dec_small h]
    simp
  · rw [dec_step h]
    have := ih (n / 10) (by omega)
    simp only [List.length_append, List.length_cons, List.length_nil]
    omega
theorem digits_spec (n : Nat) (hn : n < 1000000000000) : Calls Tryz.prog fn_ref02_Digits #[.int .i64 (n : Int)] w (fun e w' => e = .returned (.string (S (dec n))) ∧ Still w w') := by
  induction n using Nat.strongRecOn generalizing w with
  | _ n ih =>
  refine ref02_Digits_calls _ _ _ ?_
  refine ⟨by decide, allocK fun w1 hr1 hs1 hz1 => ?_⟩
  have ed : Int.tmod (n : Int) 10 = ((n % 10 : Nat) : Int) := tmod_nat n 10
  have eq : Int.tdiv (n : Int) 10 = ((n / 10 : Nat) : Int) := (Int.ofNat_tdiv n 10).symm
  have ew : IntKind.u8.wrap (IntKind.i64.wrap (48 + ((n % 10 : Nat) : Int))) = ((UInt8.ofNat (48 + n % 10)).toNat : Int) := by
    rw [wrap_i64 (by omega) (by omega), wrap_u8 (by omega) (by omega)]
    rw [UInt8.toNat_ofNat']
    omega
  rw [ed, ew] at hr1
  refine ⟨[UInt8.ofNat (48 + n % 10)], Row.bytes (l := [UInt8.ofNat (48 + n % 10)]) hr1 rfl, bsel_of (fun h => ?_) (fun h => ?_)⟩
  · have h : n < 10 := by have := of_decide_eq_true h; omega
    rw [dec_small h, Nat.mod_eq_of_lt h]
    exact ⟨rfl, hs1⟩
  · have h : ¬ n < 10 := by have := of_decide_eq_false h; omega
    rw [eq, wrap_i64 (by omega) (by omega)]
    refine ⟨by decide, (ih (n / 10) (by omega) (by omega)).mono ?_⟩
    rintro _ w2 ⟨rfl, hs2⟩
    have hl := dec_len_le (n / 10)
    refine .inl ⟨_, rfl, by simp only [List.length_cons, List.length_nil]; omega, ?_, hs1.trans hs2⟩
    rw [dec_step h]
theorem calleeK_mk {g : FuncId} {first cap : List Value} {K : FuncId → List Value → List Value → Prop} (h : K g first cap) : calleeK (.func (.func g) ⟨first⟩ ⟨cap⟩) K := h
theorem liesB0 : LiesB 115 2 0 := by unfold LiesB; kernel_rfl
theorem encode1_spec {w0 : World} {g B : Nat} {cs : List Value} {v : Value} {bs : List UInt8} (he : Env w0) (h0 : Still w0 w) (hb : BldAt w 115 g 0 B cs v bs) (hcs : cs.length = 2) (hg : w0.heap.size ≤ g) (hB0 : w0.heap.size ≤ B) (hB : B ≤ w.heap.size)
    (x : Txt) (hx : (dec x.length).length ≤ 9) (hbs : bs.length + x.length ≤ 70000000000000) :
    Calls Tryz.prog fn_tuple_Encode_1 #[.pointer (some ⟨g, 0, none⟩), .string (S x)] w (fun e w' => e = .returned (.pointer (some ⟨g, 0, none⟩)) ∧ ∃ cs' v', cs'.length = 2 ∧ BldAt w' 115 g 0 B cs' v' (bs ++ one x) ∧ Still w0 w' ∧ w.heap.size ≤ w'.heap.size) := by
  refine tuple_Encode_1_calls _ _ _ _ ?_
  refine (itoa_spec (he.still h0) (x.length : Int) (by omega) (by omega)).mono ?_
  rintro _ w1 ⟨rfl, hs1⟩
  rw [Lib.itoa_nonneg]
  have hdx : (Lib.decDigits x.length).length ≤ 9 := hx
  have ho : ((((dec x.length) ++ [58]) ++ x) ++ [44]).length ≤ 11 + x.length := by simp only [List.length_append, List.length_cons, List.length_nil]; omega
  refine .inl ⟨_, rfl, ?_⟩
  have el1 : ([58] : List UInt8).length = 1 := rfl
  have el2 : ([44] : List UInt8).length = 1 := rfl
  refine ⟨by rw [el1]; omega, by rw [List.length_append, el1]; omega, by rw [List.length_append, List.length_append, el1, el2]; omega, ?_⟩
  refine (writeString_spec (hb.still hs1) (by rw [hcs]; exact liesB0) (one x) (by have := hs1.size; omega) (by have : (one x).length ≤ 11 + x.length := ho; omega)).mono ?_
  rintro _ w2 ⟨rfl, v', h1, h2⟩
  refine .inl ⟨_, _, rfl, rfl, rfl, _, v', by simp [hcs], h1, ?_, ?_⟩
  · refine Mod.trans (h0.trans hs1) h2 (fun _ h => h) (fun i hi e => ?_)
    rcases e with rfl | e
    · omega
    · have := hb.own.ownLt e
      omega
  · have := hs1.size
    have := h2.size
    omega
set_option maxRecDepth 10000 in
theorem fold_spec {w0 : World} {g B : Nat} {cs : List Value} (he : Env w0) (h0 : Still w0 w) (hb : BldAt w 115 g 0 B cs (.slice none 0 0) []) (hcs : cs.length = 2) (hg : w0.heap.size ≤ g) (hB0 : w0.heap.size ≤ B) (hB : B ≤ w.heap.size)
    {l : Option Addr} {lL lC : Nat} {ls : List Txt} (hl : StrsAt w0 l lL ls) (ht : total ls ≤ 100000) :
    Calls Tryz.prog fn_tuple_fold_string_strings_Builder #[.slice l lL lC, .pointer (some ⟨g, 0, none⟩), .func (.func fn_tuple_Encode_1) #[] #[]] w (fun e w' => e = .returned (.pointer (some ⟨g, 0, none⟩)) ∧ ∃ cs' v', BldAt w' 115 g 0 B cs' v' (encode ls) ∧ Still w0 w') := by
  refine tuple_fold_string_strings_Builder_calls _ _ _ _ _ _ _ ?_
  have hn9 := few_nine ht
  have hlen := hl.1
  have htl := total_length ls
  refine ⟨fun r x w1 => ∃ (i : Nat) (cs : List Value) (v : Value), r = some ⟨g, 0, none⟩ ∧ x = (i : Int) ∧ i ≤ lL ∧ cs.length = 2 ∧ BldAt w1 115 g 0 B cs v (encode (ls.take i)) ∧ Still w0 w1 ∧ B ≤ w1.heap.size, fun _ x _ => lL - x.toNat,
    ⟨0, cs, _, rfl, rfl, Nat.zero_le _, hcs, hb, h0, hB⟩, ?_⟩
  rintro _ _ _ w1 ⟨i, cs1, v, rfl, rfl, hi, hcs1, hb1, hs1, hB1⟩
  refine bsel_of (fun hx => ?_) (fun hx => ?_)
  · have hx : i < lL := by have := of_decide_eq_true hx; omega
    have e1 : IntKind.i64.wrap ((i : Int) + 1) = ((i + 1 : Nat) : Int) := by rw [wrap_i64 (by omega) (by omega)]; omega
    obtain ⟨a, rfl, hc⟩ := (hl.still hs1).get hx
    refine ⟨by omega, by omega, _, by rw [Int.toNat_natCast, Nat.mul_one]; exact hc, calleeK_mk (g := fn_tuple_Encode_1) (first := []) (cap := []) ?_⟩
    refine bsel_of (fun _ => ?_) (fun h => absurd h (by rw [show callable Tryz.prog fn_tuple_Encode_1 = true by kernel_rfl]; decide))
    have hil : i < ls.length := by omega
    have htk := take_snoc hil
    have hmem : ls[i] ∈ ls := List.getElem_mem hil
    have hel := encode_len (l := ls.take i) (fun x hx => hn9 x (List.mem_of_mem_take hx))
    have htt := total_take_le ls i
    have hm := total_mem hmem
    refine (encode1_spec he hs1 hb1 hcs1 hg hB0 hB1 ls[i] (hn9 _ hmem) (by omega)).mono ?_
    rintro _ w2 ⟨rfl, cs2, v2, hcs2, hb2, hs2, hz2⟩
    refine .inl ⟨_, rfl, ?_⟩
    rw [e1]
    refine ⟨⟨i + 1, cs2, v2, rfl, rfl, hx, hcs2, ?_, hs2, by omega⟩, by dsimp only; omega⟩
    rw [htk, encode_append]
    have : encode [ls[i]] = one ls[i] := by simp [encode]
    rw [this]
    exact hb2
  · have hx : i = ls.length := by have := of_decide_eq_false hx; omega
    rw [hx, List.take_length] at hb1
    exact ⟨rfl, _, _, hb1, hs1⟩
set_option maxRecDepth 10000 in
theorem encode_spec (he : Env w) {l : Option Addr} {lL lC : Nat} {ls : List Txt} (hl : StrsAt w l lL ls) (ht : total ls ≤ 100000) :
    Calls Tryz.prog fn_tuple_Encode #[.slice l lL lC] w (fun e w' => e = .returned (.string (S (encode ls))) ∧ Still w w') := by
  refine tuple_Encode_calls _ _ _ _ _ ?_
  refine allocK fun w1 hr1 hs1 hz1 => ?_
  refine (fold_spec (B := w1.heap.size) he hs1 (BldAt.fresh hr1 rfl rfl) rfl (Nat.le_refl _) (by omega) (Nat.le_refl _) hl ht).mono ?_
  rintro _ w2 ⟨rfl, cs2, v2, hb2, hs2⟩
  refine .inl ⟨_, rfl, ?_⟩
  have hel := encode_len (few_nine ht)
  refine (string_spec hb2 (by omega)).mono ?_
  rintro _ w3 ⟨rfl, hm3⟩
  refine .inl ⟨_, rfl, rfl, Mod.trans hs2 hm3 (fun _ h => h) (fun i hi e => ?_)⟩
  have := hb2.own.ownLt e
  omega
theorem numR_none {s : Txt} (h : ¬ (s ≠ [] ∧ s.length ≤ 9 ∧ s.all isDig = true ∧ (s.head? = some 48 → s.length = 1))) : numR s = none := by unfold numR; rw [if_neg h]
theorem refnumber_spec (s : Txt) (hs : s.length ≤ 1000000) :
    Calls Tryz.prog fn_ref02_Number #[.string (S s)] w (fun e w' => e = .returned (.int .i64 (match numR s with | some n => (n : Int) | none => -1)) ∧ w' = w) := by
  refine ref02_Number_calls _ _ _ ?_
  have fail : ∀ {w1 : World}, numR s = none → w1 = w → (Ending.returned (.int .i64 (-1))) = .returned (.int .i64 (match numR s with | some n => (n : Int) | none => -1)) ∧ w1 = w := by
    intro w1 h hw
    rw [h]
    exact ⟨rfl, hw⟩
  refine ⟨fun w1 => w1 = w ∧ s ≠ [] ∧ s.length ≤ 9 ∧ (s.head? = some 48 → s.length = 1), ⟨fun q w1 => w1 = w ∧ (q = true → numR s = none) ∧ (q = false → s ≠ [] ∧ s.length ≤ 9 ∧ (s.head? = some 48 → s.length = 1)), ?_, ?_⟩, ?_⟩
  · refine bsel_of (fun h => ?_) (fun h => ?_)
    · have h := of_decide_eq_true h
      exact ⟨rfl, fun _ => numR_none fun k => k.1 h, fun h => by cases h⟩
    have h0 : s ≠ [] := of_decide_eq_false h
    refine bsel_of (fun h => ?_) (fun h => ?_)
    · have h := of_decide_eq_true h
      exact ⟨rfl, fun _ => numR_none fun k => by have := k.2.1; omega, fun h => by cases h⟩
    have h9 : s.length ≤ 9 := by have := of_decide_eq_false h; omega
    cases s with
    | nil => exact absurd rfl h0
    | cons c t =>
      refine ⟨by decide, c, rfl, bsel_of (fun h1 => ?_) (fun h1 => ?_)⟩
      · have h1 : c = 48 := (byte_eq (b := 48)).1 (of_decide_eq_true h1)
        subst h1
        refine ⟨rfl, fun h => numR_none fun k => ?_, fun h => ⟨h0, h9, fun _ => ?_⟩⟩
        · have := k.2.2.2 rfl
          have := of_decide_eq_true h
          omega
        · have h := of_decide_eq_false h
          simp only [List.length_cons] at h ⊢
          omega
      · have h1 : c ≠ 48 := fun e => of_decide_eq_false h1 ((byte_eq (b := 48)).2 e)
        exact ⟨rfl, (fun h => by cases h), fun _ => ⟨h0, h9, fun e => absurd (by simpa using e) h1⟩⟩
  · rintro q _ w1 ⟨rfl, h1, h2⟩
    exact bsel_of (fun h => fail (h1 h) rfl) (fun h => ⟨rfl, h2 h⟩)
  rintro _ w2 ⟨rfl, hne, h9, hhead⟩
  refine ⟨fun n i w3 => ∃ k : Nat, i = (k : Int) ∧ k ≤ s.length ∧ n = ((valD (s.take k) 0 : Nat) : Int) ∧ (s.take k).all isDig = true ∧ w3 = w2, fun _ i _ => s.length - i.toNat, ⟨0, rfl, Nat.zero_le _, rfl, rfl, rfl⟩, ?_⟩
  rintro _ _ _ w3 ⟨k, rfl, hk, rfl, hd, rfl⟩
  refine bsel_of (fun hx => ?_) (fun hx => ?_)
  · have hx : k < s.length := by have := of_decide_eq_true hx; omega
    have e1 : IntKind.i64.wrap ((k : Int) + 1) = ((k + 1 : Nat) : Int) := by rw [wrap_i64 (by omega) (by omega)]; omega
    have hsk := getD_some hx
    have htk := take_snoc hx
    have hb := valD_bound hd 0
    have hp : 10 ^ (s.take k).length ≤ 1000000000 := Nat.le_trans (Nat.pow_le_pow_right (by decide) (show (s.take k).length ≤ 9 by rw [List.length_take]; omega)) (by decide)
    have hmem : s[k] ∈ s := List.getElem_mem hx
    generalize s[k] = c at *
    have no : isDig c = false → numR s = none := fun h => numR_none fun q => by rw [List.all_eq_true.1 q.2.2.1 _ hmem] at h; cases h
    refine ⟨by omega, c, by rw [Int.toNat_natCast]; exact hsk, bsel_of (fun h1 => ?_) (fun h1 => ?_)⟩
    · have h1 := of_decide_eq_true h1
      exact fail (no (by unfold isDig; rw [decide_eq_false (by omega)]; rfl)) rfl
    have h1 := of_decide_eq_false h1
    refine ⟨by omega, c, by rw [Int.toNat_natCast]; exact hsk, bsel_of (fun h2 => ?_) (fun h2 => ?_)⟩
    · have h2 := of_decide_eq_true h2
      exact fail (no (by unfold isDig; rw [decide_eq_false (p := c.toNat ≤ 57) (by omega), Bool.and_false])) rfl
    have h2 := of_decide_eq_false h2
    have hdc : isDig c = true := by unfold isDig; rw [decide_eq_true (by omega), decide_eq_true (by omega)]; rfl
    refine ⟨by omega, c, by rw [Int.toNat_natCast]; exact hsk, ?_⟩
    have e2 : IntKind.i64.wrap (IntKind.i64.wrap (IntKind.i64.wrap (((valD (s.take k) 0 : Nat) : Int) * 10) + IntKind.i64.wrap (c.toNat : Int)) - 48) = ((valD (s.take (k + 1)) 0 : Nat) : Int) := by
      rw [htk, valD_snoc]
      have hc := c.toNat_lt
      generalize valD (s.take k) 0 = q at *
      rw [wrap_i64 (n := (q : Int) * 10) (by omega) (by omega), wrap_i64 (n := (c.toNat : Int)) (by omega) (by omega), wrap_i64 (n := (q : Int) * 10 + (c.toNat : Int)) (by omega) (by omega), wrap_i64 (by omega) (by omega)]
      omega
    rw [e1, e2]
    refine ⟨⟨k + 1, rfl, hx, rfl, ?_, rfl⟩, by dsimp only; omega⟩
    rw [htk, List.all_append, hd]
    simp [hdc]
  · have hx : k = s.length := by have := of_decide_eq_false hx; omega
    rw [hx, List.take_length] at hd ⊢
    have : numR s = some (valD s 0) := by unfold numR; rw [if_pos ⟨hne, h9, hd, hhead⟩]
    rw [this]
    exact ⟨rfl, rfl⟩
set_option maxRecDepth 10000 in
theorem refdecode_spec (s : Txt) (hs : s.length ≤ 1000000) :
    Calls Tryz.prog fn_ref02_Decode #[.string (S s)] w (fun e w' => (∃ p n C k, e = .returned (.tuple #[.slice p n C, .int .i64 k]) ∧ DecAs s w' p n k) ∧ Still w w') := by
  refine ref02_Decode_calls _ _ _ ?_
  refine ⟨fun s1 l lL lC w1 => ∃ (acc : List Txt) (f : Nat), lL = acc.length ∧ decode s = decT f s1 acc ∧ s1.length < f ∧ acc.length + s1.length ≤ s.length ∧ Owns w1 w.heap.size 9 1 (.slice l lL lC) lL (strs acc) ∧ Still w w1, fun s1 _ _ _ _ => s1.length,
    ⟨[], s.length + 1, rfl, rfl, Nat.lt_succ_self _, by simp, Owns.nil _ _ _ _, Still.refl _⟩, ?_⟩
  rintro s1 l _ lC _ w1 ⟨acc, f, rfl, hd, hf, hal, ho, hst⟩
  cases f with
  | zero => omega
  | succ f =>
  simp only [decT] at hd
  refine bsel_of (fun h => ?_) (fun h => ?_)
  rotate_left
  · have hne : s1 = [] := by have := of_decide_eq_false h; exact List.eq_nil_of_length_eq_zero (by omega)
    rw [if_pos hne] at hd
    exact ⟨⟨_, _, _, _, rfl, acc, StrsAt.of ho, .inl ⟨rfl, hd⟩⟩, hst⟩
  have hne : s1 ≠ [] := by have := of_decide_eq_true h; intro e; rw [e] at this; exact absurd this (by decide)
  rw [if_neg hne] at hd
  have hcl := colon_le s1
  have fail : ∀ {w3 : World}, Still w w3 → step s1 = none → (∃ p n C k, (Ending.returned (.tuple #[.slice none 0 0, .int .i64 20])) = .returned (.tuple #[.slice p n C, .int .i64 k]) ∧ DecAs s w3 p n k) ∧ Still w w3 := by
    intro w3 hst3 h
    rw [h] at hd
    exact ⟨⟨_, _, _, _, rfl, DecAs.bad hd w3⟩, hst3⟩
  refine ⟨fun k w2 => ∃ j : Nat, k = (j : Int) ∧ j ≤ colon s1 ∧ w2 = w1, fun k _ => s1.length - k.toNat, ⟨0, rfl, Nat.zero_le _, rfl⟩, ?_⟩
  rintro _ _ w2 ⟨j, rfl, hj, rfl⟩
  refine ⟨fun q w3 => w3 = w2 ∧ q = decide (j < colon s1), ?_, ?_⟩
  · refine bsel_of (fun hx => ?_) (fun hx => ?_)
    · have hx : j < s1.length := by have := of_decide_eq_true hx; omega
      refine ⟨by omega, _, by rw [Int.toNat_natCast]; exact getD_some hx, rfl, ?_⟩
      by_cases hjc : j < colon s1
      · obtain ⟨c, hc, h58⟩ := colon_at hjc
        rw [getD_some hx] at hc
        rw [Option.some.inj hc, decide_eq_true hjc, decide_eq_false (p := (c.toNat : Int) = 58) (fun e => h58 ((byte_eq (b := 58)).1 e))]
        rfl
      · have hjc2 : j = colon s1 := by omega
        have h58 := colon_hit (s := s1) (by omega)
        rw [← hjc2, getD_some hx] at h58
        rw [Option.some.inj h58, decide_eq_false hjc]
        rfl
    · have hx := of_decide_eq_false hx
      exact ⟨rfl, by rw [decide_eq_false]; omega⟩
  rintro _ _ w3 ⟨rfl, rfl⟩
  refine bsel_of (fun hjc => ?_) (fun hjc => ?_)
  · have hjc := of_decide_eq_true hjc
    have e1 : IntKind.i64.wrap ((j : Int) + 1) = ((j + 1 : Nat) : Int) := by rw [wrap_i64 (by omega) (by omega)]; omega
    rw [e1]
    exact ⟨⟨j + 1, rfl, hjc, rfl⟩, by first | omega | (dsimp only; omega)⟩
  have hjc : j = colon s1 := by have := of_decide_eq_false hjc; omega
  subst hjc
  refine ⟨by omega, by omega, ?_⟩
  rw [Int.toNat_natCast]
  refine (refnumber_spec _ (by rw [List.length_take]; omega)).mono ?_
  rintro _ w4 ⟨rfl, rfl⟩
  refine .inl ⟨_, rfl, ?_⟩
  unfold step at fail hd
  cases hn : numR (s1.take (colon s1)) with
  | none =>
    rw [hn] at fail
    exact bsel_of (fun _ => fail hst rfl) (fun h => absurd h (by decide))
  | some n =>
  rw [hn] at fail hd
  dsimp only at fail hd ⊢
  have hn9 := numR_lt hn
  refine bsel_of (fun h => by have := of_decide_eq_true h; omega) (fun _ => ?_)
  have e1 : IntKind.i64.wrap (IntKind.i64.wrap ((n : Int) + (colon s1 : Int)) + 2) = ((colon s1 + 2 + n : Nat) : Int) := by rw [wrap_i64 (n := (n : Int) + _) (by omega) (by omega), wrap_i64 (by omega) (by omega)]; omega
  have e2 : IntKind.i64.wrap (IntKind.i64.wrap ((n : Int) + (colon s1 : Int)) + 1) = ((colon s1 + 1 + n : Nat) : Int) := by rw [wrap_i64 (n := (n : Int) + _) (by omega) (by omega), wrap_i64 (by omega) (by omega)]; omega
  have e3 : IntKind.i64.wrap ((colon s1 : Int) + 1) = ((colon s1 + 1 : Nat) : Int) := by rw [wrap_i64 (by omega) (by omega)]; omega
  rw [e1, e2, e3]
  refine bsel_of (fun h1 => ?_) (fun h1 => ?_)
  · have h1 := of_decide_eq_true h1
    refine fail hst (if_neg fun e => ?_)
    have := (List.getElem?_eq_some_iff.1 e).1
    omega
  have h1 := of_decide_eq_false h1
  have h1 : colon s1 + 1 + n < s1.length := by omega
  refine ⟨by omega, _, by rw [Int.toNat_natCast]; exact getD_some h1, bsel_of (fun h2 => ?_) (fun h2 => ?_)⟩
  · refine fail hst (if_neg fun e => ?_)
    rw [getD_some h1] at e
    rw [Option.some.inj e] at h2
    exact absurd h2 (by decide)
  have h2 : s1[colon s1 + 1 + n]? = some 44 := by
    rw [getD_some h1]
    congr 1
    exact (byte_eq (b := 44)).1 (nd h2)
  have hstep : step s1 = some ((s1.drop (colon s1 + 1)).take n, s1.drop (colon s1 + 2 + n)) := by
    unfold step
    rw [hn]
    dsimp only
    rw [if_pos h2]
  rw [if_pos h2] at hd
  dsimp only at hd
  have hf2 := step_form hstep
  rw [Int.toNat_natCast, Int.toNat_natCast, Int.toNat_natCast, show colon s1 + 1 + n - (colon s1 + 1) = n by omega]
  refine ⟨by omega, by omega, by omega, push1 ho (by have := hst.size; omega) rfl (fun u hu => by simp at hu; subst hu; rfl) (by omega) (by omega) fun p' c' w5 ho5 hm5 => ?_⟩
  refine ⟨by omega, by omega, ?_⟩
  refine ⟨⟨acc ++ [(s1.drop (colon s1 + 1)).take n], f, by simp, hd, by omega, by simp only [List.length_append, List.length_cons, List.length_nil]; omega, ?_, ?_⟩, hf2.2.1⟩
  · rw [strs_append]
    exact ho5
  · exact Still.own hst ho (Nat.le_refl _) hm5
theorem refencode_spec {l : Option Addr} {lL lC : Nat} {ls : List Txt} (hl : StrsAt w l lL ls) (ht : total ls ≤ 100000) :
    Calls Tryz.prog fn_ref02_Encode #[.slice l lL lC] w (fun e w' => e = .returned (.string (S (encode ls))) ∧ Still w w') := by
  refine ref02_Encode_calls _ _ _ _ _ ?_
  have hn9 := few_nine ht
  have hlen := hl.1
  have htl := total_length ls
  refine ⟨fun out x w1 => ∃ (i : Nat), x = (i : Int) ∧ i ≤ lL ∧ out = encode (ls.take i) ∧ Still w w1, fun _ x _ => lL - x.toNat, ⟨0, rfl, Nat.zero_le _, rfl, Still.refl _⟩, ?_⟩
  rintro _ _ _ w1 ⟨i, rfl, hi, rfl, hs1⟩
  refine bsel_of (fun hx => ?_) (fun hx => ?_)
  · have hx : i < lL := by have := of_decide_eq_true hx; omega
    have e1 : IntKind.i64.wrap ((i : Int) + 1) = ((i + 1 : Nat) : Int) := by rw [wrap_i64 (by omega) (by omega)]; omega
    have hil : i < ls.length := by omega
    have htk := take_snoc hil
    have hmem : ls[i] ∈ ls := List.getElem_mem hil
    have hel := encode_len (l := ls.take i) (fun x hx => hn9 x (List.mem_of_mem_take hx))
    have htt := total_take_le ls i
    have hm := total_mem hmem
    obtain ⟨a, rfl, _⟩ := (hl.still hs1).get hx
    have hc : ∀ wq : World, Still w wq → wq.cell? (a.add i) = some (.string (S ls[i])) := by
      intro wq hq
      obtain ⟨a', ha, hc⟩ := (hl.still hq).get hx
      injection ha with ha
      rw [ha]
      exact hc
    refine ⟨fun wq => Still w wq, hs1.toDrew, by omega, by omega, _, fun wq hq => by rw [Int.toNat_natCast, Nat.mul_one]; exact hc wq hq, by omega, by omega, _, fun wq hq => by rw [Int.toNat_natCast, Nat.mul_one]; exact hc wq hq, ?_⟩
    refine (digits_spec ls[i].length (by omega)).mono ?_
    rintro _ w2 ⟨rfl, hs2⟩
    have hst2 := hs1.toDrew.trans hs2
    have hd9 := hn9 _ hmem
    have el1 : ([58] : List UInt8).length = 1 := rfl
    have el2 : ([44] : List UInt8).length = 1 := rfl
    refine .inl ⟨_, rfl, hst2, by omega, ?_⟩
    simp only [List.length_append, el1, el2]
    refine ⟨by omega, by omega, by omega, ?_⟩
    rw [e1]
    refine ⟨⟨i + 1, rfl, hx, ?_, hst2⟩, by first | omega | (dsimp only; omega)⟩
    rw [htk, encode_append]
    simp [encode, one]
  · have hx : i = ls.length := by have := of_decide_eq_false hx; omega
    rw [hx, List.take_length]
    exact ⟨rfl, hs1⟩
end Go.Proofs.YtkdlmkbpfdogcaaGreatDoor
namespace Go.Proofs.YtkdlmkbpfdogcaaGreatDoor
open Go.RowKit Vc
structure Tc where
  p : Txt
  b : Bool
  v : Txt
  deriving DecidableEq
structure Mo where
  k : Txt
  r : List Tc
  w : List Tc
  st : Int
  o : Txt
  e : Txt
  deriving DecidableEq
def flag (b : Bool) : Txt := if b then [49] else [48]
def tcs (l : List Tc) : List Txt := l.flatMap fun t => [t.p, flag t.b, t.v]
def readA : List Txt → List Tc → Option (List Tc)
  | [], acc => some acc
  | p :: f :: v :: r, acc => if f = [48] ∨ f = [49] then readA r (acc ++ [⟨p, decide (f = [49]), v⟩]) else none
  | _, _ => none
def readM (s : Txt) : Option (List Tc) := match decode s with
  | some l => readA l []
  | none => none
def mparts (m : Mo) : List Txt := [m.k, encode (tcs m.r), encode (tcs m.w), dec m.st.toNat, m.o, m.e]
def menc (m : Mo) : Txt := encode (mparts m)
def mof (k : Txt) (r w : Option (List Tc)) (n : Option Nat) (o e : Txt) : Option Mo := match r, w, n with
  | some r, some w, some n => some ⟨k, r, w, n, o, e⟩
  | _, _, _ => none
def mdec (s : Txt) : Option Mo := match decode s with
  | some [k, r, w, n, o, e] => mof k (readM r) (readM w) (numR n) o e
  | _ => none
def tw (l : List Tc) : Nat := (l.map fun t => 10 + t.p.length + t.v.length).sum
def Mo.wt (m : Mo) : Nat := 20 + m.k.length + m.o.length + m.e.length + tw m.r + tw m.w
def mw (l : List Mo) : Nat := (l.map Mo.wt).sum
structure Mo.Few (m : Mo) : Prop where
  s0 : 0 ≤ m.st
  s1 : m.st ≤ 255
  w : m.wt ≤ 600
def RightL (l : List Mo) : Prop := (∀ m ∈ l, 0 ≤ m.st ∧ m.st ≤ 255) ∧ mw l ≤ 600
theorem readA_none : ∀ (l : List Txt) (acc : List Tc), l.length % 3 ≠ 0 → readA l acc = none
  | [], _, h => absurd rfl h
  | [_], _, _ => rfl
  | [_, _], _, _ => rfl
  | p :: f :: v :: r, acc, h => by
    simp only [readA]
    split
    · exact readA_none r _ (by simp only [List.length_cons] at h; omega)
    · rfl
theorem readA_tcs : ∀ (l acc : List Tc), readA (tcs l) acc = some (acc ++ l)
  | [], acc => by simp [tcs, readA]
  | ⟨p, b, v⟩ :: l, acc => by
    have e : tcs (⟨p, b, v⟩ :: l) = p :: flag b :: v :: tcs l := by simp [tcs]
    have h := readA_tcs l (acc ++ [⟨p, b, v⟩])
    rw [e]
    simp only [readA]
    cases b
    · rw [if_pos (.inl rfl)]
      show readA (tcs l) (acc ++ [⟨p, false, v⟩]) = _
      rw [h, List.append_assoc]
      rfl
    · rw [if_pos (.inr rfl)]
      show readA (tcs l) (acc ++ [⟨p, true, v⟩]) = _
      rw [h, List.append_assoc]
      rfl
theorem flag_len (b : Bool) : (flag b).length = 1 := by cases b <;> rfl
theorem tw_cons (t : Tc) (l : List Tc) : tw (t :: l) = 10 + t.p.length + t.v.length + tw l := by simp [tw]
theorem tcs_cons (t : Tc) (l : List Tc) : tcs (t :: l) = t.p :: flag t.b :: t.v :: tcs l := by simp [tcs]
theorem tcs_append (l m : List Tc) : tcs (l ++ m) = tcs l ++ tcs m := by simp [tcs]
theorem tcs_len : ∀ l : List Tc, (tcs l).length = 3 * l.length
  | [] => rfl
  | t :: l => by
    have := tcs_len l
    rw [tcs_cons]
    simp only [List.length_cons]
    omega
theorem tcs_total : ∀ l : List Tc, total (tcs l) ≤ tw l ∧ 10 * l.length ≤ tw l
  | [] => ⟨Nat.le_refl _, Nat.le_refl _⟩
  | t :: l => by
    have h := tcs_total l
    rw [tcs_cons, tw_cons, total_cons, total_cons, total_cons, flag_len]
    simp only [List.length_cons]
    omega
theorem encode_len2 {l : List Txt} (h : ∀ x ∈ l, (dec x.length).length ≤ 9) : (encode l).length ≤ total l + 10 * l.length := by
  induction l with
  | nil => simp [encode]
  | cons x l ih =>
    rw [encode_cons, total_cons, List.length_append]
    have := ih (fun y hy => h y (by simp [hy]))
    have := h x (by simp)
    simp only [one, List.length_append, List.length_cons, List.length_nil]
    omega
theorem spell_len {l : List Tc} (h : tw l ≤ 600) : (encode (tcs l)).length ≤ tw l + 24 * l.length + 6 * l.length := by
  have h1 := tcs_total l
  have h2 := tcs_len l
  have h3 := encode_len2 (few_nine (l := tcs l) (by omega))
  omega
section
variable {m : Mo}
theorem Mo.Few.parts (h : m.Few) : total (mparts m) ≤ 20000 ∧ (menc m).length ≤ m.k.length + m.o.length + m.e.length + tw m.r + tw m.w + 30 * m.r.length + 30 * m.w.length + 75 := by
  have hw := h.w
  unfold Mo.wt at hw
  have h1 := spell_len (l := m.r) (by omega)
  have h2 := spell_len (l := m.w) (by omega)
  have h3 := (tcs_total m.r).2
  have h4 := (tcs_total m.w).2
  have hd : (dec m.st.toNat).length ≤ 9 := dec_len9 (by have := h.s1; omega)
  have ht : total (mparts m) = m.k.length + m.o.length + m.e.length + (encode (tcs m.r)).length + (encode (tcs m.w)).length + (dec m.st.toNat).length + 6 := by
    simp only [mparts, total_cons]
    simp only [total, List.map_nil, List.sum_nil]
    omega
  have h5 : total (mparts m) ≤ 20000 := by omega
  refine ⟨h5, ?_⟩
  have h6 := encode_len2 (few_nine (l := mparts m) (by omega))
  have h7 : (mparts m).length = 6 := rfl
  unfold menc
  omega
theorem Mo.Few.len (h : m.Few) : (menc m).length ≤ 5000 := by
  have h1 := h.parts.2
  have hw := h.w
  unfold Mo.wt at hw
  have h3 := (tcs_total m.r).2
  have h4 := (tcs_total m.w).2
  omega
theorem readM_spell {l : List Tc} (h : tw l ≤ 600) : readM (encode (tcs l)) = some l := by
  unfold readM
  rw [decode_encode (few_nine (by have := (tcs_total l).1; omega))]
  exact readA_tcs l []
theorem mdec_menc (h : m.Few) : mdec (menc m) = some m := by
  have hw := h.w
  unfold Mo.wt at hw
  unfold mdec menc
  rw [decode_encode (few_nine (by have := h.parts.1; omega))]
  show mof m.k (readM (encode (tcs m.r))) (readM (encode (tcs m.w))) (numR (dec m.st.toNat)) m.o m.e = some m
  rw [readM_spell (by omega), readM_spell (by omega), numR_dec (dec_len9 (by have := h.s1; omega))]
  have h0 := h.s0
  cases m with
  | mk k r w st o e =>
    show some (Mo.mk k r w ((st.toNat : Nat) : Int) o e) = _
    have : ((st.toNat : Nat) : Int) = st := Int.toNat_of_nonneg h0
    rw [this]
end
theorem mw_cons (m : Mo) (l : List Mo) : mw (m :: l) = m.wt + mw l := by simp [mw]
theorem mw_append (l l' : List Mo) : mw (l ++ l') = mw l + mw l' := by simp [mw]
theorem wt_le {l : List Mo} {m : Mo} (h : m ∈ l) : m.wt ≤ mw l := by
  induction l with
  | nil => cases h
  | cons x l ih =>
    rw [mw_cons]
    rcases List.mem_cons.1 h with rfl | h
    · omega
    · have := ih h
      omega
theorem RightL.few {l : List Mo} (h : RightL l) {m : Mo} (hm : m ∈ l) : m.Few := ⟨(h.1 m hm).1, (h.1 m hm).2, by have := wt_le hm; have := h.2; omega⟩
end Go.Proofs.YtkdlmkbpfdogcaaGreatDoor
namespace Go.Proofs.YtkdlmkbpfdogcaaGreatDoor
open Go.RowKit Vc
variable {w w0 : World}
def tcE : Enc Tc where
  sz := 3
  E := fun _ _ x cs => cs = [.string (S x.p), .bool x.b, .string (S x.v)]
  len := by rintro w F x cs rfl; rfl
  one := by
    rintro w F x cs rfl u hu
    simp only [List.mem_cons, List.not_mem_nil, or_false] at hu
    rcases hu with rfl | rfl | rfl <;> rfl
  turn := by rintro w w' F G x cs _ _ rfl; rfl
abbrev moC (x : Mo) (vr vw : Value) : List Value := [.string (S x.k), vr, vw, .int .i64 x.st, .string (S x.o), .string (S x.e)]
def moE : Enc Mo where
  sz := 6
  E := fun w F x cs => ∃ vr vw, cs = moC x vr vw ∧ tcE.At w F x.r vr ∧ tcE.At w F x.w vw
  len := by rintro w F x cs ⟨vr, vw, rfl, _⟩; rfl
  one := by
    rintro w F x cs ⟨vr, vw, rfl, h1, h2⟩ u hu
    simp only [List.mem_cons, List.not_mem_nil, or_false] at hu
    rcases hu with rfl | rfl | rfl | rfl | rfl | rfl <;> first | rfl | exact h1.one | exact h2.one
  turn := by rintro w w' F G x cs hF hw ⟨vr, vw, rfl, h1, h2⟩; exact ⟨vr, vw, rfl, h1.turn hF hw, h2.turn hF hw⟩
theorem pushN {w : World} {B : Nat} {e : TypeId} {sz bytes : Nat} {p : Option Addr} {n c m : Nat} {xs cs : List Value} {K : Option Addr → Nat → World → Prop} (ho : Owns w B e sz (.slice p n c) n xs) (hB : B ≤ w.heap.size)
    (hl : cs.length = m * sz) (h1 : ∀ u ∈ cs, u.oneCell' = true) (hs : n + m ≤ 9223372036854775807) (hb : (n + m) * bytes ≤ 140737488355328)
    (h : ∀ p' c' w', Owns w' B e sz (.slice p' (n + m) c') (n + m) (xs ++ cs) → Mod (fun k => (Value.slice p n c).ownBlock = some k) w w' → K p' c' w') :
    letW (w.alloc (.cells ⟨cs⟩ e)) (fun w2 => appK w2 e sz bytes p n c (some (Addr.mk w.heap.size 0 none)) m K) := by
  refine allocK fun w1 hr hst hz => ?_
  refine appK_push (ho.still hst) (by omega) cs (by omega) h1 (fun _ => ⟨_, rfl, fun j u hu => ?_⟩) hs hb fun p' c' w' ho' hm _ => h p' c' w' ho' (Mod.trans hst hm (fun _ h => h.elim) (fun _ _ h => h))
  rw [add_row, Nat.zero_add]
  exact hr.cellv (by simpa using hu)
theorem tcE_get {F : Nat → Prop} {l : List Tc} {p : Option Addr} {n c : Nat} (hl : tcE.At w F l (.slice p n c)) {i : Nat} {t : Tc} (ht : l[i]? = some t) : ∃ a, p = some a ∧ ∀ w', Still w w' → w'.cell? (a.add (i * 3)) = some (.string (S t.p)) ∧ w'.cell? ((a.add (i * 3)).add 1) = some (.bool t.b) ∧ w'.cell? ((a.add (i * 3)).add 2) = some (.string (S t.v)) := by
  obtain ⟨b, cs, rfl, _, rfl, hc⟩ := hl.get ht
  refine ⟨b, rfl, fun w' hm => ⟨?_, hm.cell (hc 1 _ rfl), hm.cell (hc 2 _ rfl)⟩⟩
  have := hm.cell (hc 0 _ rfl)
  exact this
theorem tcs_snoc {l : List Tc} {i : Nat} {t : Tc} (ht : l[i]? = some t) : strs (tcs (l.take (i + 1))) = strs (tcs (l.take i)) ++ [.string (S t.p), .string (S (flag t.b)), .string (S t.v)] := by
  obtain ⟨hi, rfl⟩ := List.getElem?_eq_some_iff.1 ht
  rw [take_snoc hi, tcs_append, strs_append]
  rfl
theorem spell_spec (he : Env w) {F : Nat → Prop} {l : List Tc} {p : Option Addr} {n c : Nat} (hl : tcE.At w F l (.slice p n c)) (ht : tw l ≤ 600) :
    Calls Tryz.prog fn_memo_spell #[.slice p n c] w (fun e w' => e = .returned (.string (S (encode (tcs l)))) ∧ Still w w') := by
  refine memo_spell_calls _ _ _ _ _ ?_
  obtain ⟨hn, _⟩ := hl.len
  have h60 := tcs_total l
  subst hn
  have e3 : IntKind.i64.wrap (3 * (l.length : Int)) = ((3 * l.length : Nat) : Int) := by rw [wrap_i64 (by omega) (by omega)]; omega
  unfold vc_memo_spell
  rw [e3, Int.toNat_natCast, Nat.mul_one]
  refine ⟨by decide, by omega, by omega, by omega, allocK (cs := (madeCells #[.string (S [])] (3 * l.length)).toList) fun w1 r1 s1 z1 => ?_⟩
  have hsz : (madeCells #[.string (S [])] (3 * l.length)).size = 3 * l.length := by rw [size_madeCells]
  have ho : Owns w1 w.heap.size 9 1 (.slice (some (Addr.mk w.heap.size 0 none)) 0 (3 * l.length)) 0 [] := ⟨rfl, .inr ⟨_, _, _, rfl, Nat.le_refl _, r1, Nat.zero_le _, Nat.le_trans (show 3 * l.length ≤ 200 by omega) (by decide), by rw [Nat.mul_one]; exact hsz, rfl⟩⟩
  refine ⟨fun out outL outC x w2 => ∃ i : Nat, x = (i : Int) ∧ i ≤ l.length ∧ outL = 3 * i ∧ Owns w2 w.heap.size 9 1 (.slice out outL outC) outL (strs (tcs (l.take i))) ∧ Still w w2, fun _ _ _ x _ => l.length - x.toNat, ⟨0, rfl, Nat.zero_le _, rfl, ho, s1⟩, ?_⟩
  rintro out _ outC _ _ w2 ⟨i, rfl, hi, rfl, o2, s2⟩
  refine bsel_of (fun hx => ?_) (fun hx => ?_)
  · have hx : i < l.length := by have := of_decide_eq_true hx; omega
    have hli := getD_some hx
    obtain ⟨a, rfl, hc⟩ := tcE_get hl hli
    have hsn := tcs_snoc hli
    generalize l[i] = t at *
    obtain ⟨c0, c1, c2⟩ := hc w2 s2
    have z2 := s2.size
    refine ⟨by omega, by omega, t.p, t.b, t.v, by rw [Int.toNat_natCast]; exact c0, by rw [Int.toNat_natCast]; exact c1, by rw [Int.toNat_natCast]; exact c2, boxK rfl (by simp [Value.oneCell']) fun w4 r4 s4 z4 => ⟨_, r4.lget rfl, ?_⟩⟩
    have o4 := o2.still s4
    have next : ∀ {f : Txt}, f = flag t.b → ∀ (p' : Option Addr) (c' : Nat) (w' : World), Owns w' w.heap.size 9 1 (.slice p' (3 * i + 3) c') (3 * i + 3) (strs (tcs (l.take i)) ++ [.string (S t.p), .string (S f), .string (S t.v)]) → Mod (fun k => (Value.slice out (3 * i) outC).ownBlock = some k) w4 w' →
        (∃ i' : Nat, IntKind.i64.wrap ((i : Int) + 1) = (i' : Int) ∧ i' ≤ l.length ∧ 3 * i + 3 = 3 * i' ∧ Owns w' w.heap.size 9 1 (.slice p' (3 * i + 3) c') (3 * i + 3) (strs (tcs (l.take i'))) ∧ Still w w') ∧ l.length - (IntKind.i64.wrap ((i : Int) + 1)).toNat < l.length - (i : Int).toNat := by
      rintro f rfl p' c' w' o5 m5
      rw [wrap_i64 (by omega) (by omega)]
      exact ⟨⟨i + 1, by omega, hx, by omega, by rw [hsn]; exact o5, (s2.trans s4).own o4 (Nat.le_refl _) m5⟩, by omega⟩
    refine bsel_of (fun hb => ?_) (fun hb => ?_)
    · exact ⟨_, r4.lget rfl, _, r4.lget rfl, pushN o4 (by omega) rfl (by simp [Value.oneCell']) (by omega) (by omega) (next (by rw [hb]; rfl))⟩
    · exact ⟨_, r4.lget rfl, _, r4.lget rfl, pushN o4 (by omega) rfl (by simp [Value.oneCell']) (by omega) (by omega) (next (by rw [hb]; rfl))⟩
  · have hx : i = l.length := by have := of_decide_eq_false hx; omega
    subst hx
    rw [List.take_length] at o2
    refine (encode_spec (he.still s2) (StrsAt.of o2) (by omega)).mono ?_
    rintro _ w3 ⟨rfl, s3⟩
    exact .inl ⟨_, rfl, rfl, s2.trans s3⟩
theorem touches_spec {F : Nat → Prop} {l : List Tc} {p : Option Addr} {n c : Nat} (hl : tcE.At w F l (.slice p n c)) (ht : tw l ≤ 600) :
    Calls Tryz.prog fn_ref19_touches #[.slice p n c] w (fun e w' => e = .returned (.string (S (encode (tcs l)))) ∧ Still w w') := by
  refine ref19_touches_calls _ _ _ _ _ ?_
  obtain ⟨hn, _⟩ := hl.len
  have h60 := tcs_total l
  subst hn
  refine ⟨fun out outL outC x w2 => ∃ i : Nat, x = (i : Int) ∧ i ≤ l.length ∧ outL = 3 * i ∧ Owns w2 w.heap.size 9 1 (.slice out outL outC) outL (strs (tcs (l.take i))) ∧ Still w w2, fun _ _ _ x _ => l.length - x.toNat, ⟨0, rfl, Nat.zero_le _, rfl, Owns.nil _ _ _ _, Still.refl _⟩, ?_⟩
  rintro out _ outC _ _ w2 ⟨i, rfl, hi, rfl, o2, s2⟩
  refine bsel_of (fun hx => ?_) (fun hx => ?_)
  · have hx : i < l.length := by have := of_decide_eq_true hx; omega
    have hli := getD_some hx
    obtain ⟨a, rfl, hc⟩ := tcE_get hl hli
    have hsn := tcs_snoc hli
    generalize l[i] = t at *
    obtain ⟨c0, c1, c2⟩ := hc w2 s2
    refine ⟨fun f w3 => f = flag t.b ∧ w3 = w2, ⟨by omega, by omega, _, by rw [Int.toNat_natCast]; exact c1, bsel_of (fun hb => ⟨by rw [hb]; rfl, rfl⟩) (fun hb => ⟨by rw [hb]; rfl, rfl⟩)⟩, ?_⟩
    rintro _ _ w2 ⟨rfl, rfl⟩
    have z2 := s2.size
    refine ⟨fun wq => Still w wq, s2.toDrew, by omega, by omega, _, fun wq hq => by rw [Int.toNat_natCast]; exact (hc wq hq).1, by omega, by omega, _, fun wq hq => by rw [Int.toNat_natCast]; exact (hc wq hq).2.2, ?_⟩
    have oD := o2.still (Still.refl w2).toDrew
    refine pushN oD z2 rfl (by simp [Value.oneCell']) (by omega) (by omega) fun p' c' w' o5 m5 => ?_
    rw [wrap_i64 (by omega) (by omega)]
    exact ⟨⟨i + 1, by omega, hx, by omega, by rw [hsn]; exact o5, s2.toDrew.own oD (Nat.le_refl _) m5⟩, by dsimp only; omega⟩
  · have hx : i = l.length := by have := of_decide_eq_false hx; omega
    subst hx
    rw [List.take_length] at o2
    refine (refencode_spec (StrsAt.of o2) (by omega)).mono ?_
    rintro _ w3 ⟨rfl, s3⟩
    exact .inl ⟨_, rfl, rfl, s2.trans s3⟩
theorem tail13_spec : ∀ (n : Nat), n < 1000000000000 → ∀ w : World, Calls Tryz.prog fn_ref13_tail #[.int .i64 (n : Int)] w (fun e w' => e = .returned (.string (S (dec n))) ∧ Still w w') := by
  intro n
  induction n using Nat.strongRecOn with
  | _ n ih =>
  intro hn w
  refine ref13_tail_calls _ _ _ ?_
  have ed : Int.tmod (n : Int) 10 = ((n % 10 : Nat) : Int) := tmod_nat n 10
  have eq : Int.tdiv (n : Int) 10 = ((n / 10 : Nat) : Int) := (Int.ofNat_tdiv n 10).symm
  have ew : IntKind.u8.wrap (IntKind.i64.wrap (48 + ((n % 10 : Nat) : Int))) = ((UInt8.ofNat (48 + n % 10)).toNat : Int) := by
    rw [wrap_i64 (by omega) (by omega), wrap_u8 (by omega) (by omega)]
    rw [UInt8.toNat_ofNat']
    omega
  refine ⟨by decide, bsel_of (fun h => ?_) (fun _ => allocK fun w1 hr1 hs1 hz1 => ?_)⟩
  · have := of_decide_eq_true h
    rw [ed] at this
    omega
  rw [ed, ew] at hr1
  refine ⟨[UInt8.ofNat (48 + n % 10)], Row.bytes (l := [UInt8.ofNat (48 + n % 10)]) hr1 rfl, by decide, ?_⟩
  rw [eq, wrap_i64 (by omega) (by omega)]
  refine bsel_of (fun h => ?_) (fun h => ?_)
  · have h : n < 10 := by have := of_decide_eq_true h; omega
    rw [dec_small h, Nat.mod_eq_of_lt h]
    exact ⟨rfl, hs1⟩
  · have h : ¬ n < 10 := by have := of_decide_eq_false h; omega
    refine ⟨by decide, (ih (n / 10) (by omega) (by omega) w1).mono ?_⟩
    rintro _ w2 ⟨rfl, hs2⟩
    have hl := dec_len_le (n / 10)
    refine .inl ⟨_, rfl, by simp only [List.length_cons, List.length_nil]; omega, ?_, hs1.trans hs2⟩
    rw [dec_step h]
theorem digits13_spec (n : Nat) (hn : n < 1000000000000) : Calls Tryz.prog fn_ref13_Digits #[.int .i64 (n : Int)] w (fun e w' => e = .returned (.string (S (dec n))) ∧ Still w w') := by
  refine ref13_Digits_calls _ _ _ ?_
  refine bsel_of (fun h => ?_) (fun _ => (tail13_spec n hn w).mono ?_)
  · have := of_decide_eq_true h
    omega
  rintro _ w1 ⟨rfl, s1⟩
  exact .inl ⟨_, rfl, rfl, s1⟩
theorem moE_outs {F : Nat → Prop} {x : Mo} {cs : List Value} (h : moE.E w F x cs) : ∃ pr cr pw cw, cs = moC x (.slice pr x.r.length cr) (.slice pw x.w.length cw) ∧ tcE.At w F x.r (.slice pr x.r.length cr) ∧ tcE.At w F x.w (.slice pw x.w.length cw) := by
  obtain ⟨vr, vw, rfl, h1, h2⟩ := h
  obtain ⟨pr, cr, rfl⟩ := h1.form
  obtain ⟨pw, cw, rfl⟩ := h2.form
  exact ⟨pr, cr, pw, cw, rfl, h1, h2⟩
theorem itoa_nat (he : Env w) (n : Int) (h0 : 0 ≤ n) (h1 : n ≤ 255) : Calls Tryz.prog fn_strconv_Itoa #[.int .i64 n] w (fun e w' => e = .returned (.string (S (dec n.toNat))) ∧ Still w w') := by
  refine (itoa_spec he n (by omega) (by omega)).mono ?_
  rintro _ w1 ⟨rfl, s1⟩
  refine ⟨?_, s1⟩
  unfold Lib.itoa
  rw [if_neg (by omega)]
theorem mencode_spec (he : Env w) {F : Nat → Prop} {x : Mo} {pr pw : Option Addr} {cr cw : Nat} (h1 : tcE.At w F x.r (.slice pr x.r.length cr)) (h2 : tcE.At w F x.w (.slice pw x.w.length cw)) (hf : x.Few) :
    Calls Tryz.prog fn_memo_Encode #[.agg ⟨moC x (.slice pr x.r.length cr) (.slice pw x.w.length cw)⟩] w (fun e w' => e = .returned (.string (S (menc x))) ∧ Still w w') := by
  refine memo_Encode_calls _ _ _ _ _ _ _ _ _ _ _ _ ?_
  have hw := hf.w
  unfold Mo.wt at hw
  refine allocK fun w1 r1 s1 z1 => ?_
  have s1D := s1.toDrew
  have r1D := r1.still (Still.refl w1).toDrew
  refine ⟨fun wq => Row wq w.heap.size _ _, r1D, _, fun wq hq => hq.lget rfl, _, _, _, fun wq hq => hq.lget rfl, _, _, _, fun wq hq => hq.lget rfl, _, fun wq hq => hq.lget rfl, _, fun wq hq => hq.lget rfl, _, fun wq hq => hq.lget rfl, (spell_spec (he.still s1D) (h1.still s1D) (by omega)).mono ?_⟩
  rintro _ w2 ⟨rfl, s2⟩
  have s02 := s1D.trans s2
  refine .inl ⟨_, rfl, r1D.still s2, (spell_spec (he.still s02) (h2.still s02) (by omega)).mono ?_⟩
  rintro _ w3 ⟨rfl, s3⟩
  have s03 := s02.trans s3
  refine .inl ⟨_, rfl, (r1D.still s2).still s3, (itoa_nat (he.still s03) x.st hf.s0 hf.s1).mono ?_⟩
  rintro _ w4 ⟨rfl, s4⟩
  have s04 := s03.trans s4
  refine .inl ⟨_, rfl, ((r1D.still s2).still s3).still s4, allocK fun w5 r5 s5 z5 => ?_⟩
  refine (encode_spec (he.still (s04.trans s5)) (StrsAt.row (l := mparts x) r5) (by have := hf.parts.1; omega)).mono ?_
  rintro _ w6 ⟨rfl, s6⟩
  exact .inl ⟨_, rfl, rfl, (s04.trans s5).trans s6⟩
theorem rencode_spec {F : Nat → Prop} {x : Mo} {pr pw : Option Addr} {cr cw : Nat} (h1 : tcE.At w F x.r (.slice pr x.r.length cr)) (h2 : tcE.At w F x.w (.slice pw x.w.length cw)) (hf : x.Few) :
    Calls Tryz.prog fn_ref19_Encode #[.agg ⟨moC x (.slice pr x.r.length cr) (.slice pw x.w.length cw)⟩] w (fun e w' => e = .returned (.string (S (menc x))) ∧ Still w w') := by
  refine ref19_Encode_calls _ _ _ _ _ _ _ _ _ _ _ _ ?_
  have hw := hf.w
  unfold Mo.wt at hw
  have es : x.st = ((x.st.toNat : Nat) : Int) := by have := hf.s0; omega
  refine allocK fun w1 r1 s1 z1 => ?_
  have s1D := s1.toDrew
  have r1D := r1.still (Still.refl w1).toDrew
  refine ⟨fun wq => Row wq w.heap.size _ _, r1D, _, fun wq hq => hq.lget rfl, _, _, _, fun wq hq => hq.lget rfl, _, _, _, fun wq hq => hq.lget rfl, _, fun wq hq => hq.lget rfl, _, fun wq hq => hq.lget rfl, _, fun wq hq => hq.lget rfl, (touches_spec (h1.still s1D) (by omega)).mono ?_⟩
  rintro _ w2 ⟨rfl, s2⟩
  have s02 := s1D.trans s2
  refine .inl ⟨_, rfl, r1D.still s2, (touches_spec (h2.still s02) (by omega)).mono ?_⟩
  rintro _ w3 ⟨rfl, s3⟩
  have s03 := s02.trans s3
  have hd := digits13_spec (w := w3) x.st.toNat (by have := hf.s1; omega)
  rw [← es] at hd
  refine .inl ⟨_, rfl, (r1D.still s2).still s3, hd.mono ?_⟩
  rintro _ w4 ⟨rfl, s4⟩
  have s04 := s03.trans s4
  refine .inl ⟨_, rfl, ((r1D.still s2).still s3).still s4, allocK fun w5 r5 s5 z5 => ?_⟩
  refine (refencode_spec (StrsAt.row (l := mparts x) r5) (by have := hf.parts.1; omega)).mono ?_
  rintro _ w6 ⟨rfl, s6⟩
  exact .inl ⟨_, rfl, rfl, (s04.trans s5).trans s6⟩
end Go.Proofs.YtkdlmkbpfdogcaaGreatDoor
namespace Go.Proofs.YtkdlmkbpfdogcaaGreatDoor
open Go.RowKit Vc
def cnt (n : Nat) : Nat := (n + 63) / 64
def hd (m : UInt8) (n : Nat) (t : Txt) : Txt := m :: encode [dec n, dec t.length, (sha t).take 16]
def trimZ (s : Txt) : Txt := Lib.trimRightB s 0
def sec (s : St) (k : Nat) : Txt := if k < s.n then rowF s.F (k * 64) 64 else []
def sizeN (b : Option Nat) : Option Nat := match b with
  | some n => if n ≤ 100000 then some n else none
  | none => none
def sizeD (l : Option (List Txt)) : Option Nat := match l with
  | some [_, b, _] => sizeN (numR b)
  | _ => none
def sizeR (h : Txt) : Option Nat := match trimZ h with
  | [] => none
  | m :: r => if m = 49 then sizeD (decode r) else none
def readR (s : St) (at' n : Nat) : Option Txt := match sizeR (sec s at') with
  | none => none
  | some k => if s.n ≤ at' + cnt k then none else if hd 49 n (rowF s.F ((at' + 1) * 64) k) = trimZ (sec s at') then some (rowF s.F ((at' + 1) * 64) k) else none
def openF : Nat → St → List Txt → Nat → List Txt × Nat
  | 0, _, l, k => (l, k)
  | f + 1, s, l, k => match readR s k l.length with
    | none => (l, k)
    | some t => openF f s (l ++ [t]) (k + 1 + cnt t.length)
def openR (s : St) : List Txt × Nat := openF (s.n + 1) s [] 0
def chunks (k : Nat) (t : Txt) : List (Nat × Txt) := (List.range (cnt t.length)).map fun i => (k + i, (t.drop (i * 64)).take 64)
def wrs (s : St) (k n : Nat) (t : Txt) : List (Nat × Txt) :=
  (if k + 1 + cnt t.length < s.n then [(k + 1 + cnt t.length, [])] else []) ++ (k, hd 48 n t) :: (chunks (k + 1) t ++ [(k, hd 49 n t)])
def runW (s : St) : List (Nat × Txt) → Int × St
  | [] => (0, s)
  | (k, x) :: r => if (s.write k x).1 = 0 then runW (s.write k x).2 r else s.write k x
structure Js where
  s : St
  l : List Txt
  k : Nat
def Js.append (j : Js) (t : Txt) : Int × Js :=
  if 100000 < t.length then (2, j)
  else if j.s.n ≤ j.k + cnt t.length then (12, j)
  else if (runW j.s (wrs j.s j.k j.l.length t)).1 = 0 then (0, ⟨(runW j.s (wrs j.s j.k j.l.length t)).2, j.l ++ [t], j.k + 1 + cnt t.length⟩)
  else ((runW j.s (wrs j.s j.k j.l.length t)).1, ⟨(runW j.s (wrs j.s j.k j.l.length t)).2, j.l, j.k⟩)
def Js.clear (j : Js) : Int × Js := if (j.s.write 0 []).1 = 0 then (0, ⟨(j.s.write 0 []).2, [], 0⟩) else ((j.s.write 0 []).1, ⟨(j.s.write 0 []).2, j.l, j.k⟩)
def Js.opened (s : St) : Js := ⟨s, (openR s).1, (openR s).2⟩
structure Js.Ok (j : Js) : Prop where
  s : j.s.Ok
  k : j.k ≤ j.s.n
  l : j.l.length ≤ j.k
theorem cnt_le {n : Nat} (h : n ≤ 100000) : cnt n ≤ 1563 := by unfold cnt; omega
theorem sec_len (s : St) (k : Nat) : (sec s k).length ≤ 64 := by
  unfold sec
  split
  · simp
  · simp
theorem trimZ_len (s : Txt) : (trimZ s).length ≤ s.length := by
  have := (List.dropWhile_sublist (p := (· == (0 : UInt8))) (l := s.reverse)).length_le
  simpa [trimZ, Lib.trimRightB] using this
theorem sha_len (s : Txt) : (sha s).length = 64 := rfl
theorem hd_total (n : Nat) (t : Txt) (hn : n ≤ 5000) (ht : t.length ≤ 100000) : total [dec n, dec t.length, (sha t).take 16] ≤ 100000 := by
  have h1 := dec_len9 (n := n) (by omega)
  have h2 := dec_len9 (n := t.length) (by omega)
  simp only [total, List.map_cons, List.map_nil, List.sum_cons, List.sum_nil, List.length_take, sha_len]
  omega
theorem sizeR_le {h : Txt} {n : Nat} (e : sizeR h = some n) : n ≤ 100000 := by
  unfold sizeR at e
  split at e
  · cases e
  · split at e
    · unfold sizeD at e
      split at e
      · unfold sizeN at e
        split at e
        · split at e
          · injection e with e; omega
          · cases e
        · cases e
      · cases e
    · cases e
theorem readR_some {s : St} {k n : Nat} {t : Txt} (h : readR s k n = some t) : k + cnt t.length < s.n ∧ t.length ≤ 100000 := by
  unfold readR at h
  split at h
  · cases h
  · rename_i m hm
    split at h
    · cases h
    · split at h
      · obtain rfl := Option.some.inj h
        rw [rowF_length]
        exact ⟨by omega, sizeR_le hm⟩
      · cases h
theorem openF_ok : ∀ (f : Nat) (s : St) (l : List Txt) (k : Nat), k ≤ s.n → l.length ≤ k → (openF f s l k).2 ≤ s.n ∧ (openF f s l k).1.length ≤ (openF f s l k).2
  | 0, s, l, k, h1, h2 => ⟨h1, h2⟩
  | f + 1, s, l, k, h1, h2 => by
    simp only [openF]
    split
    · exact ⟨h1, h2⟩
    · rename_i t ht
      have := (readR_some ht).1
      exact openF_ok f s _ _ (by omega) (by simp; omega)
theorem Js.opened_ok {s : St} (h : s.Ok) : (Js.opened s).Ok := by
  obtain ⟨h1, h2⟩ := openF_ok (s.n + 1) s [] 0 (Nat.zero_le _) (Nat.le_refl _)
  exact ⟨h, h1, h2⟩
theorem write_ok {s : St} (h : s.Ok) (k : Int) (t : Txt) : (s.write k t).2.Ok ∧ (s.write k t).2.n = s.n := by
  have h0 := h.p0
  have h1 := h.p1
  unfold St.write
  split
  · split
    · exact ⟨⟨h.n1, h.n2, h0, h1, h.m0, h.m1⟩, rfl⟩
    · split
      · exact ⟨⟨h.n1, h.n2, by dsimp only [St.put]; omega, by dsimp only [St.put]; omega, h.m0, h.m1⟩, rfl⟩
      · exact ⟨⟨h.n1, h.n2, h0, h1, Int.le_refl _, by dsimp only; omega⟩, rfl⟩
  · exact ⟨h, rfl⟩
theorem runW_ok : ∀ (l : List (Nat × Txt)) {s : St}, s.Ok → (runW s l).2.Ok ∧ (runW s l).2.n = s.n
  | [], s, h => ⟨h, rfl⟩
  | (k, x) :: r, s, h => by
    obtain ⟨h1, h2⟩ := write_ok h k x
    simp only [runW]
    split
    · obtain ⟨h3, h4⟩ := runW_ok r h1
      exact ⟨h3, h4.trans h2⟩
    · exact ⟨h1, h2⟩
theorem Js.append_ok {j : Js} (h : j.Ok) (t : Txt) : (j.append t).2.Ok ∧ (j.append t).2.s.n = j.s.n := by
  obtain ⟨h1, h2⟩ := runW_ok (wrs j.s j.k j.l.length t) h.s
  have := h.k
  have := h.l
  unfold Js.append
  split
  · exact ⟨h, rfl⟩
  · split
    · exact ⟨h, rfl⟩
    · split
      · exact ⟨⟨h1, by dsimp only; omega, by dsimp only; simp; omega⟩, h2⟩
      · exact ⟨⟨h1, by dsimp only; omega, h.l⟩, h2⟩
end Go.Proofs.YtkdlmkbpfdogcaaGreatDoor
namespace Go.Proofs.YtkdlmkbpfdogcaaGreatDoor
open Go.RowKit Vc
variable {w w0 : World}
theorem cnt_wrap (n : Nat) (hn : n ≤ 1000000) : IntKind.i64.wrap (Int.tdiv (IntKind.i64.wrap ((IntKind.i64.wrap ((n : Int) + 64)) - 1)) 64) = (cnt n : Nat) := by
  rw [wrap_i64 (n := (n : Int) + 64) (by omega) (by omega), wrap_i64 (n := (n : Int) + 64 - 1) (by omega) (by omega)]
  have e : (n : Int) + 64 - 1 = ((n + 63 : Nat) : Int) := by omega
  rw [e, show (64 : Int) = ((64 : Nat) : Int) from rfl, ← Int.ofNat_tdiv, wrap_i64 (by omega) (by omega)]
  rfl
theorem sectors_spec (n : Nat) (hn : n ≤ 1000000) : Calls Tryz.prog fn_journal_sectors #[.int .i64 (n : Int)] w (fun e w' => e = .returned (.int .i64 (cnt n : Nat)) ∧ w' = w) := by
  refine journal_sectors_calls _ _ _ ?_
  exact ⟨by decide, by rw [cnt_wrap n hn], rfl⟩
theorem head_spec (he : Env w0) (h0 : Still w0 w) (m : UInt8) (n : Nat) (t : Txt) (hn : n ≤ 5000) (ht : t.length ≤ 100000) :
    Calls Tryz.prog fn_journal_head #[.string (S [m]), .int .i64 (n : Int), .string (S t)] w (fun e w' => e = .returned (.string (S (hd m n t))) ∧ Still w w') := by
  refine journal_head_calls _ _ _ _ _ ?_
  refine (itoa_spec (he.still h0) (n : Int) (by omega) (by omega)).mono ?_
  rintro _ w1 ⟨rfl, s1⟩
  rw [Lib.itoa_nonneg]
  refine .inl ⟨_, rfl, (itoa_spec (he.still (h0.trans s1)) (t.length : Int) (by omega) (by omega)).mono ?_⟩
  rintro _ w2 ⟨rfl, s2⟩
  rw [Lib.itoa_nonneg]
  refine .inl ⟨_, rfl, (sum_spec t (by omega)).mono ?_⟩
  rintro _ w3 ⟨rfl, s3⟩
  have s03 := (s1.trans s2).trans s3
  refine .inl ⟨_, rfl, by decide, by rw [sha_len]; decide, allocK fun w4 r4 s4 z4 => ?_⟩
  have s04 := s03.trans s4
  refine (encode_spec (he.still (h0.trans s04)) (ls := [dec n, dec t.length, (sha t).take 16]) (StrsAt.row (l := [dec n, dec t.length, (sha t).take 16]) r4) (hd_total n t hn ht)).mono ?_
  rintro _ w5 ⟨rfl, s5⟩
  have hl := encode_len (few_nine (hd_total n t hn ht))
  have hl2 := hd_total n t hn ht
  exact .inl ⟨_, rfl, by simp only [List.length_cons, List.length_nil]; omega, rfl, s04.trans s5⟩
theorem trim_spec (s : Txt) (hs : s.length ≤ 1000000) : Calls Tryz.prog fn_strings_TrimRight #[.string (S s), .string (S [0])] w (fun e w' => e = .returned (.string (S (trimZ s))) ∧ w' = w) :=
  Tryz.strings_TrimRight_one (S s) 0 (by decide) w (by show s.length ≤ _; omega)
def cutOne (s : Txt) : Txt := match s with
  | [] => []
  | m :: r => if m = 49 then r else m :: r
theorem cutOne_spec (s : Txt) : Calls Tryz.prog fn_strings_CutPrefix #[.string (S s), .string (S [49])] w (fun e w' => e = .returned (.tuple #[.string (S (cutOne s)), .bool (decide (s.head? = some 49))]) ∧ w' = w) := by
  refine (Tryz.strings_CutPrefix (S s) (S [49]) w).mono ?_
  rintro _ w' ⟨rfl, rfl⟩
  have e1 : Lib.hasPrefix (S s).data.toList (S [49]).data.toList = decide (s.head? = some 49) := by
    cases s with
    | nil => rfl
    | cons m r =>
      show Lib.hasPrefix (m :: r) [49] = _
      rw [Bool.eq_iff_iff]
      simp [Lib.hasPrefix]
      exact eq_comm
  have e2 : Lib.trimPrefix (S s).data.toList (S [49]).data.toList = cutOne s := by
    cases s with
    | nil => rfl
    | cons m r =>
      show Lib.trimPrefix (m :: r) [49] = _
      unfold Lib.trimPrefix cutOne
      by_cases h : m = 49
      · simp [Lib.hasPrefix, h]
      · simp [Lib.hasPrefix, h, Ne.symm h]
  rw [e1, e2]
  exact ⟨rfl, rfl⟩
def SizeAs (h : Txt) (m : Int) (ok : Bool) : Prop := match sizeR h with
  | some n => m = (n : Int) ∧ ok = true
  | none => ok = false
theorem size_spec (he : Env w0) (h0 : Still w0 w) (h : Txt) (hl : h.length ≤ 64) :
    Calls Tryz.prog fn_journal_size #[.string (S h)] w (fun e w' => (∃ (m : Int) (ok : Bool), e = .returned (.tuple #[.int .i64 m, .bool ok]) ∧ SizeAs h m ok) ∧ Still w w') := by
  refine journal_size_calls _ _ _ ?_
  refine (trim_spec h (by omega)).mono ?_
  rintro _ w1 ⟨rfl, rfl⟩
  have hz := trimZ_len h
  refine .inl ⟨_, rfl, (cutOne_spec (trimZ h)).mono ?_⟩
  rintro _ w2 ⟨rfl, rfl⟩
  have hcl : (cutOne (trimZ h)).length ≤ 64 := by
    unfold cutOne
    split
    · exact Nat.zero_le _
    · rename_i m r e
      rw [e] at hz
      simp only [List.length_cons] at hz
      split
      · omega
      · simp only [List.length_cons]; omega
  refine .inl ⟨_, _, rfl, (decode_spec (he.still h0) (cutOne (trimZ h)) (by omega)).mono ?_⟩
  rintro _ w3 ⟨⟨p, n, C, k, rfl, l, hst, hk⟩, s3⟩
  refine .inl ⟨_, _, _, _, rfl, ?_⟩
  have bad : ∀ {w' : World}, sizeR h = none → Still w2 w' → (∃ (m : Int) (ok : Bool), (Ending.returned (.tuple #[.int .i64 0, .bool false])) = .returned (.tuple #[.int .i64 m, .bool ok]) ∧ SizeAs h m ok) ∧ Still w2 w' := by
    intro w' e hs
    exact ⟨⟨_, _, rfl, by unfold SizeAs; rw [e]⟩, hs⟩
  by_cases h49 : (trimZ h).head? = some 49
  case neg =>
    rw [decide_eq_false h49]
    refine bad ?_ s3
    unfold sizeR
    split
    · rfl
    · rename_i m r e
      rw [e] at h49
      rw [if_neg (fun e => h49 (by simp [e]))]
  rw [decide_eq_true h49]
  obtain ⟨r, hr⟩ : ∃ r, trimZ h = 49 :: r := by
    cases e : trimZ h with
    | nil => rw [e] at h49; cases h49
    | cons m r => rw [e] at h49; exact ⟨r, by simpa using h49⟩
  have hcut : cutOne (trimZ h) = r := by rw [hr]; rfl
  rw [hcut] at hk
  have hsz : sizeR h = sizeD (decode r) := by
    unfold sizeR
    rw [hr]
    simp only [if_true]
  refine bsel_of (fun hx => by cases hx) (fun _ => ?_)
  refine bsel_of (fun hx => ?_) (fun hx => ?_)
  · refine bad ?_ s3
    rcases hk with ⟨rfl, _⟩ | ⟨_, _, hd⟩
    · simp at hx
    · rw [hsz, hd]; rfl
  have hk0 : k = 0 := by simpa using hx
  obtain ⟨_, hd⟩ : k = 0 ∧ decode r = some l := by
    rcases hk with h | ⟨h, _⟩
    · exact h
    · omega
  rw [hd] at hsz
  refine bsel_of (fun hx => ?_) (fun hx => ?_)
  · refine bad ?_ s3
    have hne : ¬ (n : Int) = 3 := by simpa using hx
    rw [hsz]
    unfold sizeD
    split
    · rename_i a b c e
      have := hst.1
      rw [Option.some.inj e] at this
      simp at this
      omega
    · rfl
  have hn3 : n = 3 := by
    have : (n : Int) = 3 := by simpa using hx
    omega
  subst hn3
  match l, hst.1 with
  | [x, b, y], _ =>
    obtain ⟨a, rfl, hc⟩ := hst.get (k := 1) (by decide)
    have hbl : b.length ≤ 1000000 := by
      have h1 := decode_total hd
      have h2 : r.length ≤ 64 := by rw [← hcut]; exact hcl
      simp only [total, List.map_cons, List.map_nil, List.sum_cons, List.sum_nil] at h1
      omega
    refine ⟨by decide, by decide, _, hc, (number_spec (he.still (h0.trans s3)) b (by omega)).mono ?_⟩
    rintro _ w4 ⟨⟨m, ok, rfl, hm⟩, s4⟩
    refine .inl ⟨_, _, rfl, ?_⟩
    have hsz : sizeR h = sizeN (numR b) := hsz
    refine bsel_of (fun hok => ?_) (fun hok => ?_)
    · refine ⟨⟨_, _, rfl, ?_⟩, s3.trans s4⟩
      unfold SizeAs
      rw [hsz]
      cases hb : numR b with
      | none => rw [hb] at hm; dsimp only at hm; rw [hm] at hok; cases hok
      | some v =>
        rw [hb] at hm
        obtain ⟨rfl, _⟩ := hm
        unfold sizeN
        by_cases hv : v ≤ 100000
        · simp only [if_pos hv]
          exact ⟨trivial, decide_eq_true (by omega)⟩
        · simp only [if_neg hv]
          exact decide_eq_false (by omega)
    · refine ⟨⟨_, _, rfl, ?_⟩, s3.trans s4⟩
      unfold SizeAs
      rw [hsz]
      cases hb : numR b with
      | none => rfl
      | some v =>
        rw [hb] at hm
        obtain ⟨_, hm⟩ := hm
        rw [hm] at hok
        cases hok
end Go.Proofs.YtkdlmkbpfdogcaaGreatDoor
namespace Go.Proofs.YtkdlmkbpfdogcaaGreatDoor
open Go.RowKit Vc
variable {w w0 : World}
structure Jr (w0 w : World) (gj g b : Nat) (rp : Option Nat) (j : Js) : Prop where
  dev : Dev w g b j.s
  top : ∃ p c, Row w gj ty_journal_Journal ⟨[.pointer (some ⟨g, 0, none⟩), .slice p j.l.length c, .int .i64 (j.k : Int)]⟩ ∧ Owns w w0.heap.size ty_string 1 (.slice p j.l.length c) j.l.length (strs j.l) ∧ (Value.slice p j.l.length c).ownBlock = rp
  low : w0.heap.size ≤ gj ∧ w0.heap.size ≤ g ∧ w0.heap.size ≤ b
def Foot (gj g b : Nat) (rp : Option Nat) (k : Nat) : Prop := k = g ∨ k = b ∨ k = gj ∨ rp = some k
section
variable {gj g b : Nat} {rp : Option Nat} {j : Js}
theorem Jr.mod {w' : World} {T : Nat → Prop} (h : Jr w0 w gj g b rp j) (hm : Mod T w w') (hT : ∀ k, Foot gj g b rp k → ¬ T k) : Jr w0 w' gj g b rp j := by
  obtain ⟨p, c, h1, h2, h3⟩ := h.top
  exact ⟨h.dev.mod hm (hT _ (.inl rfl)) (hT _ (.inr (.inl rfl))), ⟨p, c, h1.mod hm (hT _ (.inr (.inr (.inl rfl)))), h2.mod hm (fun k hk => hT k (.inr (.inr (.inr (h3.symm.trans hk))))), h3⟩, h.low⟩
theorem Jr.still {w' : World} (h : Jr w0 w gj g b rp j) (hm : Still w w') : Jr w0 w' gj g b rp j := h.mod hm (fun _ _ h => h)
theorem Jr.drew (h : Jr w0 w gj g b rp j) : Jr w0 w.drew gj g b rp j := h.still (Still.refl w).toDrew
theorem Jr.foot (h : Jr w0 w gj g b rp j) {k : Nat} (hk : Foot gj g b rp k) : w0.heap.size ≤ k ∧ k < w.heap.size := by
  obtain ⟨p, c, h1, h2, h3⟩ := h.top
  rcases hk with rfl | rfl | rfl | hk
  · exact ⟨h.low.2.1, h.dev.top.lt⟩
  · exact ⟨h.low.2.2, h.dev.bytes.lt⟩
  · exact ⟨h.low.1, h1.lt⟩
  · exact h2.lt k (h3.trans hk)
theorem Jr.stays (h : Jr w0 w gj g b rp j) {w' : World} (h0 : Still w0 w) (hm : Mod (Foot gj g b rp) w w') : Still w0 w' := Mod.trans h0 hm (fun _ h => h) (fun i hi hk => by have := (h.foot hk).1; omega)
theorem Jr.devPtr (h : Jr w0 w gj g b rp j) : w.cell? ⟨gj, 0, none⟩ = some (.pointer (some ⟨g, 0, none⟩)) := by
  obtain ⟨p, c, h1, _⟩ := h.top
  exact h1.lget rfl
theorem Jr.next (h : Jr w0 w gj g b rp j) : w.cell? ((⟨gj, 0, none⟩ : Addr).add 2) = some (.int .i64 (j.k : Int)) := by
  obtain ⟨p, c, h1, _⟩ := h.top
  exact h1.lget rfl
end
theorem read_sec {g b : Nat} {s : St} (d : Dev w g b s) (k : Nat) : Calls Tryz.prog fn_device_Device_Read #[.pointer (some ⟨g, 0, none⟩), .int .i64 (k : Int)] w
    (fun e w' => (∃ x : Int, e = .returned (.tuple #[.string (S (sec s k)), .int .i64 x])) ∧ w' = w) := by
  refine (device_Read_spec d k).mono ?_
  rintro _ w' ⟨rfl, rfl⟩
  refine ⟨?_, rfl⟩
  unfold sec
  by_cases hk : k < s.n
  · rw [if_pos ⟨by omega, by omega⟩, if_pos hk, Int.toNat_natCast]
    exact ⟨_, rfl⟩
  · rw [if_neg (by omega), if_neg hk]
    exact ⟨_, rfl⟩
theorem rowF_append (F : Nat → UInt8) (o n m : Nat) : rowF F o n ++ rowF F (o + n) m = rowF F o (n + m) := by
  apply List.ext_getElem?
  intro i
  by_cases h : i < n
  · rw [List.getElem?_append_left (by simpa using h), rowF_get h, rowF_get (by omega)]
  · rw [List.getElem?_append_right (by simpa using h), rowF_length]
    by_cases h2 : i < n + m
    · rw [rowF_get (by omega), rowF_get h2, show o + n + (i - n) = o + i by omega]
    · rw [List.getElem?_eq_none (by simp; omega), List.getElem?_eq_none (by simp; omega)]
theorem rowF_take (F : Nat → UInt8) (o : Nat) {n m : Nat} (h : m ≤ n) : (rowF F o n).take m = rowF F o m := by
  apply List.ext_getElem?
  intro i
  by_cases hi : i < m
  · rw [List.getElem?_take_of_lt hi, rowF_get (by omega), rowF_get hi]
  · rw [List.getElem?_eq_none (by simp; omega), List.getElem?_eq_none (by simp; omega)]
def ReadAs (r : Option Txt) (t : Txt) (ok : Bool) : Prop := match r with
  | some t' => t = t' ∧ ok = true
  | none => ok = false
theorem jread_spec {gj g b : Nat} {rp : Option Nat} {j : Js} (he : Env w0) (h0 : Still w0 w) (h : Jr w0 w gj g b rp j) (ok : j.Ok) :
    Calls Tryz.prog fn_journal_Journal_read #[.pointer (some ⟨gj, 0, none⟩)] w (fun e w' => (∃ (t : Txt) (o : Bool), e = .returned (.tuple #[.string (S t), .bool o]) ∧ ReadAs (readR j.s j.k j.l.length) t o) ∧ Still w w') := by
  have hn2 := ok.s.n2
  have hk := ok.k
  have hl := ok.l
  refine journal_Journal_read_calls _ _ _ ?_
  have sD : Still w w.drew := (Still.refl w).toDrew
  refine ⟨fun wq => Still w wq, sD, _, fun wq hq => (h.still hq).devPtr, _, fun wq hq => (h.still hq).next, ?_⟩
  refine (read_sec h.drew.dev j.k).mono ?_
  rintro _ w1 ⟨⟨x, rfl⟩, rfl⟩
  refine .inl ⟨_, _, rfl, (size_spec he (h0.trans sD) (sec j.s j.k) (sec_len _ _)).mono ?_⟩
  rintro _ w2 ⟨⟨m, o, rfl, hm⟩, s2⟩
  have s2 := sD.trans s2
  have s2D := s2.toDrew
  refine .inl ⟨_, _, rfl, fun wq => Still w wq, s2D, ?_⟩
  have bad : ∀ {w' : World}, readR j.s j.k j.l.length = none → Still w w' → (∃ (t : Txt) (o : Bool), (Ending.returned (.tuple #[.string (S []), .bool false])) = .returned (.tuple #[.string (S t), .bool o]) ∧ ReadAs (readR j.s j.k j.l.length) t o) ∧ Still w w' := by
    intro w' e hs
    exact ⟨⟨_, _, rfl, by unfold ReadAs; rw [e]⟩, hs⟩
  unfold SizeAs at hm
  cases hsz : sizeR (sec j.s j.k) with
  | none =>
    rw [hsz] at hm
    dsimp only at hm
    subst hm
    refine ⟨s2D, s2D, bad ?_ s2D⟩
    unfold readR
    rw [hsz]
  | some n =>
    rw [hsz] at hm
    obtain ⟨rfl, rfl⟩ := hm
    have hn := sizeR_le hsz
    have hc := cnt_le hn
    refine ⟨_, fun wq hq => (h.still hq).next, _, fun wq hq => (h.still hq).devPtr, (sectors_spec n (by omega)).mono ?_⟩
    rintro _ w3 ⟨rfl, rfl⟩
    refine .inl ⟨_, rfl, s2D, (device_Size_spec (h.still s2D).dev).mono ?_⟩
    rintro _ w4 ⟨rfl, rfl⟩
    refine .inl ⟨_, rfl, s2D, ?_⟩
    rw [wrap_i64 (by omega) (by omega)]
    refine bsel_of (fun hx => ?_) (fun hx => ?_)
    · refine bad ?_ s2D
      have := of_decide_eq_true hx
      unfold readR
      rw [hsz]
      simp only
      rw [if_pos (by omega)]
    have hx : j.k + cnt n < j.s.n := by have := of_decide_eq_false hx; omega
    have hrd : readR j.s j.k j.l.length = if hd 49 j.l.length (rowF j.s.F ((j.k + 1) * 64) n) = trimZ (sec j.s j.k) then some (rowF j.s.F ((j.k + 1) * 64) n) else none := by
      unfold readR
      rw [hsz]
      simp only
      rw [if_neg (by omega)]
    refine allocK fun w5 r5 s5 z5 => ?_
    have s25 := s2D.trans s5
    refine (sectors_spec n (by omega)).mono ?_
    rintro _ w6 ⟨rfl, rfl⟩
    refine .inl ⟨_, rfl, fun x w7 => ∃ (i : Nat) (cs : List Value) (v : Value), x = (i : Int) ∧ i ≤ cnt n ∧ cs.length = 2 ∧ BldAt w7 115 w2.drew.heap.size 0 w6.heap.size cs v (rowF j.s.F ((j.k + 1) * 64) (i * 64)) ∧ Still w w7 ∧ w6.heap.size ≤ w7.heap.size, fun x _ => cnt n - x.toNat, ?_, ?_⟩
    · exact ⟨0, _, _, rfl, Nat.zero_le _, rfl, BldAt.fresh r5 rfl rfl, s25, Nat.le_refl _⟩
    rintro _ _ w7 ⟨i, cs, v, rfl, hi, hcs, hb, s7, z7⟩
    refine bsel_of (fun hx => ?_) (fun hx => ?_)
    · have hx : i < cnt n := by have := of_decide_eq_true hx; omega
      have s7D := s7.toDrew
      refine ⟨fun wq => Still w wq, s7D, _, fun wq hq => (h.still hq).devPtr, _, fun wq hq => (h.still hq).next, ?_⟩
      have e1 : IntKind.i64.wrap (IntKind.i64.wrap ((j.k : Int) + 1) + (i : Int)) = ((j.k + 1 + i : Nat) : Int) := by rw [wrap_i64 (n := (j.k : Int) + 1) (by omega) (by omega), wrap_i64 (by omega) (by omega)]; omega
      rw [e1]
      refine (read_sec (h.still s7D).dev _).mono ?_
      rintro _ w8 ⟨⟨x, rfl⟩, rfl⟩
      refine .inl ⟨_, _, rfl, ?_⟩
      have es : sec j.s (j.k + 1 + i) = rowF j.s.F ((j.k + 1) * 64 + i * 64) 64 := by unfold sec; rw [if_pos (by omega), Nat.add_mul]
      rw [es]
      have hbD : BldAt w7.drew 115 w2.drew.heap.size 0 w6.heap.size cs v (rowF j.s.F ((j.k + 1) * 64) (i * 64)) := hb.still (Still.refl w7).toDrew
      refine (writeString_spec hbD (by rw [hcs]; exact liesB0) _ z7 (by simp; omega)).mono ?_
      rintro _ w9 ⟨rfl, v', h9, m9⟩
      refine .inl ⟨_, _, rfl, rfl, ?_⟩
      rw [wrap_i64 (by omega) (by omega)]
      rw [rowF_append, ← Nat.succ_mul] at h9
      have z9 : w6.heap.size ≤ w9.heap.size := Nat.le_trans z7 m9.size
      refine ⟨⟨i + 1, _, _, by omega, by omega, by simp [hcs], h9, ?_, z9⟩, ?_⟩
      case refine_2 =>
        have : ((i : Int) + 1).toNat = i + 1 := by omega
        dsimp only
        rw [this]
        omega
      refine Mod.trans s7D m9 (fun _ h => h) (fun k hk e => ?_)
      have hws : w.heap.size ≤ w2.drew.heap.size := s2D.size
      rcases e with rfl | e
      · omega
      · have := hb.own.ownLt e
        have := s25.size
        omega
    · have hx : i = cnt n := by have := of_decide_eq_false hx; omega
      subst hx
      have hcn : n ≤ cnt n * 64 := by unfold cnt; omega
      refine (string_spec hb (by simp; omega)).mono ?_
      rintro _ w10 ⟨rfl, m10⟩
      have s10 : Still w w10 := Mod.trans s7 m10 (fun _ h => h) (fun k hk e => by have := hb.own.ownLt e; have := s25.size; omega)
      obtain ⟨p, c, t1, t2, t3⟩ := (h.still s10).top
      refine .inl ⟨_, rfl, by omega, by simp; omega, _, _, _, t1.lget rfl, ?_⟩
      rw [Int.toNat_natCast, rowF_take _ _ hcn]
      refine (head_spec he (h0.trans s10) 49 j.l.length (rowF j.s.F ((j.k + 1) * 64) n) (by omega) (by simpa using hn)).mono ?_
      rintro _ w11 ⟨rfl, s11⟩
      refine .inl ⟨_, rfl, (trim_spec (sec j.s j.k) (by have := sec_len j.s j.k; omega)).mono ?_⟩
      rintro _ w12 ⟨rfl, rfl⟩
      refine .inl ⟨_, rfl, ⟨_, _, rfl, ?_⟩, s10.trans s11⟩
      rw [hrd]
      unfold ReadAs
      by_cases hh : hd 49 j.l.length (rowF j.s.F ((j.k + 1) * 64) n) = trimZ (sec j.s j.k)
      · rw [if_pos hh]
        exact ⟨rfl, decide_eq_true hh⟩
      · rw [if_neg hh]
        exact decide_eq_false hh
end Go.Proofs.YtkdlmkbpfdogcaaGreatDoor
