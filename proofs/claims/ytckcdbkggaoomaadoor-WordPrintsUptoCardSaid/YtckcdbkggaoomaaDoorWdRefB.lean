/- The reference's parser of words: a parameter in braces. Conditions: texts of fewer than a million bytes; words are parsed one level deeper as wpL says. -/
import Derived.Test.YtckcdbkggaoomaaDoorWdParse
namespace Go.Proofs.YtckcdbkggaoomaaDoor
open Go.RowKit Vc
variable {w : World}

/-- Words are parsed so, with so many levels left. -/
def RPost (w : World) (s : Txt) (L : Nat) (e : Ending) (w' : World) : Prop := (match wpL L s with
  | .ok l => ∃ v, e = .returned (.tuple #[v, .int .i64 0]) ∧ SlAt w' (fun k => w.heap.size ≤ k) l v
  | .bad k => e = .returned (.tuple #[.slice none 0 0, .int .i64 (k : Int)])) ∧ Still w w'
def RPartsS (L : Nat) : Prop := ∀ (w : World) (s : Txt), s.length < 1000000 → Calls Tryd.prog fn_ref08_parts #[.string (S s), .int .i64 (31 - (L : Int))] w (RPost w s L)
/-- A part in its box, ahead of an empty one for the answer. -/
def BS (w : World) (gp : Nat) (p : Pt) (v : Value) (w' : World) : Prop := Row w' gp 39 ⟨pcell p v⟩ ∧ Row w' w.heap.size 39 ⟨pcell (.mk 0 false [] [] [] []) (.slice none 0 0)⟩ ∧ Still w w'
theorem BS.still {gp : Nat} {p : Pt} {v : Value} {w' w'' : World} (h : BS w gp p v w') (hs : Still w' w'') : BS w gp p v w'' := ⟨h.1.still hs, h.2.1.still hs, h.2.2.trans hs⟩
theorem BS.turn {gp : Nat} {p p' : Pt} {v v' : Value} {w' w'' : World} (h : BS w gp p v w') (hg : w.heap.size < gp) (hm : Mod (fun k => k = gp) w' w'') (hr : Row w'' gp 39 ⟨pcell p' v'⟩) : BS w gp p' v' w'' :=
  ⟨hr, h.2.1.mod hm (by intro e; omega), h.2.2.box (by omega) hm⟩
def RExit (gp gr : Nat) (ex : Int) (w10 : World) (R : Ending → World → Prop) : Prop :=
  ∃ vKind2 : Int, ∃ vQuoted2 : Bool, ∃ vText2 : List UInt8, ∃ vName2 : List UInt8, ∃ vOp2 : List UInt8, ∃ (vWord2 : Option Addr) (vWordL2 vWordC2 : Nat), w10.cell? (Addr.mk gp 0 none) = some (.int .i64 vKind2) ∧ w10.cell? (Addr.mk gp 1 none) = some (.bool vQuoted2) ∧ w10.cell? (Addr.mk gp 2 none) = some (.string (S vText2)) ∧ w10.cell? (Addr.mk gp 3 none) = some (.string (S vName2)) ∧ w10.cell? (Addr.mk gp 4 none) = some (.string (S vOp2)) ∧ w10.cell? (Addr.mk gp 5 none) = some (.slice vWord2 vWordL2 vWordC2) ∧ stCells (Addr.mk gr 0 none) (fun (w11 : World) => ∃ vKind3 : Int, ∃ vQuoted3 : Bool, ∃ vText3 : List UInt8, ∃ vName3 : List UInt8, ∃ vOp3 : List UInt8, ∃ (vWord3 : Option Addr) (vWordL3 vWordC3 : Nat), w11.cell? (Addr.mk gr 0 none) = some (.int .i64 vKind3) ∧ w11.cell? (Addr.mk gr 1 none) = some (.bool vQuoted3) ∧ w11.cell? (Addr.mk gr 2 none) = some (.string (S vText3)) ∧ w11.cell? (Addr.mk gr 3 none) = some (.string (S vName3)) ∧ w11.cell? (Addr.mk gr 4 none) = some (.string (S vOp3)) ∧ w11.cell? (Addr.mk gr 5 none) = some (.slice vWord3 vWordL3 vWordC3) ∧ R (.returned (.tuple #[(.agg #[(.int .i64 vKind3), (.bool vQuoted3), (.string (S vText3)), (.string (S vName3)), (.string (S vOp3)), (.slice vWord3 vWordL3 vWordC3)]), (.int .i64 ex)])) w11) 0 [(.int .i64 vKind2), (.bool vQuoted2), (.string (S vText2)), (.string (S vName2)), (.string (S vOp2)), (.slice vWord2 vWordL2 vWordC2)] w10
theorem rExit_spec {w10 : World} {gp : Nat} {ex : Int} {x : Pt} {wp : Option Addr} {wc : Nat} {R : Ending → World → Prop} (h : BS w gp x (.slice wp x.w.length wc) w10) (hR : ∀ w', Mod (fun k => k = w.heap.size) w10 w' → R (.returned (.tuple #[pagg x (.slice wp x.w.length wc), .int .i64 ex])) w') : RExit gp w.heap.size ex w10 R :=
  ⟨_, _, _, _, _, _, _, _, h.1.lget rfl, h.1.lget rfl, h.1.lget rfl, h.1.lget rfl, h.1.lget rfl, h.1.lget rfl, stK h.2.1 (by simp [pcell]) one6 fun w11 r11 m11 _ => ⟨_, _, _, _, _, _, _, _, r11.lget rfl, r11.lget rfl, r11.lget rfl, r11.lget rfl, r11.lget rfl, r11.lget rfl, hR w11 m11⟩⟩
def RBPost (w : World) (L : Nat) (q : Bool) (s : Txt) (e : Ending) (w' : World) : Prop := (∃ x vw, SlAt w' (fun k => w.heap.size ≤ k) x.w vw ∧ match bracesF (wpL L) q s with
  | .ok p => e = .returned (.tuple #[pagg x vw, .int .i64 0]) ∧ x = p
  | .bad k => e = .returned (.tuple #[pagg x vw, .int .i64 (k : Int)])) ∧ Still w w'
set_option maxHeartbeats 1000000 in
theorem ref_braces_of {L : Nat} (hL : L ≤ 30) (ih : RPartsS L) (s : Txt) (q : Bool) (hs : s.length < 1000000) : Calls Tryd.prog fn_ref08_braces #[.string (S s), .bool q, .int .i64 (30 - (L : Int))] w (RBPost w L q s) := by
  refine ref08_braces_calls _ _ _ _ _ ?_
  refine allocK fun w1 r1 s1 z1 => allocK fun w2 r2 s2 z2 => stK r2 (by simp) (by simp [Value.oneCell']) fun w3 r3 m3 z3 => ?_
  have hg : w.heap.size < w1.heap.size := by omega
  have b3 : BS w w1.heap.size (.mk 1 q [] [] [] []) (.slice none 0 0) w3 := ⟨r3, (r1.still s2).mod m3 (by intro e; omega), (s1.trans s2).box (by omega) m3⟩
  have hpl := paramN_le s
  -- an end
  have fin : ∀ (x : Pt) (wp : Option Addr) (wc : Nat) (ex : Nat) (w7 : World), BS w w1.heap.size x (.slice wp x.w.length wc) w7 → SlAt w7 (fun k => w.heap.size < k) x.w (.slice wp x.w.length wc) →
      (match bracesF (wpL L) q s with
        | .ok p => ex = 0 ∧ x = p
        | .bad k => ex = k) → RExit w1.heap.size w.heap.size (ex : Int) w7 (RBPost w L q s) := by
    intro x wp wc ex w7 b7 hsl hm
    refine rExit_spec b7 fun w8 m8 => ⟨⟨x, _, (hsl.mod m8 fun k hk e => by omega).mono fun k hk => by omega, ?_⟩, b7.2.2.box (Nat.le_refl _) m8⟩
    cases hb : bracesF (wpL L) q s with
    | ok p =>
      rw [hb] at hm
      obtain ⟨rfl, h⟩ := hm
      exact ⟨rfl, h⟩
    | bad k =>
      rw [hb] at hm
      have hm : ex = k := hm
      rw [hm]
  refine ⟨fun w9 => ¬ (1 < s.length ∧ s.head? = some 35 ∧ paramN (s.drop 1) = s.length - 1) ∧ BS w w1.heap.size (.mk 1 q [] [] [] []) (.slice none 0 0) w9, ⟨fun b w5 => (b = true ↔ (1 < s.length ∧ s.head? = some 35 ∧ paramN (s.drop 1) = s.length - 1)) ∧ BS w w1.heap.size (.mk 1 q [] [] [] []) (.slice none 0 0) w5, bsel_of (fun h => ?_) (fun h => ⟨⟨fun e => (by cases e), fun e => absurd e.1 (by have := of_decide_eq_false h; omega)⟩, b3⟩), ?_⟩, ?_⟩
  · have h : 1 < s.length := by have := of_decide_eq_true h; omega
    obtain ⟨c, r, hcr⟩ : ∃ c r, s = c :: r := by
      cases s with
      | nil => simp at h
      | cons c r => exact ⟨c, r, rfl⟩
    have hhd : s.head? = some c := by rw [hcr]; rfl
    refine ⟨by decide, c, by rw [hcr]; rfl, bsel_of (fun h1 => ?_) (fun h1 => ?_)⟩
    · have h1 : c = 35 := byte_eq.1 (of_decide_eq_true h1)
      refine ⟨by decide, by omega, (ref_param_spec (s.drop 1) (by rw [List.length_drop]; omega)).mono ?_⟩
      rintro _ w4 ⟨rfl, rfl⟩
      refine .inl ⟨_, rfl, ?_, b3⟩
      have hp1 := paramN_le (s.drop 1)
      rw [List.length_drop] at hp1
      rw [decide_eq_true_eq, wrap_i64 (by omega) (by omega)]
      exact ⟨fun e => ⟨h, by rw [hhd, h1], by omega⟩, fun e => by have := e.2.2; omega⟩
    · have h1 : ¬ c = 35 := fun e => of_decide_eq_false h1 (byte_eq.2 e)
      refine ⟨⟨fun e => (by cases e), fun e => ?_⟩, b3⟩
      rw [hhd] at e
      exact absurd (Option.some.inj e.2.1) h1
  · rintro b _ w5 ⟨hb, b5⟩
    refine bsel_of (fun h => ?_) (fun h => ⟨fun hc => (by rw [hb.2 hc] at h; cases h), b5⟩)
    have hc := hb.1 h
    refine ⟨by decide, by omega, stK b5.1 (by simp [pcell]) (by simp [Value.oneCell']) fun w6 r6 m6 z6 => stK r6 (by simp [ovw, pcell]) (by simp [Value.oneCell']) fun w7 r7 m7 z7 => ?_⟩
    have b6 : BS w w1.heap.size (.mk 1 q [] (s.drop 1) [] []) (.slice none 0 0) w6 := b5.turn hg m6 r6
    have b7 : BS w w1.heap.size (.mk 1 q [] (s.drop 1) lenO []) (.slice none 0 0) w7 := b6.turn hg m7 r7
    exact fin _ _ _ 0 w7 b7 (SlAt.nil _ _ _ _) (by
      have : bracesF (wpL L) q s = .ok (.mk 1 q [] (s.drop 1) lenO []) := by unfold bracesF; rw [if_pos hc]
      rw [this]
      exact ⟨rfl, rfl⟩)
  rintro _ w9 ⟨hno, b9⟩
  refine (ref_param_spec s hs).mono ?_
  rintro _ w10 ⟨rfl, rfl⟩
  refine .inl ⟨_, rfl, bsel_of (fun h => ?_) (fun h => ?_)⟩
  · have h : paramN s = 0 := by have := of_decide_eq_true h; omega
    refine fin _ _ _ 90 _ b9 (SlAt.nil _ _ _ _) ?_
    have : bracesF (wpL L) q s = .bad 90 := by unfold bracesF; rw [if_neg hno, if_pos h]
    rw [this]
  have h : ¬ paramN s = 0 := by have := of_decide_eq_false h; omega
  rw [Int.toNat_natCast]
  refine ⟨by omega, by omega, stK b9.1 (by simp [pcell]) (by simp [Value.oneCell']) fun w12 r12 m12 z12 => ?_⟩
  have b12 : BS w w1.heap.size (.mk 1 q [] (s.take (paramN s)) [] []) (.slice none 0 0) w12 := b9.turn hg m12 r12
  refine ⟨by omega, by omega, bsel_of (fun h2 => ?_) (fun h2 => ?_)⟩
  · have h2 : s.drop (paramN s) = [] := of_decide_eq_true h2
    refine fin _ _ _ 0 _ b12 (SlAt.nil _ _ _ _) ?_
    have : bracesF (wpL L) q s = .ok (.mk 1 q [] (s.take (paramN s)) [] []) := by unfold bracesF; rw [if_neg hno, if_neg h, if_pos h2]
    rw [this]
    exact ⟨rfl, rfl⟩
  have h2 : ¬ s.drop (paramN s) = [] := of_decide_eq_false h2
  have z12' : w.heap.size < w12.heap.size := b12.2.1.lt
  have g12 : w1.heap.size < w12.heap.size := b12.1.lt
  refine allocK fun w14 r14 s14 z14 => ?_
  have r14 : Row w14 w12.heap.size 9 ⟨strs opsL⟩ := r14
  have hop := opOf_len (s.drop (paramN s))
  have hopl : (s.drop (paramN s)).length = s.length - paramN s := List.length_drop
  refine ⟨fun i w15 => ∃ (k : Nat) (o : Txt), i = (k : Int) ∧ k ≤ 12 ∧ BS w w1.heap.size (.mk 1 q [] (s.take (paramN s)) o []) (.slice none 0 0) w15 ∧ Row w15 w12.heap.size 9 ⟨strs opsL⟩ ∧ (o = [] ∧ (opsL.drop k).find? (fun o => pf o (s.drop (paramN s))) = opsL.find? (fun o => pf o (s.drop (paramN s))) ∨ o ≠ [] ∧ o = opOf (s.drop (paramN s))), fun i _ => 12 - i.toNat, ⟨0, [], rfl, by omega, b12.still s14, r14, .inl ⟨rfl, rfl⟩⟩, ?_⟩
  rintro _ _ w15 ⟨k, o, rfl, hk, b15, r15, ho⟩
  refine ⟨fun w31 => w31 = w15 ∧ k < 12 ∧ o = [], ⟨fun b w16 => w16 = w15 ∧ (b = true ↔ k < 12 ∧ o = []), bsel_of (fun h3 => ⟨o, b15.1.lget rfl, rfl, ?_⟩) (fun h3 => ⟨rfl, fun e => (by cases e), fun e => absurd e.1 (by have := of_decide_eq_false h3; omega)⟩), ?_⟩, ?_⟩
  · rw [decide_eq_true_eq]
    exact ⟨fun e => ⟨by have := of_decide_eq_true h3; omega, e⟩, fun e => e.2⟩
  rotate_left
  · -- one operator more
    rintro _ w31 ⟨rfl, hk, rfl⟩
    have hf := (ho.resolve_right fun e => e.1 rfl).2
    have hk' : k < opsL.length := hk
    obtain ⟨a, ha, hc⟩ := (StrsAt.row r15).get hk'
    obtain rfl := Option.some.inj ha
    rw [find_step hk'] at hf
    have hlo : opsL[k].length ≤ 2 := by
      have : ∀ o ∈ opsL, o.length ≤ 2 := by decide
      exact this _ (List.getElem_mem hk')
    have hne : opsL[k] ≠ [] := by
      have : ∀ o ∈ opsL, o ≠ [] := by decide
      exact this _ (List.getElem_mem hk')
    have e1 : IntKind.i64.wrap ((k : Int) + 1) = ((k + 1 : Nat) : Int) := by rw [wrap_i64 (by omega) (by omega)]; omega
    have hc' : w31.cell? ((Addr.mk w12.heap.size 0 none).add (Int.toNat (k : Int) * 1)) = some (.string (S opsL[k])) := by rw [Int.toNat_natCast, Nat.mul_one]; exact hc
    rw [e1]
    refine ⟨by omega, by omega, _, hc', (ref_begins_spec _ _ (by omega) (by omega)).mono ?_⟩
    rintro _ w32 ⟨rfl, rfl⟩
    refine .inl ⟨_, rfl, bsel_of (fun h4 => ⟨by omega, by omega, _, hc', ?_⟩) (fun h4 => ?_)⟩
    · refine stK b15.1 (by simp [pcell]) (by simp [Value.oneCell']) fun w33 r33 m33 z33 => ⟨⟨k + 1, opsL[k], rfl, by omega, b15.turn hg m33 r33, r15.mod m33 (by intro e; omega), .inr ⟨hne, ?_⟩⟩, by dsimp only; omega⟩
      rw [if_pos h4] at hf
      unfold opOf
      rw [← hf]
      rfl
    · rw [if_neg (by rw [h4]; decide)] at hf
      exact ⟨⟨k + 1, [], rfl, by omega, b15, r15, .inl ⟨rfl, hf⟩⟩, by dsimp only; omega⟩
  rintro b _ w16 ⟨rfl, hb⟩
  refine bsel_of (fun h3 => ⟨rfl, hb.1 h3⟩) (fun h3 => ?_)
  have hoe : o = opOf (s.drop (paramN s)) := by
    rcases ho with ⟨rfl, hf⟩ | ho
    · have hk2 : k = 12 := by
        rcases Nat.lt_or_ge k 12 with e | e
        · rw [hb.2 ⟨e, rfl⟩] at h3; cases h3
        · omega
      subst hk2
      unfold opOf
      rw [← hf]
      rfl
    · exact ho.2
  subst hoe
  clear ho hb h3
  refine ⟨fun w21 => w21 = w16 ∧ ¬ (opOf (s.drop (paramN s)) = [] ∨ ((opOf (s.drop (paramN s)) = [61] ∨ opOf (s.drop (paramN s)) = [58, 61]) ∧ nameN (s.take (paramN s)) = 0)), ⟨fun b w19 => w19 = w16 ∧ (b = true ↔ (opOf (s.drop (paramN s)) = [] ∨ ((opOf (s.drop (paramN s)) = [61] ∨ opOf (s.drop (paramN s)) = [58, 61]) ∧ nameN (s.take (paramN s)) = 0))), ⟨_, b15.1.lget rfl, bsel_of (fun h3 => ⟨rfl, fun _ => .inl (of_decide_eq_true h3), fun _ => rfl⟩) (fun h3 => ⟨_, b15.1.lget rfl, bsel_of (fun h4 => ⟨_, b15.1.lget rfl, ?_⟩) (fun h4 => ⟨_, b15.1.lget rfl, bsel_of (fun h5 => ⟨_, b15.1.lget rfl, ?_⟩) (fun h5 => ⟨rfl, fun e => (by cases e), fun e => ?_⟩)⟩)⟩)⟩, ?_⟩, ?_⟩
  · have h3 := of_decide_eq_false h3
    have h4 := of_decide_eq_true h4
    refine (ref_Name_spec (s.take (paramN s)) (by rw [List.length_take]; omega)).mono ?_
    rintro _ w17 ⟨rfl, rfl⟩
    refine .inl ⟨_, rfl, rfl, ?_⟩
    rw [decide_eq_true_eq]
    exact ⟨fun e => .inr ⟨.inl h4, by omega⟩, fun e => by have := (e.resolve_left h3).2; omega⟩
  · have h3 := of_decide_eq_false h3
    have h5 := of_decide_eq_true h5
    refine (ref_Name_spec (s.take (paramN s)) (by rw [List.length_take]; omega)).mono ?_
    rintro _ w17 ⟨rfl, rfl⟩
    refine .inl ⟨_, rfl, rfl, ?_⟩
    rw [decide_eq_true_eq]
    exact ⟨fun e => .inr ⟨.inr h5, by omega⟩, fun e => by have := (e.resolve_left h3).2; omega⟩
  · have h3 := of_decide_eq_false h3
    have h4 := of_decide_eq_false h4
    have h5 := of_decide_eq_false h5
    rcases (e.resolve_left h3).1 with e | e
    · exact absurd e h4
    · exact absurd e h5
  · rintro b _ w19 ⟨rfl, hb⟩
    refine bsel_of (fun h6 => ?_) (fun h6 => ⟨rfl, fun hc => (by rw [hb.2 hc] at h6; cases h6)⟩)
    refine fin _ _ _ 90 _ b15 (SlAt.nil _ _ _ _) ?_
    have : bracesF (wpL L) q s = .bad 90 := by unfold bracesF; rw [if_neg hno, if_neg h, if_neg h2, if_pos (hb.1 h6)]
    rw [this]
  rintro _ w21 ⟨rfl, h3⟩
  have hbr : bracesF (wpL L) q s = (wpL L ((s.drop (paramN s)).drop (opOf (s.drop (paramN s))).length)).and fun w => if hasL w = true then .bad 90 else .ok (.mk 1 q [] (s.take (paramN s)) (opOf (s.drop (paramN s))) (if q = true then qdL [] w else w)) := by
    unfold bracesF
    rw [if_neg hno, if_neg h, if_neg h2, if_neg h3]
  refine ⟨opOf (s.drop (paramN s)), b15.1.lget rfl, by omega, by omega, ?_⟩
  rw [Int.toNat_natCast, show IntKind.i64.wrap (30 - (L : Int) + 1) = 31 - (L : Int) by rw [wrap_i64 (by omega) (by omega)]; omega]
  have z15 : w.heap.size < w21.heap.size := b15.2.1.lt
  have g15 : w1.heap.size < w21.heap.size := b15.1.lt
  have hinl : ((s.drop (paramN s)).drop (opOf (s.drop (paramN s))).length).length ≤ s.length - (paramN s + (opOf (s.drop (paramN s))).length) := by rw [List.length_drop, List.length_drop]; omega
  refine (ih w21 _ (by omega)).mono ?_
  rintro e22 w22 ⟨hp, s22⟩
  have b22 := b15.still s22
  have z22 := s22.size
  cases hw : wpL L ((s.drop (paramN s)).drop (opOf (s.drop (paramN s))).length) with
  | bad k =>
    rw [hw] at hp
    have hk : k ≠ 0 := fun e => wpL_nz L _ (by rw [hw, e])
    refine .inl ⟨none, 0, 0, (k : Int), hp, bsel_of (fun _ => ?_) (fun hh => absurd (nf hh) (by omega))⟩
    refine fin _ _ _ k _ b22 (SlAt.nil _ _ _ _) ?_
    rw [hbr, hw]
    rfl
  | ok l =>
    rw [hw] at hp
    obtain ⟨v, rfl, hsl⟩ := hp
    obtain ⟨wp, wc, rfl⟩ := hsl.form
    have hwl := wpL_wt L _ _ hw
    refine .inl ⟨wp, l.length, wc, 0, rfl, bsel_of (fun hh => absurd rfl (nt hh)) (fun _ => (commands_spec hsl (by omega)).mono ?_)⟩
    rintro _ w24 ⟨rfl, s24⟩
    have b24 := b22.still s24
    have z24 := s24.size
    refine .inl ⟨_, rfl, bsel_of (fun h7 => ?_) (fun h7 => stK b24.1 (by simp [pcell]) (by simp [Value.oneCell']) fun w26 r26 m26 z26 => ?_)⟩
    · refine fin _ _ _ 90 _ b24 (SlAt.nil _ _ _ _) ?_
      rw [hbr, hw]
      simp only [Rs.and]
      rw [if_pos h7]
    have b26 : BS w w1.heap.size (.mk 1 q [] (s.take (paramN s)) (opOf (s.drop (paramN s))) l) (.slice wp l.length wc) w26 := b24.turn hg m26 r26
    have hsl26 := (hsl.still s24).mod m26 fun k hk e => by omega
    refine ⟨fun w29 => RExit w1.heap.size w.heap.size 0 w29 (RBPost w L q s), bsel_of (fun hq => (quotes_spec hsl26 (by omega)).mono ?_) (fun hq => ?_), fun _ w29 h => h⟩
    · rintro _ w27 ⟨v27, rfl, hsl27, s27⟩
      obtain ⟨qp, qc, rfl⟩ := hsl27.form
      have b27 := b26.still s27
      refine .inl ⟨_, _, _, rfl, stK b27.1 (by simp [pcell]) (by simp [Value.oneCell']) fun w28 r28 m28 z28 => ?_⟩
      have b28 : BS w w1.heap.size (.mk 1 q [] (s.take (paramN s)) (opOf (s.drop (paramN s))) (qdL [] l)) (.slice qp (qdL [] l).length qc) w28 := b27.turn hg m28 r28
      refine fin _ _ _ 0 w28 b28 ((hsl27.mod m28 fun k hk e => by omega).mono fun k hk => by omega) ?_
      rw [hbr, hw]
      simp only [Rs.and]
      rw [if_neg (by rw [h7]; decide), if_pos hq]
      exact ⟨trivial, rfl⟩
    · refine fin _ _ _ 0 w26 b26 (hsl26.mono fun k hk => by omega) ?_
      rw [hbr, hw]
      simp only [Rs.and]
      rw [if_neg (by rw [h7]; decide), if_neg (by rw [hq]; decide)]
      exact ⟨trivial, rfl⟩
end Go.Proofs.YtckcdbkggaoomaaDoor
