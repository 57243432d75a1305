/- Texts of one proof, one behind the other. Conditions: as each theorem names them. -/
import Derived.Test.YtddkalfffhkkkaaGreatDoorQ6
namespace Go.Proofs.YtddkalfffhkkkaaGreatDoor
open Go.RowKit Vc
variable {w w0 : World}
theorem opensBoth {i : Ids} {j jr : Js} (he : Env w0) (h0 : Still w0 w) (T : Two w0 w i j jr) (hs : j.s = jr.s) (ok : j.s.Ok) {R : World → Prop}
    (h : ∀ (i' : Ids) (w' : World), i'.gx = i.gx → Two w0 w' i' (Js.opened j.s) (Js.opened j.s) → Still w0 w' → R w') :
    Calls Tryz.prog fn_journal_Open #[.pointer (some ⟨i.g, 0, none⟩)] w (fun e w5 => ∃ gj, e = .returned (.pointer (some ⟨gj, 0, none⟩)) ∧ Row w5 i.gx ty_scullionlaw04_pair ⟨[.pointer (some ⟨i.g, 0, none⟩), .pointer (some ⟨i.gj, 0, none⟩), .pointer (some ⟨i.h, 0, none⟩), .pointer (some ⟨i.hj, 0, none⟩)]⟩ ∧
      Calls Tryz.prog fn_ref04_Open #[.pointer (some ⟨i.h, 0, none⟩)] w5 (fun e2 w6 => ∃ hj, e2 = .returned (.pointer (some ⟨hj, 0, none⟩)) ∧
        stCells (Addr.mk i.gx 1 none) (fun w7 => stCells (Addr.mk i.gx 3 none) R 0 [.pointer (some ⟨hj, 0, none⟩)] w7) 0 [.pointer (some ⟨gj, 0, none⟩)] w6)) := by
  refine (jopen_spec he h0 T.prog.dev ok T.prog.low.2.1 T.prog.low.2.2).mono ?_
  rintro _ w6 ⟨gj, rp, rfl, s6, hgj, hrp, J6⟩
  refine ⟨gj, rfl, T.row.still s6, ?_⟩
  have hR := T.ref.dev.mod s6 (fun h => h) (fun h => h)
  rw [← hs] at hR
  refine (ropen_spec (h0.trans s6) hR ok T.ref.low.2.1 T.ref.low.2.2).mono ?_
  rintro _ w7 ⟨hj, rq, rfl, s7, hhj, hrq, R7⟩
  have r7 := (T.row.still s6).still s7
  refine ⟨hj, rfl, stK (g := i.gx) (o := 1) r7 (by simp) (by simp [Value.oneCell']) fun w8 r8 m8 z8 => ?_⟩
  simp only [ovw, List.set_cons_succ, List.set_cons_zero] at r8
  refine stK (g := i.gx) (o := 3) r8 (by simp) (by simp [Value.oneCell']) fun w9 r9 m9 z9 => ?_
  simp only [ovw, List.set_cons_succ, List.set_cons_zero] at r9
  have m79 : Mod (fun n => n = i.gx) w7 w9 := Mod.trans m8 m9 (fun _ h => h) (fun _ _ h => h)
  have J6lt : ∀ k, Foot gj i.g i.b rp k → k < w6.heap.size := fun k hk => (J6.foot hk).2
  have ap := apart_open (g := i.g) (b := i.b) (gj := gj) (h := i.h) (q := i.q) (hj := hj) (rp := rp) (rq := rq) (B0 := w.heap.size) (B1 := w6.heap.size) (fun k hk hx => T.apart k (hk.elim .inl fun h => .inr (.inl h)) (hx.elim .inl fun h => .inr (.inl h))) T.lt ⟨hgj, J6lt _ (.inr (.inr (.inl rfl)))⟩
    (fun k hk => ⟨by rcases hrp k hk with e | e; cases e; exact e, J6lt _ (.inr (.inr (.inr hk)))⟩) s6.size hhj (fun k hk => by rcases hrq k hk with e | e; cases e; exact e)
  have T9 := Two.opens (J6.still s7) R7 r7 r9 m79 ap T.low
  exact h ⟨i.gx, i.g, i.b, gj, rp, i.h, i.q, hj, rq⟩ w9 rfl T9 (Mod.trans ((h0.trans s6).trans s7) m79 (fun _ h => h) (fun n hn e => by have := T.low; omega))
set_option maxHeartbeats 1000000 in
theorem JournalOdd_spec (he : Env w) {p : Option Addr} {L C : Nat} {ls : List Txt} (hl : StrsAt w p L ls) (s : Txt) : Calls Tryz.prog fn_law04_JournalOdd #[.slice p L C, .string (S s)] w (fun e w' => e = .returned (.bool true) ∧ Still w w') := by
  refine law04_JournalOdd_calls _ _ _ _ _ _ ?_
  refine (awake4_spec he (Still.refl w)).mono ?_
  rintro _ w1 ⟨rfl, s1⟩
  refine .inl ⟨_, rfl, bsel_of (fun h => by cases h) (fun _ => ?_)⟩
  refine (begun_spec he s1 (n := 12) (by decide) (by decide)).mono ?_
  rintro _ w2 ⟨i0, rfl, s2, T2⟩
  have B2 := Both.of T2 ⟨new_ok (by decide) (by decide), Nat.zero_le _, Nat.le_refl _⟩ (s1.trans s2)
  generalize i0.gx = gx at B2
  have h02 := s1.trans s2
  refine .inl ⟨_, _, rfl, bsel_of (fun h => by cases h) (fun _ => bsel_of (fun _ => ⟨rfl, h02⟩) (fun _ => ?_))⟩
  refine ⟨fun x w3 => ∃ k : Nat, x = (k : Int) ∧ k ≤ 12 ∧ Both w gx w3, fun x _ => 12 - x.toNat, ⟨0, rfl, by decide, B2⟩, ?_⟩
  rintro _ _ w3 ⟨k, rfl, hk12, B3⟩
  refine ⟨fun w4 => k < L ∧ k < 12 ∧ Both w gx w4, ⟨fun x w4 => (x = true → k < L ∧ k < 12) ∧ Both w gx w4, ?_, ?_⟩, ?_⟩
  · refine bsel_of (fun hx => ⟨fun h => ⟨by have := of_decide_eq_true hx; omega, by have := of_decide_eq_true h; omega⟩, B3⟩) (fun _ => ⟨fun h => (by cases h), B3⟩)
  · rintro x _ w4 ⟨hx, B4⟩
    refine bsel_of (fun h => ⟨(hx h).1, (hx h).2, B4⟩) (fun _ => ?_)
    obtain ⟨i, j, rfl, T, ok, h03⟩ := B4
    refine ⟨fun wq => Row wq i.gx ty_scullionlaw04_pair _, T.drew.row, _, fun wq hq => hq.lget rfl, _, fun wq hq => hq.lget rfl, (opensBoth he h03.toDrew T.drew rfl ok.s (R := fun w' => ∃ i' : Ids, i'.gx = i.gx ∧ Two w w' i' (Js.opened j.s) (Js.opened j.s) ∧ Still w w') fun i' w' h1 h2 h3 => ⟨i', h1, h2, h3⟩).mono ?_⟩
    rintro _ w5 ⟨gj, rfl, r5, h5⟩
    refine .inl ⟨_, rfl, r5, h5.mono ?_⟩
    rintro _ w6 ⟨hj, rfl, h6⟩
    refine .inl ⟨_, rfl, ?_⟩
    have ok' := Js.opened_ok ok.s
    generalize Js.opened j.s = j' at h6 ok'
    have fin : ∀ w8, (∃ i' : Ids, i'.gx = i.gx ∧ Two w w8 i' j' j' ∧ Still w w8) → _ := fun w8 h => h
    clear fin
    have mono : ∀ {a : Addr} {K K' : World → Prop} {vs : List Value} {n : Nat} {w : World}, stCells a K n vs w → (∀ w', K w' → K' w') → stCells a K' n vs w := by
      intro a K K' vs
      induction vs with
      | nil => intro n w h hk; exact hk _ h
      | cons v r ih =>
        intro n w h hk
        obtain ⟨hv, h1, h2⟩ := bsel_true_out h
        refine bsel_of (fun _ => ⟨h1, ih h2 hk⟩) (fun h => by rw [hv] at h; cases h)
    refine mono h6 fun w7 h7 => mono h7 fun w8 h8 => ?_
    obtain ⟨i', hgx, T8, h08⟩ := h8
    rw [← hgx]
    refine ⟨fun wq => Row wq i'.gx ty_scullionlaw04_pair _, T8.drew.row, _, fun wq hq => hq.lget rfl, ?_⟩
    refine bsel_of (fun _ => ?_) (fun h => by cases h)
    refine ⟨_, fun wq hq => hq.lget rfl, _, fun wq hq => hq.lget rfl, (jrecords_spec T8.drew.prog (recs_le ok')).mono ?_⟩
    rintro _ w9 ⟨q, D, rfl, o5, s9⟩
    refine .inl ⟨_, _, _, rfl, T8.drew.row.still s9, (rrecords_spec (T8.drew.ref.still s9) (recs_le ok')).mono ?_⟩
    rintro _ w10 ⟨q2, D2, rfl, o6, s10⟩
    refine .inl ⟨_, _, _, rfl, (T8.drew.row.still s9).still s10, (same_spec ((StrsAt.of o5).still s10) (StrsAt.of o6) (by have := recs_le ok'; omega)).mono ?_⟩
    rintro _ w11 ⟨rfl, s11⟩
    rw [decide_eq_true rfl]
    have s8 := (s9.trans s10).trans s11
    have T11 := T8.drew.still s8
    have h011 := h08.toDrew.trans s8
    refine .inl ⟨_, rfl, T11.row, _, fun wq hq => hq.lget rfl, _, fun wq hq => hq.lget rfl, (jappend_spec he h011 T11.prog ok' s).mono ?_⟩
    rintro _ w12 ⟨rfl, rp', J2, m2, n2⟩
    have T12 := T11.stepA J2 m2 n2
    refine .inl ⟨_, rfl, T12.row, (rappend_spec (T11.stillA h011 m2) T12.ref ok' s).mono ?_⟩
    rintro _ w13 ⟨rfl, rq', R3, m3, n3⟩
    have T13 := T12.stepB R3 m3 n3
    have h013 := T12.stillB (T11.stillA h011 m2) m3
    refine .inl ⟨_, rfl, T13.row, bsel_of (fun _ => ?_) (fun h => by simp at h)⟩
    refine ⟨_, fun wq hq => hq.lget rfl, _, fun wq hq => hq.lget rfl, (Same_spec T13.prog.dev T13.ref.dev (Js.append_ok ok' s).1.s).mono ?_⟩
    rintro _ w14 ⟨rfl, rfl⟩
    exact .inl ⟨_, rfl, rfl, h013⟩
  · rintro _ w15 ⟨hkL, hk12, i, j, rfl, T, ok, h0⟩
    obtain ⟨a, rfl, hc⟩ := hl.get hkL
    have ec : Int.toNat (k : Int) * 1 = k := by rw [Int.toNat_natCast]; omega
    refine ⟨fun wq => Row wq i.gx ty_scullionlaw04_pair _ ∧ Still w wq, ⟨T.drew.row, h0.toDrew⟩, _, fun wq hq => hq.1.lget rfl, by omega, by omega, _, fun wq hq => by rw [ec]; exact hq.2.cell hc, (device_Write_spec T.drew.prog.dev ok.s k _).mono ?_⟩
    rintro _ w16 ⟨rfl, m2, d2⟩
    have T2 := T.drew.devA m2 d2
    have mA : Mod i.A w15.drew w16 := m2.weaken fun k hk => hk.elim .inl fun h => .inr (.inl h)
    have h016 := T.drew.stillA h0.toDrew mA
    refine .inl ⟨_, rfl, fun wq => Row wq i.gx ty_scullionlaw04_pair _ ∧ Still w wq, ⟨T2.drew.row, h016.toDrew⟩, _, fun wq hq => hq.1.lget rfl, by omega, by omega, _, fun wq hq => by rw [ec]; exact hq.2.cell hc, (ref_Write_spec T2.drew.ref.dev ok.s k _).mono ?_⟩
    rintro _ w17 ⟨rfl, m3, d3⟩
    have T3 := T2.drew.devB m3 d3
    have mB : Mod i.B w16.drew w17 := m3.weaken fun k hk => hk.elim .inl fun h => .inr (.inl h)
    obtain ⟨g1, g2⟩ := write_ok ok.s k (ls[k]'(by have := hl.1; omega))
    have okj : (⟨(j.s.write k (ls[k]'(by have := hl.1; omega))).2, j.l, j.k⟩ : Js).Ok := ⟨g1, by have := ok.k; dsimp only; omega, ok.l⟩
    have BB := Both.of T3 okj (T2.drew.stillB h016.toDrew mB)
    refine .inl ⟨_, rfl, ⟨k + 1, by rw [wrap_i64 (by omega) (by omega)]; omega, by omega, BB⟩, ?_⟩
    dsimp only
    rw [wrap_i64 (by omega) (by omega)]
    omega
theorem xor_u8 (a b : Int) : ∃ u : UInt8, bits .xor .u8 a b = (u.toNat : Int) := ⟨_, wrap_u8d _⟩
set_option maxHeartbeats 1000000 in
theorem JournalTurned_spec (he : Env w) {p : Option Addr} {L C : Nat} {ls : List Txt} (hl : StrsAt w p L ls) (ax : Int) (ha0 : 0 ≤ ax) (ha1 : ax < 65536) (bx : Int) (hb0 : 0 ≤ bx) (hb1 : bx < 256) :
    Calls Tryz.prog fn_law04_JournalTurned #[.slice p L C, .int .u16 ax, .int .u8 bx] w (fun e w' => e = .returned (.bool true) ∧ Still w w') := by
  refine law04_JournalTurned_calls _ _ _ _ _ _ _ ?_
  refine (awake4_spec he (Still.refl w)).mono ?_
  rintro _ w1 ⟨rfl, s1⟩
  refine .inl ⟨_, rfl, bsel_of (fun h => by cases h) (fun _ => ?_)⟩
  refine (begun_spec he s1 (n := 20) (by decide) (by decide)).mono ?_
  rintro _ w2 ⟨i0, rfl, s2, T2⟩
  have B2 : ∃ (i : Ids) (j : Js), i.gx = i0.gx ∧ Two w w2 i j j ∧ j.Ok ∧ Still w w2 ∧ j.s.n = 20 := ⟨i0, _, rfl, T2, ⟨new_ok (by decide) (by decide), Nat.zero_le _, Nat.le_refl _⟩, s1.trans s2, rfl⟩
  generalize i0.gx = gx at B2
  refine .inl ⟨_, _, rfl, bsel_of (fun h => by cases h) (fun _ => ?_)⟩
  refine ⟨fun x w3 => ∃ k : Nat, x = (k : Int) ∧ k ≤ 4 ∧ ∃ (i : Ids) (j : Js), i.gx = gx ∧ Two w w3 i j j ∧ j.Ok ∧ Still w w3 ∧ j.s.n = 20, fun x _ => 4 - x.toNat, ⟨0, rfl, by decide, B2⟩, ?_⟩
  rintro _ _ w3 ⟨k, rfl, hk4, B3⟩
  refine ⟨fun w4 => k < L ∧ k < 4 ∧ ∃ (i : Ids) (j : Js), i.gx = gx ∧ Two w w4 i j j ∧ j.Ok ∧ Still w w4 ∧ j.s.n = 20, ⟨fun x w4 => (x = true → k < L ∧ k < 4) ∧ ∃ (i : Ids) (j : Js), i.gx = gx ∧ Two w w4 i j j ∧ j.Ok ∧ Still w w4 ∧ j.s.n = 20, ?_, ?_⟩, ?_⟩
  · refine bsel_of (fun hx => ⟨fun h => ⟨by have := of_decide_eq_true hx; omega, by have := of_decide_eq_true h; omega⟩, B3⟩) (fun _ => ⟨fun h => (by cases h), B3⟩)
  · rintro x _ w4 ⟨hx, B4⟩
    refine bsel_of (fun h => ⟨(hx h).1, (hx h).2, B4⟩) (fun _ => ?_)
    obtain ⟨i, j, rfl, T, ok, h04, hn20⟩ := B4
    have e1 : Int.tmod (IntKind.i64.wrap ax) 1280 = ((ax.toNat % 1280 : Nat) : Int) := by
      rw [wrap_i64 (by omega) (by omega)]
      conv => lhs; rw [show ax = ((ax.toNat : Nat) : Int) by omega]
      exact tmod_nat _ 1280
    rw [e1]
    have hk0 : ax.toNat % 1280 < 1280 := Nat.mod_lt _ (by decide)
    generalize ax.toNat % 1280 = kk at hk0
    have e2 : Int.tdiv ((kk : Nat) : Int) 64 = ((kk / 64 : Nat) : Int) := (Int.ofNat_tdiv kk 64).symm
    have e3 : Int.tmod ((kk : Nat) : Int) 64 = ((kk % 64 : Nat) : Int) := tmod_nat kk 64
    rw [e2, e3, wrap_i64 (n := ((kk / 64 : Nat) : Int)) (by omega) (by omega), Int.toNat_natCast]
    have hd20 : kk / 64 < 20 := by omega
    have hm64 : kk % 64 < 64 := Nat.mod_lt _ (by decide)
    generalize kk / 64 = ks at hd20
    generalize kk % 64 = kb at hm64
    refine ⟨by decide, _, T.row.lget rfl, by decide, (ref_Read_spec T.ref.dev _).mono ?_⟩
    rintro _ w5 ⟨rfl, rfl⟩
    rw [if_pos ⟨by omega, by omega⟩, Int.toNat_natCast]
    have hrl : (rowF j.s.F (ks * 64) 64).length = 64 := rowF_length _ _ _
    generalize rowF j.s.F (ks * 64) 64 = r at hrl
    refine .inl ⟨_, _, rfl, by omega, fun cp w6 ho6 hg6 => ?_⟩
    have s6 : Still w5 w6 := (Mod.refl _ _).grown hg6 fun _ h => by cases h
    obtain ⟨g', cap, cur, hv, _, hr6, hcap, hsz, htk⟩ := ho6.row (by omega)
    injection hv with hv1 hv2 hv3
    injection hv1 with hv1
    injection hv1 with hv1 _ _
    subst hv1 hv3
    have hcur : ∀ (n : Nat) (u : UInt8), r[n]? = some u → cur.toList[n]? = some (.int .u8 (u.toNat : Int)) := by
      intro n u hu
      have hn : n < r.length := (List.getElem?_eq_some_iff.1 hu).1
      have h2 : (cur.toList.take (r.length * 1))[n]? = some (.int .u8 (u.toNat : Int)) := by rw [htk]; simp [hu]
      rwa [List.getElem?_take_of_lt (by omega)] at h2
    have hcl : 64 ≤ cur.toList.length := by simp; omega
    have hr6' : Row w6 w5.heap.size ty_uint8 ⟨cur.toList⟩ := hr6
    obtain ⟨u0, hu0⟩ : ∃ u, r[kb]? = some u := ⟨_, getD_some (by omega)⟩
    refine ⟨by decide, by decide, by omega, by omega, _, by rw [add_row, Nat.zero_add, Nat.mul_one]; exact hr6'.lget (hcur _ _ hu0), by omega, by omega, ?_⟩
    obtain ⟨ub, hub⟩ := xor_u8 (u0.toNat : Int) bx
    rw [hub, add_row, Nat.zero_add, Nat.mul_one]
    refine stK (g := w5.heap.size) (o := kb) hr6' (by simp; omega) (by simp [Value.oneCell']) fun w7 r7 m7 z7 => ?_
    simp only [ovw] at r7
    have T6 := T.still s6
    have h06 := h04.trans s6
    have gB : ∀ {n}, n = w5.heap.size → w.heap.size ≤ n := fun h => by have := h04.size; omega
    have s57 : Still w5 w7 := Mod.trans s6 m7 (fun _ h => h) (fun n hn e => by omega)
    have T7 := T.still s57
    have h07 := h04.trans s57
    have hbytes : ∀ {wq : World}, Row wq w5.heap.size ty_uint8 ⟨cur.toList.set kb (.int .u8 (ub.toNat : Int))⟩ → ∀ (n : Nat) (u : UInt8), (r.set kb ub)[n]? = some u → wq.cell? ((Addr.mk w5.heap.size 0 none).add n) = some (.int .u8 (u.toNat : Int)) := by
      intro wq hq n u hu
      rw [add_row, Nat.zero_add]
      refine hq.lget ?_
      by_cases e : kb = n
      · subst e
        rw [List.getElem?_set_self (by omega)] at hu ⊢
        rw [← Option.some.inj hu]
      · rw [List.getElem?_set_ne e] at hu ⊢
        exact hcur _ _ hu
    have hlen : (r.set kb ub).length = r.length := List.length_set ..
    refine ⟨fun wq => Row wq i.gx ty_scullionlaw04_pair _ ∧ Row wq w5.heap.size ty_uint8 ⟨cur.toList.set kb (.int .u8 (ub.toNat : Int))⟩, ⟨T7.drew.row, r7⟩, _, fun wq hq => hq.1.lget rfl, by decide, r.set kb ub, ⟨hlen, fun _ => ⟨_, rfl, fun n u hu wq hq => hbytes hq.2 n u hu⟩⟩, (device_Write_spec T7.drew.prog.dev ok.s ks _).mono ?_⟩
    rintro _ w8 ⟨rfl, m8, d8⟩
    have T8 := T7.drew.devA m8 d8
    have mA : Mod i.A w7.drew w8 := m8.weaken fun k hk => hk.elim .inl fun h => .inr (.inl h)
    have h08 := T7.drew.stillA h07.toDrew mA
    have nA : ¬ i.A w5.heap.size := fun h => by have := (T.prog.foot h).2; omega
    have r8 := (r7.still (Still.refl w7).toDrew).mod mA nA
    refine .inl ⟨_, rfl, fun wq => Row wq i.gx ty_scullionlaw04_pair _ ∧ Row wq w5.heap.size ty_uint8 ⟨cur.toList.set kb (.int .u8 (ub.toNat : Int))⟩, ⟨T8.drew.row, r8⟩, _, fun wq hq => hq.1.lget rfl, by decide, r.set kb ub, ⟨hlen, fun _ => ⟨_, rfl, fun n u hu wq hq => hbytes hq.2 n u hu⟩⟩, (ref_Write_spec T8.drew.ref.dev ok.s ks _).mono ?_⟩
    rintro _ w9 ⟨rfl, m9, d9⟩
    have T9 := T8.drew.devB m9 d9
    have mB : Mod i.B w8.drew w9 := m9.weaken fun k hk => hk.elim .inl fun h => .inr (.inl h)
    have h09 := T8.drew.stillB h08.toDrew mB
    have ok9 := (write_ok ok.s ks (r.set kb ub)).1
    refine .inl ⟨_, rfl, fun wq => Row wq i.gx ty_scullionlaw04_pair _, T9.drew.row, _, fun wq hq => hq.lget rfl, _, fun wq hq => hq.lget rfl, (opensBoth he h09.toDrew T9.drew rfl ok9 (R := fun w' => ∃ i' : Ids, i'.gx = i.gx ∧ Two w w' i' (Js.opened (j.s.write ks (r.set kb ub)).2) (Js.opened (j.s.write ks (r.set kb ub)).2) ∧ Still w w') fun i' w' h1 h2 h3 => ⟨i', h1, h2, h3⟩).mono ?_⟩
    rintro _ w10 ⟨gj, rfl, r10, h10⟩
    refine .inl ⟨_, rfl, r10, h10.mono ?_⟩
    rintro _ w11 ⟨hj, rfl, h11⟩
    refine .inl ⟨_, rfl, ?_⟩
    have ok' := Js.opened_ok ok9
    generalize Js.opened (j.s.write ks (r.set kb ub)).2 = j' at h11 ok'
    have mono : ∀ {a : Addr} {K K' : World → Prop} {vs : List Value} {n : Nat} {w : World}, stCells a K n vs w → (∀ w', K w' → K' w') → stCells a K' n vs w := by
      intro a K K' vs
      induction vs with
      | nil => intro n w h hk; exact hk _ h
      | cons v r ih =>
        intro n w h hk
        obtain ⟨hv, h1, h2⟩ := bsel_true_out h
        refine bsel_of (fun _ => ⟨h1, ih h2 hk⟩) (fun h => by rw [hv] at h; cases h)
    refine mono h11 fun w12 h12 => mono h12 fun w13 h13 => ?_
    obtain ⟨i', hgx, T13, h013⟩ := h13
    rw [← hgx]
    refine ⟨fun wq => Row wq i'.gx ty_scullionlaw04_pair _, T13.drew.row, _, fun wq hq => hq.lget rfl, ?_⟩
    refine bsel_of (fun _ => ?_) (fun h => by cases h)
    refine ⟨_, fun wq hq => hq.lget rfl, _, fun wq hq => hq.lget rfl, (jrecords_spec T13.drew.prog (recs_le ok')).mono ?_⟩
    rintro _ w14 ⟨q, D, rfl, o5, s14⟩
    refine .inl ⟨_, _, _, rfl, T13.drew.row.still s14, (rrecords_spec (T13.drew.ref.still s14) (recs_le ok')).mono ?_⟩
    rintro _ w15 ⟨q2, D2, rfl, o6, s15⟩
    refine .inl ⟨_, _, _, rfl, (same_spec ((StrsAt.of o5).still s15) (StrsAt.of o6) (by have := recs_le ok'; omega)).mono ?_⟩
    rintro _ w16 ⟨rfl, s16⟩
    rw [decide_eq_true rfl]
    exact .inl ⟨_, rfl, rfl, h013.toDrew.trans ((s14.trans s15).trans s16)⟩
  · rintro _ w17 ⟨hkL, hk4, i, j, rfl, T, ok, h0, hn20⟩
    obtain ⟨a, rfl, hc⟩ := hl.get hkL
    have ec : Int.toNat (k : Int) * 1 = k := by rw [Int.toNat_natCast]; omega
    refine ⟨fun wq => Row wq i.gx ty_scullionlaw04_pair _ ∧ Still w wq, ⟨T.drew.row, h0.toDrew⟩, by omega, by omega, _, fun wq hq => by rw [ec]; exact hq.2.cell hc, bsel_of (fun hx => ?_) (fun hx => ?_)⟩
    · refine ⟨⟨T.drew.row, h0.toDrew⟩, by omega, by omega, _, by rw [ec]; exact h0.toDrew.cell hc, bsel_of (fun _ => ⟨rfl, h0.toDrew⟩) (fun h => by rw [hx] at h; cases h)⟩
    · refine ⟨_, fun wq hq => hq.1.lget rfl, by omega, by omega, _, fun wq hq => by rw [ec]; exact hq.2.cell hc, _, fun wq hq => hq.1.lget rfl, by omega, by omega, _, fun wq hq => by rw [ec]; exact hq.2.cell hc, (jappend_spec he h0.toDrew T.drew.prog ok _).mono ?_⟩
      rintro _ w18 ⟨rfl, rp', J2, m2, n2⟩
      have T2 := T.drew.stepA J2 m2 n2
      have h018 := T.drew.stillA h0.toDrew m2
      refine .inl ⟨_, rfl, ⟨T2.row, h018⟩, (rappend_spec h018 T2.ref ok _).mono ?_⟩
      rintro _ w19 ⟨rfl, rq', R3, m3, n3⟩
      have T3 := T2.stepB R3 m3 n3
      have h019 := T2.stillB h018 m3
      refine .inl ⟨_, rfl, bsel_of (fun h => by simp at h) (fun _ => ⟨⟨k + 1, by rw [wrap_i64 (by omega) (by omega)]; omega, by omega, _, _, ?_, T3, (Js.append_ok ok _).1, h019, (Js.append_ok ok _).2.trans hn20⟩, ?_⟩)⟩
      · rfl
      · dsimp only
        rw [wrap_i64 (by omega) (by omega)]
        omega
end Go.Proofs.YtddkalfffhkkkaaGreatDoor
