/- Texts of one proof, one behind the other. Conditions: as each theorem names them. -/
import Derived.Test.YtddkalfffhkkkaaDoorQ5
namespace Go.Proofs.YtddkalfffhkkkaaDoor
open Go.RowKit Vc
variable {w w0 : World}
set_option maxHeartbeats 1000000 in
theorem JournalAgain_spec (he : Env w) {p : Option Addr} {L C : Nat} {ls : List Txt} (hl : StrsAt w p L ls) (torn : Txt) (pw : Int) (p0 : 0 ≤ pw) (p1 : pw < 256) (mk : Int) (m0 : 0 ≤ mk) (m1 : mk < 18446744073709551616) (last : Txt) :
    Calls Tryd.prog fn_law04_JournalAgain #[.slice p L C, .string (S torn), .int .u8 pw, .int .u64 mk, .string (S last)] w (fun e w' => e = .returned (.bool true) ∧ Still w w') := by
  refine law04_JournalAgain_calls _ _ _ _ _ _ _ _ _ ?_
  refine (awake4_spec he (Still.refl w)).mono ?_
  rintro _ w1 ⟨rfl, s1⟩
  refine .inl ⟨_, rfl, bsel_of (fun h => by cases h) (fun _ => ?_)⟩
  refine (device_New_spec (n := 60) (by decide) (by decide)).mono ?_
  rintro _ w2 ⟨g, b, rfl, m2, hg, hb, d2⟩
  have s2 : Still w1 w2 := m2
  have h02 := s1.trans s2
  have z1 := s1.size
  refine .inl ⟨_, _, rfl, bsel_of (fun h => by cases h) (fun _ => bsel_of (fun _ => bsel_of (fun _ => ⟨rfl, h02⟩) (fun h => by cases h)) (fun htorn => bsel_of (fun _ => bsel_of (fun _ => ⟨rfl, h02⟩) (fun h => by cases h)) (fun hlast => ?_)))⟩
  have htorn : torn.length ≤ 200 := by have := of_decide_eq_false htorn; omega
  have hlast : last.length ≤ 200 := by have := of_decide_eq_false hlast; omega
  have sok : (St.new 60).Ok := new_ok (by decide) (by decide)
  refine (jopen_spec he h02 d2 sok (by omega) (by omega)).mono ?_
  rintro _ w3 ⟨gj, rp, rfl, s3, hgj, hrp, J3⟩
  rw [show Int.toNat 60 = 60 from rfl, opened_new 60 (by decide)] at J3
  have T3 : Tidy ⟨St.new 60, [], 0⟩ := ⟨⟨sok, Nat.zero_le _, Nat.le_refl _⟩, rfl, .inr (by show (0 : UInt8) ≠ 49; decide)⟩
  refine .inl ⟨_, rfl, ?_⟩
  refine ⟨fun x w7 => ∃ (k : Nat) (j : Js) (rp : Option Nat), x = (k : Int) ∧ k ≤ 4 ∧ j.k ≤ 5 * k ∧ j.s.n = 60 ∧ j.s.e = true ∧ Tidy j ∧ Jr w w7 gj g b rp j ∧ Still w w7, fun x _ => 4 - x.toNat, ⟨0, _, rp, rfl, by decide, Nat.le_refl _, rfl, rfl, T3, J3, h02.trans s3⟩, ?_⟩
  rintro _ _ w4 ⟨k, j, rp, rfl, hk4, hjk, jn, je, T4, J4, h04⟩
  refine ⟨fun x w8 => (x = true → k < L ∧ k < 4) ∧ Jr w w8 gj g b rp j ∧ Still w w8, ?_, ?_⟩
  · refine bsel_of (fun hx => bsel_of (fun hx2 => ⟨fun _ => ⟨by have := of_decide_eq_true hx; omega, by have := of_decide_eq_true hx2; omega⟩, J4, h04⟩) (fun _ => ⟨fun h => (by cases h), J4, h04⟩)) (fun _ => ⟨fun h => (by cases h), J4, h04⟩)
  rintro x _ w5 ⟨hx, J5, h05⟩
  refine bsel_of (fun hxt => ?_) (fun _ => ?_)
  · obtain ⟨hkL, hk⟩ := hx hxt
    obtain ⟨a, rfl, hc⟩ := hl.get hkL
    have ec : Int.toNat (k : Int) * 1 = k := by rw [Int.toNat_natCast]; omega
    refine ⟨by omega, by omega, _, by rw [ec]; exact h05.cell hc, bsel_of (fun _ => ⟨rfl, h05⟩) (fun h2 => ⟨by omega, by omega, _, by rw [ec]; exact h05.cell hc, ?_⟩)⟩
    have h200 : (ls[k]'(by have := hl.1; omega)).length ≤ 200 := by have := of_decide_eq_false h2; omega
    generalize ls[k]'(by have := hl.1; omega) = t at h200
    have hct := cnt_small h200
    refine (jappend_spec he h05 J5 T4.ok t).mono ?_
    rintro _ w6 ⟨rfl, rp', J6, m6, n6⟩
    obtain ⟨_, q2, _, q4, q5, q6⟩ := T4.append je (t := t) (by omega) (by omega)
    refine .inl ⟨_, rfl, ?_⟩
    rw [wrap_i64 (by omega) (by omega)]
    exact ⟨⟨k + 1, _, rp', by omega, by omega, by omega, q5.trans jn, q6, q2, J6, J5.stays h05 m6⟩, by dsimp only; omega⟩
  clear hx
  refine bsel_of (fun h => by cases h) (fun _ => ⟨by decide, (device_Limit_spec J5.dev _ _).mono ?_⟩)
  rintro _ w7 ⟨rfl, m7, d7⟩
  have J7 := J5.turn m7 d7
  have h07 := J5.turned h05 m7
  have T7 := T4.limit (pw_mod p0 p1) m0 m1
  have hc4 := cnt_small htorn
  refine .inl ⟨rfl, (jappend_spec he h07 J7 T7.ok torn).mono ?_⟩
  rintro _ w8 ⟨rfl, rp2, J8, m8, n8⟩
  have h08 := J7.stays h07 m8
  obtain ⟨l', k', e1, e2, e3, e4, T9, e6⟩ := T7.torn (t := torn) (by omega) (by show j.k + _ < j.s.n; omega)
  refine .inl ⟨_, rfl, (device_Restart_spec J8.dev).mono ?_⟩
  rintro _ w9 ⟨rfl, m9, d9⟩
  have h09 := J8.turned h08 m9
  refine .inl ⟨rfl, (jopen_spec he h09 d9 T9.ok.s (by omega) (by omega)).mono ?_⟩
  rintro _ w10 ⟨gj2, rp3, rfl, s10, hgj2, hrp3, J10⟩
  rw [e4] at J10
  refine .inl ⟨_, rfl, bsel_of (fun h => by cases h) (fun _ => ?_)⟩
  have hl' : l'.length ≤ 5000 := T9.ok.len
  have ek : k' ≤ j.k + 1 + cnt torn.length := e3
  have en : ((⟨j.s.limit (Int.tmod (IntKind.i64.wrap pw) 9) mk, j.l, j.k⟩ : Js).append torn).2.s.restart.n = 60 := e6.trans jn
  have ee : ((⟨j.s.limit (Int.tmod (IntKind.i64.wrap pw) 9) mk, j.l, j.k⟩ : Js).append torn).2.s.restart.e = true := rfl
  have h010 := h09.trans s10
  generalize ((⟨j.s.limit (Int.tmod (IntKind.i64.wrap pw) 9) mk, j.l, j.k⟩ : Js).append torn).2.s.restart = s' at J10 T9 en ee
  refine (jrecords_spec J10 hl').mono ?_
  rintro _ w11 ⟨q, D, rfl, o11, s11⟩
  have J11 := J10.still s11
  have h011 := h010.trans s11
  have hc5 := cnt_small hlast
  obtain ⟨q1, T12, q3, q4, q5, q6⟩ := T9.append ee (t := last) (by omega) (by show k' + _ < s'.n; omega)
  refine .inl ⟨_, _, _, rfl, (jappend_spec he h011 J11 T9.ok last).mono ?_⟩
  rintro _ w12 ⟨rfl, rp4, J12, m12, n12⟩
  have h012 := J11.stays h011 m12
  have q3' : ((⟨s', l', k'⟩ : Js).append last).2.l = l' ++ [last] := q3
  have hop := opened_ch T12.ch (T12.st.none _) T12.ok.k
  generalize ((⟨s', l', k'⟩ : Js).append last).2 = j2 at J12 T12 q3' hop
  refine .inl ⟨_, rfl, (jopen_spec he h012 J12.dev T12.ok.s (by omega) (by omega)).mono ?_⟩
  rintro _ w13 ⟨gj3, rp5, rfl, s13, hgj3, hrp5, J13⟩
  rw [hop] at J13
  refine .inl ⟨_, rfl, bsel_of (fun h => by cases h) (fun _ => ?_)⟩
  have z11 := s11.size
  have ft : ∀ i, Foot gj2 g b rp3 i → i < w10.heap.size := fun i hi => (J10.foot hi).2
  have o12 := o11.mod m12 fun i hi hk => by have := (o11.lt i hi).1; have := ft i hk; omega
  have o13 : Owns w13 w10.heap.size 9 1 (.slice q l'.length D) l'.length (strs l') := o12.still s13
  have z12 := m12.size
  have z13 := s13.size
  refine push1b o13 (by omega) (cs := [.string (S last)]) rfl (by intro u hu; rw [List.mem_singleton.1 hu]; rfl) (show l'.length + 1 ≤ 9223372036854775807 by omega) (show (l'.length + 1) * 16 ≤ 140737488355328 by omega) fun p2 c2 w15 o15 m15 n15 => ?_
  have bk : ∀ i, (Value.slice q l'.length D).ownBlock = some i → w10.heap.size ≤ i ∧ i < w11.heap.size := o11.lt
  have h015 : Still w w15 := Mod.trans (h012.trans s13) m15 (fun _ h => h) (fun i hi hk => by have := (bk i hk).1; have := h010.size; omega)
  have JK := (J12.still s13).mod m15 fun i hi hk => by
    have := bk i hk
    rcases hi with rfl | rfl | rfl | hi
    · have := ft _ (.inl rfl); omega
    · have := ft _ (.inr (.inl rfl)); omega
    · have := ft _ (.inr (.inr (.inl rfl))); omega
    · rcases n12 _ hi with hi | hi
      · have := ft _ (.inr (.inr (.inr hi))); omega
      · omega
  have JM := J13.mod m15 fun i hi hk => by
    have := bk i hk
    rcases hi with rfl | rfl | rfl | hi
    · have := ft _ (.inl rfl); omega
    · have := ft _ (.inr (.inl rfl)); omega
    · omega
    · rcases hrp5 _ hi with hi | hi
      · cases hi
      · omega
  have bothA : StrsAt w15 p2 (l'.length + 1) j2.l := by
    refine StrsAt.of (B := w10.heap.size) (C := c2) ?_
    rw [q3', strs_append]
    exact o15
  have hj2 := T12.ok.len
  refine bsel_of (fun _ => bsel_of (fun _ => ?_) (fun h => ?_)) (fun h => by cases h)
  · refine (jrecords_spec JK hj2).mono ?_
    rintro _ w16 ⟨q5, D5, rfl, o16, s16⟩
    refine .inl ⟨_, _, _, rfl, (same_spec (StrsAt.of o16) (bothA.still s16) (Nat.lt_of_le_of_lt hj2 (by decide))).mono ?_⟩
    rintro _ w17 ⟨rfl, s17⟩
    refine .inl ⟨_, rfl, bsel_of (fun _ => ?_) (fun h => absurd (of_decide_eq_false h) (fun h => h rfl))⟩
    refine (jrecords_spec ((JM.still s16).still s17) hj2).mono ?_
    rintro _ w18 ⟨q6, D6, rfl, o18, s18⟩
    refine .inl ⟨_, _, _, rfl, (same_spec (StrsAt.of o18) (((bothA.still s16).still s17).still s18) (Nat.lt_of_le_of_lt hj2 (by decide))).mono ?_⟩
    rintro _ w19 ⟨rfl, s19⟩
    refine .inl ⟨_, rfl, ?_, (((h015.trans s16).trans s17).trans s18).trans s19⟩
    rw [decide_eq_true rfl]
  · rw [q1] at h
    cases h
end Go.Proofs.YtddkalfffhkkkaaDoor
