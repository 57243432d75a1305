/- Texts of one proof, one behind the other. Conditions: as each theorem names them. -/
import Derived.Test.YtcoeiiihmpnagaaGreatDoorK10
namespace Go.Proofs.YtcoeiiihmpnagaaGreatDoor
open Go.RowKit Vc
variable {w : World}
theorem ph_len : ∀ x ∈ ph09, x.length ≤ 40 := by decide
theorem ref_got (s : Txt) : Calls Tryz.prog fn_ref09_Parse #[.string (S s)] w (GotN w (parseR s).1 fun v => .tuple #[v, .int .i64 (parseR s).2]) := by
  refine (ref_parse_spec s).mono ?_
  rintro _ w1 ⟨cs, rfl, hn, s1⟩
  obtain ⟨pw, cw, pa, ca, pr, cr, po, co, pk, ck, rfl, _⟩ := hn.outs
  exact ⟨pw, cw, pa, ca, pr, cr, po, co, pk, ck, rfl, hn, s1⟩
theorem SyntaxPhrases_spec {l : Option Addr} {lL lC : Nat} {vs : List Nat} (hl : U8At w l lL vs) : Calls Tryz.prog fn_law09_SyntaxPhrases #[.slice l lL lC] w (fun e w' => e = .returned (.bool true) ∧ Still w w') := by
  refine law09_SyntaxPhrases_calls _ _ _ _ _ ?_
  refine Phrases_spec.mono ?_
  rintro _ w1 ⟨q, rfl, hq, s1⟩
  refine .inl ⟨_, _, _, rfl, (pieces_spec (sg := ph09) (hl.still s1) hq (by decide) (by decide) (fun x hx => Nat.le_trans (ph_len x hx) (by decide))).mono ?_⟩
  generalize piecesR ph09 vs = s at *
  rintro _ w2 ⟨rfl, rfl⟩
  refine .inl ⟨_, rfl, (parse_got s).mono ?_⟩
  rintro _ w3 ⟨pw3, cw3, pa3, ca3, pr3, cr3, po3, co3, pk3, ck3, rfl, n3, s3⟩
  refine .inl ⟨_, _, _, _, _, _, _, _, _, _, _, _, _, _, _, _, _, _, _, rfl, boxK rfl (by simp [Value.oneCell']) fun w5 r5 s5 z5 => (ref_got s).mono ?_⟩
  rintro _ w6 ⟨pw6, cw6, pa6, ca6, pr6, cr6, po6, co6, pk6, ck6, rfl, n6, s6⟩
  refine .inl ⟨_, _, _, _, _, _, _, _, _, _, _, _, _, _, _, _, _, _, _, rfl, boxK rfl (by simp [Value.oneCell']) fun w8 r8 s8 z8 => awake_spec.mono ?_⟩
  rintro _ w9 ⟨rfl, s9⟩
  have r5 := ((r5.still s6).still s8).still s9
  have r8 := r8.still s9
  have n3 := (((n3.still s5).still s6).still s8).still s9
  have n6 := (n6.still s8).still s9
  have hwt := parseR_wt s
  refine .inl ⟨_, rfl, bsel_of (fun _ => ?_) (fun h => by cases h)⟩
  refine ⟨_, _, _, _, _, _, _, _, _, _, _, _, _, _, _, _, _, _, r5.lget rfl, r5.lget rfl, r5.lget rfl, r5.lget rfl, r5.lget rfl, r5.lget rfl, r5.lget rfl, r5.lget rfl, _, _, _, _, _, _, _, _, _, _, _, _, _, _, _, _, _, _, r8.lget rfl, r8.lget rfl, r8.lget rfl, r8.lget rfl, r8.lget rfl, r8.lget rfl, r8.lget rfl, r8.lget rfl, (sameN_true n3 n6 (by omega)).mono ?_⟩
  rintro _ w10 ⟨rfl, s10⟩
  exact .inl ⟨_, rfl, bsel_of (fun _ => ⟨by rw [decide_eq_true rfl], (((((s1.trans s3).trans s5).trans s6).trans s8).trans s9).trans s10⟩) (fun h => by cases h)⟩
def opens09 : List Txt := [[40, 32], [123, 32], [105, 102, 32, 97, 59, 32, 116, 104, 101, 110, 32], [119, 104, 105, 108, 101, 32, 97, 59, 32, 100, 111, 32], [99, 97, 115, 101, 32, 97, 32, 105, 110, 32, 97, 41, 32], [102, 40, 41, 32, 123, 32], [105, 102, 32, 97, 59, 32, 116, 104, 101, 110, 32, 98, 59, 32, 101, 108, 105, 102, 32, 99, 59, 32, 116, 104, 101, 110, 32]]
def ends09 : List Txt := [[41, 32], [59, 32, 125], [59, 32, 102, 105], [59, 32, 100, 111, 110, 101], [59, 59, 32, 101, 115, 97, 99], [59, 32, 125], [59, 32, 102, 105]]
theorem SyntaxDeep_spec (n : Int) (hn0 : 0 ≤ n) (hn1 : n < 256) (kind : Int) (hk0 : 0 ≤ kind) (hk1 : kind < 256) : Calls Tryz.prog fn_law09_SyntaxDeep #[.int .u8 n, .int .u8 kind] w (fun e w' => e = .returned (.bool true) ∧ Still w w') := by
  obtain ⟨n, rfl⟩ := Int.eq_ofNat_of_zero_le hn0
  obtain ⟨kind, rfl⟩ := Int.eq_ofNat_of_zero_le hk0
  refine law09_SyntaxDeep_calls _ _ _ _ ?_
  have h21 : n % 21 < 21 := Nat.mod_lt _ (by decide)
  have h7 : kind % 7 < 7 := Nat.mod_lt _ (by decide)
  have e7 : IntKind.i64.wrap (20 + Int.tmod (IntKind.i64.wrap (n : Int)) 21) = ((20 + n % 21 : Nat) : Int) := by
    rw [wrap_i64 (n := (n : Int)) (by omega) (by omega), show Int.tmod (n : Int) 21 = ((n % 21 : Nat) : Int) from tmod_nat _ 21, wrap_i64 (by omega) (by omega)]
    omega
  have e8 : Int.tmod (IntKind.i64.wrap (kind : Int)) 7 = ((kind % 7 : Nat) : Int) := by
    rw [wrap_i64 (n := (kind : Int)) (by omega) (by omega), show Int.tmod (kind : Int) 7 = ((kind % 7 : Nat) : Int) from tmod_nat _ 7]
  unfold vc_law09_SyntaxDeep
  rw [e7, e8, Int.toNat_natCast]
  generalize kind % 7 = i at *
  have hm : 20 + n % 21 ≤ 40 := by omega
  generalize 20 + n % 21 = m at *
  refine allocK fun w1 r1 s1 z1 => allocK fun w2 r2 s2 z2 => ?_
  have a1 : StrsAt w2 (some ⟨w.heap.size, 0, none⟩) opens09.length opens09 := StrsAt.row (l := opens09) (r1.still s2)
  have a2 : StrsAt w2 (some ⟨w1.heap.size, 0, none⟩) ends09.length ends09 := StrsAt.row (l := ends09) r2
  have l1 : ∀ x ∈ opens09, x.length ≤ 40 := by decide
  have l2 : ∀ x ∈ ends09, x.length ≤ 40 := by decide
  have s02 := s1.trans s2
  refine ⟨by decide, fun s t i w3 => ∃ k : Nat, i = (k : Int) ∧ k ≤ m ∧ s.length ≤ 40 * k ∧ t.length ≤ 1 + 40 * k ∧ w3 = w2, fun _ _ i _ => m - i.toNat, ⟨0, rfl, Nat.zero_le _, by simp, by simp, rfl⟩, ?_⟩
  rintro s t _ _ w3 ⟨k, rfl, hk, hs, ht, rfl⟩
  refine ⟨by decide, bsel_of (fun hx => ?_) (fun hx => ?_)⟩
  · have hx : k < m := by have := of_decide_eq_true hx; omega
    have e2 : IntKind.i64.wrap ((k : Int) + 1) = ((k + 1 : Nat) : Int) := by rw [wrap_i64 (by omega) (by omega)]; omega
    rw [e2]
    obtain ⟨b1, hb1, c1⟩ := a1.get (k := i) h7
    obtain ⟨b2, hb2, c2⟩ := a2.get (k := i) h7
    obtain rfl := Option.some.inj hb1
    obtain rfl := Option.some.inj hb2
    have m1 := l1 _ (List.getElem_mem (show i < opens09.length from h7))
    have m2 := l2 _ (List.getElem_mem (show i < ends09.length from h7))
    refine ⟨by omega, by omega, _, by rw [Nat.mul_one]; exact c1, by omega, by omega, by omega, _, by rw [Nat.mul_one]; exact c2, by omega, ⟨k + 1, rfl, hx, by rw [List.length_append]; omega, by rw [List.length_append]; omega, rfl⟩, by dsimp only; omega⟩
  · have hlen : s.length + t.length ≤ 9223372036854775807 := by omega
    refine ⟨hlen, (parse_got (s ++ t)).mono ?_⟩
    generalize s ++ t = s at *
    rintro _ w4 ⟨pw3, cw3, pa3, ca3, pr3, cr3, po3, co3, pk3, ck3, rfl, n3, s3⟩
    refine .inl ⟨_, _, _, _, _, _, _, _, _, _, _, _, _, _, _, _, _, _, _, rfl, boxK rfl (by simp [Value.oneCell']) fun w6 r5 s5 z5 => ⟨hlen, (ref_got s).mono ?_⟩⟩
    rintro _ w7 ⟨pw6, cw6, pa6, ca6, pr6, cr6, po6, co6, pk6, ck6, rfl, n6, s6⟩
    refine .inl ⟨_, _, _, _, _, _, _, _, _, _, _, _, _, _, _, _, _, _, _, rfl, boxK rfl (by simp [Value.oneCell']) fun w9 r8 s8 z8 => awake_spec.mono ?_⟩
    rintro _ w10 ⟨rfl, s9⟩
    have r5 := ((r5.still s6).still s8).still s9
    have r8 := r8.still s9
    have n3 := (((n3.still s5).still s6).still s8).still s9
    have n6 := (n6.still s8).still s9
    have hwt := parseR_wt s
    refine .inl ⟨_, rfl, bsel_of (fun _ => ?_) (fun h => by cases h)⟩
    refine ⟨_, _, _, _, _, _, _, _, _, _, _, _, _, _, _, _, _, _, r5.lget rfl, r5.lget rfl, r5.lget rfl, r5.lget rfl, r5.lget rfl, r5.lget rfl, r5.lget rfl, r5.lget rfl, _, _, _, _, _, _, _, _, _, _, _, _, _, _, _, _, _, _, r8.lget rfl, r8.lget rfl, r8.lget rfl, r8.lget rfl, r8.lget rfl, r8.lget rfl, r8.lget rfl, r8.lget rfl, (sameN_true n3 n6 (by omega)).mono ?_⟩
    rintro _ w11 ⟨rfl, s10⟩
    exact .inl ⟨_, rfl, bsel_of (fun _ => ⟨by rw [decide_eq_true rfl], (((((s02.trans s3).trans s5).trans s6).trans s8).trans s9).trans s10⟩) (fun h => by cases h)⟩
end Go.Proofs.YtcoeiiihmpnagaaGreatDoor
