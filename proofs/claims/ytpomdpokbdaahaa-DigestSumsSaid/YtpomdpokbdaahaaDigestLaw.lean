/- The three laws of the digest, at the walk's level: whatever the input, each returns true and turns nothing. Conditions: as each theorem names them. -/
import Derived.Test.YtpomdpokbdaahaaDigestRef3
namespace Go.Proofs.Ytpomdpokbdaahaa
open Go.RowKit Vc
variable {w : World}

theorem Still.trans {a b c : World} (h : Still a b) (k : Still b c) : Still a c := Mod.trans h k (fun _ h => h) (fun _ _ h => h)

theorem DigestSums_spec (s : List UInt8) : Calls Try.prog fn_law01_DigestSums #[.string (S s)] w (fun e w' => e = .returned (.bool true) ∧ Still w w') := by
  refine law01_DigestSums_calls _ _ _ ?_
  refine awake_spec.mono ?_
  rintro _ w1 ⟨rfl, hm1⟩
  refine .inl ⟨true, rfl, bsel_of (fun _ => bsel_of (fun _ => ⟨rfl, hm1⟩) (fun hl => ?_)) (fun h => by cases h)⟩
  have hl := of_decide_eq_false hl
  refine (sum_spec s (by omega)).mono ?_
  rintro _ w2 ⟨rfl, hm2⟩
  refine .inl ⟨_, rfl, (ref_sum_spec s (by omega)).mono ?_⟩
  rintro _ w3 ⟨rfl, hm3⟩
  refine .inl ⟨_, rfl, ?_, (hm1.trans hm2).trans hm3⟩
  rw [decide_eq_true rfl]

theorem hexd_ok (x : B) (k : Nat) : (48 ≤ (hexd x k).toNat ∧ (hexd x k).toNat ≤ 57) ∨ (97 ≤ (hexd x k).toNat ∧ (hexd x k).toNat ≤ 102) := by
  have h : ∀ i : Fin 16, (48 ≤ (hexs.getD i.val 0).toNat ∧ (hexs.getD i.val 0).toNat ≤ 57) ∨ (97 ≤ (hexs.getD i.val 0).toNat ∧ (hexs.getD i.val 0).toNat ≤ 102) := by decide
  have hlt : ((x >>> k) &&& 15#32).toNat < 16 := by
    rw [BitVec.toNat_and]
    exact Nat.lt_of_le_of_lt Nat.and_le_right (by decide)
  exact h ⟨_, hlt⟩
theorem hex_length (s : S8) : s.hex.length = 64 := rfl
theorem hex_ok (s : S8) : ∀ b ∈ s.hex, (48 ≤ b.toNat ∧ b.toNat ≤ 57) ∨ (97 ≤ b.toNat ∧ b.toNat ≤ 102) := by
  intro b hb
  simp only [S8.hex, List.mem_flatMap] at hb
  obtain ⟨x, _, hx⟩ := hb
  simp only [hex8, List.mem_cons, List.not_mem_nil, or_false] at hx
  rcases hx with rfl | rfl | rfl | rfl | rfl | rfl | rfl | rfl <;> exact hexd_ok _ _
theorem DigestDigits_spec (s : List UInt8) : Calls Try.prog fn_law01_DigestDigits #[.string (S s)] w (fun e w' => e = .returned (.bool true) ∧ Still w w') := by
  refine law01_DigestDigits_calls _ _ _ ?_
  refine awake_spec.mono ?_
  rintro _ w1 ⟨rfl, hm1⟩
  refine .inl ⟨true, rfl, bsel_of (fun h => by cases h) (fun _ => bsel_of (fun _ => ⟨rfl, hm1⟩) (fun hl => ?_))⟩
  have hl := of_decide_eq_false hl
  refine (sum_spec s (by omega)).mono ?_
  rintro _ w2 ⟨rfl, hm2⟩
  have hok : ∀ b ∈ sha s, (48 ≤ b.toNat ∧ b.toNat ≤ 57) ∨ (97 ≤ b.toNat ∧ b.toNat ≤ 102) := by
    unfold sha
    exact hex_ok _
  have hlen : (sha s).length = 64 := by
    unfold sha
    exact hex_length _
  generalize sha s = t at hok hlen
  refine .inl ⟨_, rfl, fun x w3 => ∃ i : Nat, x = (i : Int) ∧ i ≤ 64 ∧ Still w w3, fun x _ => (64 - x).toNat, ⟨0, rfl, by omega, hm1.trans hm2⟩, ?_⟩
  rintro _ _ w3 ⟨i, rfl, hi, hm⟩
  have e1 : IntKind.i64.wrap ((i : Int) + 1) = ((i + 1 : Nat) : Int) := by rw [wrap_i64 (by omega) (by omega)]; omega
  rw [e1, hlen]
  refine bsel_of (fun hx => ?_) (fun hx => ?_)
  · have hx := of_decide_eq_true hx
    have hx' : i < t.length := by omega
    have hn : (∃ i_1 : Nat, ((i + 1 : Nat) : Int) = (i_1 : Int) ∧ i_1 ≤ 64 ∧ Still w w3) ∧ (64 - ((i + 1 : Nat) : Int)).toNat < (64 - (i : Int)).toNat := ⟨⟨i + 1, rfl, by omega, hm⟩, by omega⟩
    have hg : t[Int.toNat (i : Int)]? = some t[i] := by rw [Int.toNat_natCast]; simp
    have hb := hok t[i] (List.getElem_mem _)
    refine ⟨by omega, _, hg, bsel_of (fun h48 => ⟨by omega, _, hg, bsel_of (fun h57 => hn) (fun h57 => ⟨by omega, _, hg, bsel_of (fun h97 => ⟨by omega, _, hg, bsel_of (fun h102 => ?_) (fun _ => hn)⟩) (fun h97 => ?_)⟩)⟩) (fun h48 => ⟨by omega, _, hg, bsel_of (fun h97 => ⟨by omega, _, hg, bsel_of (fun h102 => ?_) (fun _ => hn)⟩) (fun h97 => ?_)⟩)⟩
    · have h := of_decide_eq_false h57
      have h2 : decide ((t[i].toNat : Int) ≤ 102) = false := by simpa using h102
      have h2 := of_decide_eq_false h2
      omega
    · have h := of_decide_eq_false h57
      have h2 := of_decide_eq_false h97
      omega
    · have h := of_decide_eq_false h48
      have h2 : decide ((t[i].toNat : Int) ≤ 102) = false := by simpa using h102
      have h2 := of_decide_eq_false h2
      omega
    · have h := of_decide_eq_false h48
      have h2 := of_decide_eq_false h97
      omega
  · exact bsel_of (fun _ => ⟨rfl, hm⟩) (fun h => by cases h)

/-- A row of bytes. -/
def BytesRow (w : World) (g : Nat) (n : Nat) : Prop := ∃ l : List UInt8, l.length = n ∧ Row w g 5 ⟨bc l⟩
theorem BytesRow.new (w : World) {n : Nat} : BytesRow (w.alloc (.cells (madeCells #[(.int .u8 0)] (n * 1)) 5)) w.heap.size n := by
  refine ⟨List.replicate n 0, by simp, ?_⟩
  have : madeCells #[(.int .u8 0)] (n * 1) = ⟨bc (List.replicate n 0)⟩ := by
    apply Array.ext'
    apply List.ext_getElem?
    intro j
    have e0 : bc (List.replicate n 0) = List.replicate n (.int .u8 0) := by simp [bc]
    rw [e0, List.getElem?_replicate]
    by_cases hj : j < n
    · simp [madeCells, hj, Nat.mod_one]
    · simp [madeCells, hj]
  rw [this]
  exact Row.new _ _ _
theorem DigestLengths_spec (n c : Int) (hn0 : 0 ≤ n) (hn1 : n < 256) (hc0 : 0 ≤ c) (hc1 : c < 256) : Calls Try.prog fn_law01_DigestLengths #[.int .u8 n, .int .u8 c] w (fun e w' => e = .returned (.bool true) ∧ Still w w') := by
  refine law01_DigestLengths_calls _ _ _ _ ?_
  obtain ⟨n, rfl⟩ := Int.eq_ofNat_of_zero_le hn0
  have e1 : IntKind.i64.wrap (n : Int) = (n : Int) := wrap_i64 (by omega) (by omega)
  have e2 : Int.tmod (n : Int) 20 = ((n % 20 : Nat) : Int) := by rw [Int.tmod_eq_emod_of_nonneg (by omega)]; omega
  have e3 : IntKind.i64.wrap (50 + ((n % 20 : Nat) : Int)) = ((50 + n % 20 : Nat) : Int) := by rw [wrap_i64 (by omega) (by omega)]; omega
  have e4 : IntKind.i64.wrap (114 + ((n % 20 : Nat) : Int)) = ((114 + n % 20 : Nat) : Int) := by rw [wrap_i64 (by omega) (by omega)]; omega
  unfold vc_law01_DigestLengths
  simp only [e1, e2, e3, e4, Int.toNat_natCast]
  refine ⟨by decide, by omega, by omega, by omega, by omega, fun b L C w1 => ∃ g, b = some ⟨g, 0, none⟩ ∧ w.heap.size ≤ g ∧ L < 1000 ∧ BytesRow w1 g L ∧ Still w w1, bsel_of (fun _ => ⟨by decide, by omega, by omega, by omega, by omega, _, rfl, by simp, by omega, BytesRow.new _, ((Mod.refl _ _).alloc _).alloc _⟩) (fun _ => ⟨_, rfl, by simp, by omega, BytesRow.new _, (Mod.refl _ _).alloc _⟩), ?_⟩
  rintro _ L C _ w1 ⟨g, rfl, hg, hL, hb1, hm1⟩
  refine ⟨fun x w2 => ∃ i : Nat, x = (i : Int) ∧ i ≤ L ∧ BytesRow w2 g L ∧ Still w w2, fun x _ => (L - x).toNat, ⟨0, rfl, by omega, hb1, hm1⟩, ?_⟩
  rintro _ _ w2 ⟨i, rfl, hi, ⟨l, hl, hr⟩, hm2⟩
  have e5 : IntKind.i64.wrap ((i : Int) + 1) = ((i + 1 : Nat) : Int) := by rw [wrap_i64 (by omega) (by omega)]; omega
  refine bsel_of (fun hx => ?_) (fun hx => ?_)
  · have hx := of_decide_eq_true hx
    simp only [e5, Int.toNat_natCast]
    have hu : ∃ b : UInt8, IntKind.u8.wrap (c + IntKind.u8.wrap (i : Int)) = (b.toNat : Int) := by
      rw [wrap_u8]
      obtain ⟨m, hm⟩ : ∃ m : Nat, c + ((UInt8.ofNat i).toNat : Int) = (m : Int) := ⟨(c + ((UInt8.ofNat i).toNat : Int)).toNat, by omega⟩
      rw [hm, wrap_u8]
      exact ⟨_, rfl⟩
    obtain ⟨b, hb⟩ := hu
    rw [hb]
    refine ⟨by omega, hx, hr.wrAt (by rw [bc_length]; omega), ⟨i + 1, rfl, by omega, ⟨l.set i b, by simp [hl], ?_⟩, hm2.setAt (.inr hg) _ _⟩, by omega⟩
    rw [← bc_set]
    exact hr.setAt _ _
  · have hB : ∀ wq : World, Still w2 wq → Row wq g 5 ⟨bc l⟩ := fun wq hq => hr.mod hq (fun h => h)
    have hbytes : BytesAt (fun a v => ∀ wq : World, Still w2 wq → wq.cell? a = some v) (some ⟨g, 0, none⟩) L l := by
      refine ⟨hl, fun _ => ⟨_, rfl, fun j b hb wq hq => ?_⟩⟩
      rw [add_row, Nat.zero_add]
      exact (hB wq hq).cellv (by simpa using bc_get hb)
    refine ⟨fun wq => Still w2 wq, (Mod.refl _ _).drew, awake_spec.mono ?_⟩
    rintro _ w3 ⟨rfl, hm3⟩
    have h3 : Still w2 w3 := Still.trans (Mod.refl _ _).drew hm3
    refine .inl ⟨true, rfl, h3, bsel_of (fun _ => ⟨l, hbytes, l, hbytes, (sum_spec l (by omega)).mono ?_⟩) (fun h => by cases h)⟩
    rintro _ w4 ⟨rfl, hm4⟩
    refine .inl ⟨_, rfl, h3.trans hm4, (ref_sum_spec l (by omega)).mono ?_⟩
    rintro _ w5 ⟨rfl, hm5⟩
    refine .inl ⟨_, rfl, ?_, ((Still.trans hm2 h3).trans hm4).trans hm5⟩
    rw [decide_eq_true rfl]
end Go.Proofs.Ytpomdpokbdaahaa
