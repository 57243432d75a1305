/- Fields, the reference's side. Conditions: as each theorem names them; texts are small. -/
import Derived.Test.YtfhdhokhddplhaaDoorFldProg2
namespace Go.Proofs.YtfhdhokhddplhaaDoor
open Go.RowKit Vc
variable {w : World}

theorem in_spec (c : UInt8) (s : Txt) (hs : s.length ≤ 1000000000) : Calls Tryd.prog fn_ref14_in #[.int .u8 (c.toNat : Int), .string (S s)] w (fun e w' => e = .returned (.bool (decide (c ∈ s))) ∧ w' = w) := by
  refine ref14_in_calls _ _ _ _ ?_
  refine ⟨fun i w1 => ∃ k : Nat, i = (k : Int) ∧ k ≤ s.length ∧ c ∉ s.take k ∧ w1 = w, fun i _ => s.length - i.toNat, ⟨0, rfl, Nat.zero_le _, by simp, rfl⟩, ?_⟩
  rintro _ _ w1 ⟨k, rfl, hk, hn, rfl⟩
  refine bsel_of (fun hx => ?_) (fun hx => ?_)
  · have hx : k < s.length := by have := of_decide_eq_true hx; omega
    have e1 : IntKind.i64.wrap ((k : Int) + 1) = ((k + 1 : Nat) : Int) := by rw [wrap_i64 (by omega) (by omega)]; omega
    rw [e1]
    refine ⟨by omega, s[k], by rw [Int.toNat_natCast]; exact getD_some hx, bsel_of (fun he => ?_) (fun he => ?_)⟩
    · have he : s[k] = c := byte_eq.1 (of_decide_eq_true he)
      exact ⟨by rw [decide_eq_true (he ▸ List.getElem_mem hx)], rfl⟩
    · have he : ¬ s[k] = c := fun e => of_decide_eq_false he (byte_eq.2 e)
      refine ⟨⟨k + 1, rfl, hx, ?_, rfl⟩, by dsimp only; omega⟩
      rw [take_snoc hx]
      intro h
      rcases List.mem_append.1 h with h | h
      · exact hn h
      · exact he (List.mem_singleton.1 h).symm
  · have hx : k = s.length := by have := of_decide_eq_false hx; omega
    subst hx
    rw [List.take_length] at hn
    exact ⟨by rw [decide_eq_false hn], rfl⟩
theorem ractive_spec (s : Txt) (hs : s.length ≤ 1000000000) : Calls Tryd.prog fn_ref14_Active #[.string (S s)] w (fun e w' => e = .returned (.string (S (active s))) ∧ w' = w) := by
  refine ref14_Active_calls _ _ _ ?_
  refine ⟨fun out i w1 => ∃ k : Nat, i = (k : Int) ∧ k ≤ s.length ∧ out = active (s.take k) ∧ w1 = w, fun _ i _ => s.length - i.toNat, ⟨0, rfl, Nat.zero_le _, rfl, rfl⟩, ?_⟩
  rintro _ _ _ w1 ⟨k, rfl, hk, rfl, rfl⟩
  have hal := active_len (s.take k)
  rw [List.length_take, Nat.min_eq_left hk] at hal
  refine bsel_of (fun hx => ?_) (fun hx => ?_)
  · have hx : k < s.length := by have := of_decide_eq_true hx; omega
    have e1 : IntKind.i64.wrap ((k : Int) + 1) = ((k + 1 : Nat) : Int) := by rw [wrap_i64 (by omega) (by omega)]; omega
    rw [e1]
    simp only [Int.toNat_natCast]
    rw [drop_take1 hx]
    have hst : active (s.take (k + 1)) = active (s.take k) ++ active [s[k]] := by rw [take_snoc hx, active_append]
    refine ⟨by omega, s[k], getD_some hx, bsel_of (fun he => ?_) (fun he => ?_)⟩
    · have he : s[k] = 92 := byte_eq.1 (of_decide_eq_true he)
      refine ⟨by simp only [List.length_cons, List.length_nil]; omega, by omega, by omega, by omega, by simp only [List.length_append, List.length_cons, List.length_nil]; omega, ⟨k + 1, rfl, hx, ?_, by trivial⟩, by omega⟩
      rw [hst, he]
      simp [active, replB]
    · have he : ¬ s[k] = 92 := fun e => of_decide_eq_false he (byte_eq.2 e)
      refine ⟨by omega, by omega, by omega, by simp only [List.length_cons, List.length_nil]; omega, ⟨k + 1, rfl, hx, ?_, by trivial⟩, by omega⟩
      rw [hst]
      simp [active, replB, he]
  · have hx : k = s.length := by have := of_decide_eq_false hx; omega
    subst hx
    exact ⟨by rw [List.take_length], rfl⟩
theorem rescape_spec (s : Txt) (hs : s.length ≤ 1000000000) : Calls Tryd.prog fn_ref11_Escape #[.string (S s)] w (fun e w' => e = .returned (.string (S (escape s))) ∧ w' = w) := by
  refine ref11_Escape_calls _ _ _ ?_
  refine ⟨fun out i w1 => ∃ k : Nat, i = (k : Int) ∧ k ≤ s.length ∧ out = escape (s.take k) ∧ w1 = w, fun _ i _ => s.length - i.toNat, ⟨0, rfl, Nat.zero_le _, rfl, rfl⟩, ?_⟩
  rintro _ _ _ w1 ⟨k, rfl, hk, rfl, rfl⟩
  have hal := escape_len (s.take k)
  rw [List.length_take, Nat.min_eq_left hk] at hal
  refine bsel_of (fun hx => ?_) (fun hx => ?_)
  · have hx : k < s.length := by have := of_decide_eq_true hx; omega
    have e1 : IntKind.i64.wrap ((k : Int) + 1) = ((k + 1 : Nat) : Int) := by rw [wrap_i64 (by omega) (by omega)]; omega
    rw [e1]
    simp only [Int.toNat_natCast]
    rw [drop_take1 hx]
    refine ⟨by simp only [List.length_cons, List.length_nil]; omega, by omega, by omega, by omega, by simp only [List.length_append, List.length_cons, List.length_nil]; omega, ⟨k + 1, rfl, hx, ?_, by trivial⟩, by omega⟩
    rw [take_snoc hx, escape_snoc]
    simp
  · have hx : k = s.length := by have := of_decide_eq_false hx; omega
    subst hx
    exact ⟨by rw [List.take_length], rfl⟩

/-! ### The state -/
structure RefSt (w : World) (g : Nat) (x : St) (pa : Option Addr) (co : Nat) : Prop where
  row : Row w g 49 ⟨[.slice pa x.out.length co, .string (S x.cur), .bool x.has, .bool x.gap]⟩
  own : Owns w (g + 1) 9 1 (.slice pa x.out.length co) x.out.length (strs x.out)
def RefAt (w : World) (g : Nat) (x : St) : Prop := ∃ pa co, RefSt w g x pa co
theorem RefAt.still {w' : World} {g : Nat} {x : St} (h : RefAt w g x) (hm : Still w w') : RefAt w' g x := by
  obtain ⟨pa, co, h1, h2⟩ := h
  exact ⟨pa, co, h1.still hm, h2.still hm⟩
theorem RefAt.lt {g : Nat} {x : St} (h : RefAt w g x) : g < w.heap.size := by
  obtain ⟨pa, co, h1, h2⟩ := h
  exact h1.lt
section
variable {g : Nat} {ifs : Txt} {x : St}
theorem RefAt.c1 (h : RefAt w g x) : w.cell? ⟨g, 1, none⟩ = some (.string (S x.cur)) := by
  obtain ⟨pa, co, h1, h2⟩ := h
  exact h1.lget rfl
theorem RefAt.c2 (h : RefAt w g x) : w.cell? ⟨g, 2, none⟩ = some (.bool x.has) := by
  obtain ⟨pa, co, h1, h2⟩ := h
  exact h1.lget rfl
theorem RefAt.c3 (h : RefAt w g x) : w.cell? ⟨g, 3, none⟩ = some (.bool x.gap) := by
  obtain ⟨pa, co, h1, h2⟩ := h
  exact h1.lget rfl
theorem RefAt.set1 {K : World → Prop} (h : RefAt w g x) (s : Txt) (hK : ∀ w', RefAt w' g ⟨x.out, s, x.has, x.gap⟩ → Up g w w' → K w') : stCells (Addr.mk g 1 none) K 0 [.string (S s)] w := by
  obtain ⟨pa, co, h1, h2⟩ := h
  exact stK h1 (by simp) (by simp [Value.oneCell']) fun w3 hr3 hm3 hz3 => hK _ ⟨pa, co, hr3, h2.mod hm3 (fun k hk e => by subst e; exact h2.notRow h1 (by decide) hk)⟩ (hm3.weaken (fun k e => by omega))
theorem RefAt.set2 {K : World → Prop} (h : RefAt w g x) (b : Bool) (hK : ∀ w', RefAt w' g ⟨x.out, x.cur, b, x.gap⟩ → Up g w w' → K w') : stCells (Addr.mk g 2 none) K 0 [.bool b] w := by
  obtain ⟨pa, co, h1, h2⟩ := h
  exact stK h1 (by simp) (by simp [Value.oneCell']) fun w3 hr3 hm3 hz3 => hK _ ⟨pa, co, hr3, h2.mod hm3 (fun k hk e => by subst e; exact h2.notRow h1 (by decide) hk)⟩ (hm3.weaken (fun k e => by omega))
theorem RefAt.set3 {K : World → Prop} (h : RefAt w g x) (b : Bool) (hK : ∀ w', RefAt w' g (x.mark b) → Up g w w' → K w') : stCells (Addr.mk g 3 none) K 0 [.bool b] w := by
  obtain ⟨pa, co, h1, h2⟩ := h
  exact stK h1 (by simp) (by simp [Value.oneCell']) fun w3 hr3 hm3 hz3 => hK _ ⟨pa, co, hr3, h2.mod hm3 (fun k hk e => by subst e; exact h2.notRow h1 (by decide) hk)⟩ (hm3.weaken (fun k e => by omega))
theorem RefAt.set123 {K : World → Prop} (h : RefAt w g x) (s : Txt) (b c : Bool) (hK : ∀ w', RefAt w' g ⟨x.out, s, b, c⟩ → Up g w w' → K w') :
    stCells (Addr.mk g 1 none) (fun w4 => stCells (Addr.mk g 2 none) (fun w5 => stCells (Addr.mk g 3 none) K 0 [.bool c] w5) 0 [.bool b] w4) 0 [.string (S s)] w :=
  h.set1 s fun _ h1 u1 => h1.set2 b fun _ h2 u2 => h2.set3 c fun _ h3 u3 => hK _ h3 ((u1.trans u2).trans u3)
theorem rend_spec (h : RefAt w g x) (hs : x.size ≤ 1000000000) :
    Calls Tryd.prog fn_ref14_state_end #[.pointer (some ⟨g, 0, none⟩)] w (fun e w' => e = .returned (.tuple #[]) ∧ RefAt w' g x.fin ∧ Up g w w') := by
  refine ref14_state_end_calls _ _ _ ?_
  have hlt := h.lt
  have hf1 := out_few x
  obtain ⟨pa, co, hr, ho⟩ := h
  refine ⟨fun wq => Row wq g 49 ⟨[.slice pa x.out.length co, .string (S x.cur), .bool x.has, .bool x.gap]⟩, hr, _, _, _, fun wq hq => hq.lget rfl, _, fun wq hq => by rw [add_row]; exact hq.lget rfl, ?_⟩
  refine allocK fun w2 hr2 hs2 hz2 => ⟨(hr.still (Still.refl w).toDrew).still hs2, ?_⟩
  have hst2 : Still w w2 := (Still.refl w).toDrew.trans hs2
  have hr' := hr.still hst2
  have ho' := ho.still hst2
  refine appK_push ho' (by have := hr'.lt; omega) [.string (S x.cur)] rfl (one_one rfl) (fun _ => ⟨_, rfl, fun j u hu => ?_⟩) (by omega) (by omega) fun p' c' w3 ho3 hm3 hb3 => ?_
  · rw [add_row, Nat.zero_add]
    exact hr2.lget hu
  have hr3 := hr'.mod hm3 (fun e => ho'.notRow hr' (by decide) e)
  have hu3 : Up g w w3 := (Up.of hst2).trans (hm3.weaken (fun k e => by have := ho'.ownLt e; omega))
  refine stK hr3 (by simp) (by simp [Value.oneCell']) fun w4 hr4 hm4 hz4 => ?_
  have ho4 := ho3.mod hm4 (fun k hk e => by subst e; exact ho3.notRow hr3 (by decide) hk)
  have h4 : RefAt w4 g ⟨x.out ++ [x.cur], x.cur, x.has, x.gap⟩ := by
    refine ⟨p', c', ?_, ?_⟩
    · rw [List.length_append]
      exact hr4
    · rw [List.length_append, strs_append]
      exact ho4
  show stCells (Addr.add _ 1) _ _ _ _
  rw [add_row]
  refine h4.set1 [] fun w5 h5 u5 => ?_
  show stCells (Addr.add _ 2) _ _ _ _
  rw [add_row]
  exact h5.set2 false fun w6 h6 u6 => ⟨rfl, h6, ((hu3.trans (hm4.weaken (fun k e => by omega))).trans u5).trans u6⟩
theorem rsplit_spec (h : RefAt w g x) (s : Txt) (hs : x.size + 2 * s.length ≤ 1000000) (hi : ifs.length ≤ 1000000) :
    Calls Tryd.prog fn_ref14_state_split #[.pointer (some ⟨g, 0, none⟩), .string (S s), .string (S ifs)] w (fun e w' => e = .returned (.tuple #[]) ∧ RefAt w' g (splitS ifs x s) ∧ Up g w w') := by
  refine ref14_state_split_calls _ _ _ _ _ ?_
  refine ⟨fun i w1 => ∃ k : Nat, i = (k : Int) ∧ k ≤ s.length ∧ RefAt w1 g (splitS ifs x (s.take k)) ∧ Up g w w1, fun i _ => s.length - i.toNat, ⟨0, rfl, Nat.zero_le _, h, Up.refl _ _⟩, ?_⟩
  rintro _ _ w1 ⟨k, rfl, hk, hsp, hu⟩
  refine bsel_of (fun hx => ?_) (fun hx => ?_)
  · have hx : k < s.length := by have := of_decide_eq_true hx; omega
    have e1 : IntKind.i64.wrap ((k : Int) + 1) = ((k + 1 : Nat) : Int) := by rw [wrap_i64 (by omega) (by omega)]; omega
    rw [e1]
    simp only [Int.toNat_natCast]
    rw [drop_take1 hx]
    have hsz := splitS_size ifs (s.take k) x
    have hstep : splitS ifs x (s.take (k + 1)) = stepC ifs (splitS ifs x (s.take k)) s[k] := by rw [take_snoc hx, splitS_snoc]
    rw [List.length_take, Nat.min_eq_left (by omega)] at hsz
    generalize splitS ifs x (s.take k) = y at *
    have hsk := getD_some hx
    generalize s[k] = c at *
    refine ⟨fun w' => ∃ j : Nat, ((k + 1 : Nat) : Int) = (j : Int) ∧ j ≤ s.length ∧ RefAt w' g (splitS ifs x (s.take j)) ∧ Up g w w', ⟨by omega, c, hsk, ?_⟩, fun _ w' h => ⟨h, by omega⟩⟩
    have next : ∀ w', RefAt w' g (stepC ifs y c) → Up g w1 w' → ∃ j : Nat, ((k + 1 : Nat) : Int) = (j : Int) ∧ j ≤ s.length ∧ RefAt w' g (splitS ifs x (s.take j)) ∧ Up g w w' :=
      fun w' h1 h2 => ⟨k + 1, rfl, hx, by rw [hstep]; exact h1, hu.trans h2⟩
    refine ⟨fun b w2 => b = (decide (c ∈ ifs) && blank c) ∧ w2 = w1, ?_, ?_⟩
    · refine (in_spec c ifs (by omega)).mono ?_
      rintro _ w2 ⟨rfl, rfl⟩
      refine .inl ⟨_, rfl, bsel_of (fun h1 => ?_) (fun h1 => ⟨by rw [h1]; rfl, rfl⟩)⟩
      rw [h1, Bool.true_and]
      have b3 : ∀ n : Nat, n < 256 → (decide ((c.toNat : Int) = (n : Int))) = decide (c = UInt8.ofNat n) := by
        intro n hn
        by_cases hc : c = UInt8.ofNat n
        · subst hc
          rw [decide_eq_true rfl, decide_eq_true]
          simp
          omega
        · rw [decide_eq_false hc, decide_eq_false]
          intro e
          exact hc (UInt8.toNat_inj.1 (by simp; omega))
      have b32 := b3 32 (by decide)
      have b9 := b3 9 (by decide)
      have b10 := b3 10 (by decide)
      refine bsel_of (fun h2 => ⟨?_, rfl⟩) (fun h2 => bsel_of (fun h3 => ⟨?_, rfl⟩) (fun h3 => ⟨?_, rfl⟩))
      · unfold blank
        rw [← show decide ((c.toNat : Int) = 32) = decide (c = 32) from b32, h2]
        rfl
      · unfold blank
        rw [← show decide ((c.toNat : Int) = 32) = decide (c = 32) from b32, h2, ← show decide ((c.toNat : Int) = 9) = decide (c = 9) from b9, h3]
        rfl
      · unfold blank
        rw [← show decide ((c.toNat : Int) = 32) = decide (c = 32) from b32, h2, ← show decide ((c.toNat : Int) = 9) = decide (c = 9) from b9, h3, ← show decide ((c.toNat : Int) = 10) = decide (c = 10) from b10]
        rfl
    rintro b _ w2 ⟨rfl, rfl⟩
    refine bsel_of (fun hb => ?_) (fun hb => ?_)
    · obtain ⟨hin, hbl⟩ := Bool.and_eq_true_iff.1 hb
      have he := stepC_in (x := y) hin
      rw [if_pos hbl] at he
      refine ⟨_, by rw [add_row]; exact hsp.c2, bsel_of (fun hh => ?_) (fun hh => ?_)⟩
      · rw [if_pos hh] at he
        rw [he] at next
        refine (rend_spec hsp (by omega)).mono ?_
        rintro _ w4 ⟨rfl, hs4, hu4⟩
        refine .inl ⟨rfl, ?_⟩
        show stCells (Addr.add _ 3) _ _ _ _
        rw [add_row]
        exact hs4.set3 true fun w5 hs5 hu5 => next _ hs5 (hu4.trans hu5)
      · rw [if_neg (by rw [hh]; decide)] at he
        rw [he] at next
        exact next _ hsp (Up.refl _ _)
    · refine (in_spec c ifs (by omega)).mono ?_
      rintro _ w3 ⟨rfl, rfl⟩
      refine .inl ⟨_, rfl, bsel_of (fun hin => ?_) (fun hin => ?_)⟩
      · have he := stepC_in (x := y) hin
        rw [hin, Bool.true_and] at hb
        rw [if_neg (by rw [hb]; decide)] at he
        refine ⟨_, by rw [add_row]; exact hsp.c2, bsel_of (fun hh => ?_) (fun hh => ⟨_, by rw [add_row]; exact hsp.c3, bsel_of (fun hg => ?_) (fun hg => ?_)⟩)⟩
        · rw [if_pos (.inl hh)] at he
          rw [he] at next
          refine (rend_spec hsp (by omega)).mono ?_
          rintro _ w4 ⟨rfl, hs4, hu4⟩
          refine .inl ⟨rfl, ?_⟩
          show stCells (Addr.add _ 3) _ _ _ _
          rw [add_row]
          exact hs4.set3 false fun w5 hs5 hu5 => next _ hs5 (hu4.trans hu5)
        · have hg : y.gap = false := by simpa using hg
          rw [if_pos (.inr hg)] at he
          rw [he] at next
          refine (rend_spec hsp (by omega)).mono ?_
          rintro _ w4 ⟨rfl, hs4, hu4⟩
          refine .inl ⟨rfl, ?_⟩
          show stCells (Addr.add _ 3) _ _ _ _
          rw [add_row]
          exact hs4.set3 false fun w5 hs5 hu5 => next _ hs5 (hu4.trans hu5)
        · have hg : y.gap = true := by simpa using hg
          rw [if_neg (by rw [hh, hg]; decide)] at he
          rw [he] at next
          show stCells (Addr.add _ 3) _ _ _ _
          rw [add_row]
          exact hsp.set3 false fun w5 hs5 hu5 => next _ hs5 hu5
      · have he : stepC ifs y c = y.put (active [c]) := by unfold stepC; rw [if_neg (by rw [hin]; decide)]
        rw [he] at next
        have hal := active_len [c]
        simp only [List.length_cons, List.length_nil] at hal
        have hcf := cur_few y
        refine ⟨fun wq => RefAt wq g y, hsp.still (Still.refl _).toDrew, y.cur, fun wq hq => by rw [add_row]; exact hq.c1, by omega, by omega, by omega, (ractive_spec [c] (by simp)).mono ?_⟩
        rintro _ w4 ⟨rfl, rfl⟩
        refine .inl ⟨_, rfl, hsp.still (Still.refl _).toDrew, by omega, ?_⟩
        show stCells (Addr.add _ 1) (fun _ => stCells (Addr.add _ 2) (fun _ => stCells (Addr.add _ 3) _ _ _ _) _ _ _) _ _ _
        rw [add_row, add_row, add_row]
        exact (hsp.still (Still.refl _).toDrew).set123 _ true false fun w5 hs5 hu5 => next _ hs5 ((Up.of (Still.refl _).toDrew).trans hu5)
  · have hx : k = s.length := by have := of_decide_eq_false hx; omega
    subst hx
    rw [List.take_length] at hsp
    exact ⟨rfl, hsp, hu⟩
end
theorem rfields_spec {p : Option Addr} {n C : Nat} {l : List Sg} (h : SegsAt w p n l) (ifs : Txt) (hn : n ≤ 1000) (hl : big l ≤ 500000) (hi : ifs.length ≤ 1000000) :
    Calls Tryd.prog fn_ref14_Fields #[.slice p n C, .string (S ifs)] w (Told w (fieldsR ifs l)) := by
  refine ref14_Fields_calls _ _ _ _ _ _ ?_
  have h1 := h.1
  refine allocK fun w1 hr1 hs1 hz1 => ?_
  have h0 : RefAt w1 w.heap.size St.zero := ⟨none, 0, hr1, Owns.nil _ _ _ _⟩
  refine ⟨fun i w2 => ∃ k : Nat, i = (k : Int) ∧ k ≤ n ∧ RefAt w2 w.heap.size (allS ifs (l.take k)) ∧ Still w w2, fun i _ => n - i.toNat, ⟨0, rfl, Nat.zero_le _, h0, hs1⟩, ?_⟩
  rintro _ _ w2 ⟨k, rfl, hk, hsp, hst⟩
  have hsz := allS_size ifs (l.take k)
  refine bsel_of (fun hx => ?_) (fun hx => ?_)
  · have hx : k < n := by have := of_decide_eq_true hx; omega
    have e1 : IntKind.i64.wrap ((k : Int) + 1) = ((k + 1 : Nat) : Int) := by rw [wrap_i64 (by omega) (by omega)]; omega
    rw [e1]
    simp only [Int.toNat_natCast]
    obtain ⟨a, y, rfl, hy, c1, c2⟩ := (h.still hst).get hx
    have hyk : l[k]'(by omega) = y := (List.getElem?_eq_some_iff.1 hy).2
    have hbt := big_take (l := l) (k := k) (by omega)
    rw [hyk] at hbt
    have hstep : allS ifs (l.take (k + 1)) = takeS ifs (allS ifs (l.take k)) y := by rw [take_snoc (by omega), allS_snoc, hyk]
    generalize allS ifs (l.take k) = x at *
    have hcf := cur_few x
    have hal := active_len y.text
    have hel := escape_len y.text
    refine ⟨fun w' => ∃ j : Nat, ((k + 1 : Nat) : Int) = (j : Int) ∧ j ≤ n ∧ RefAt w' w.heap.size (allS ifs (l.take j)) ∧ Still w w', ⟨by omega, by omega, _, c2, by omega, by omega, _, c1, ?_⟩, fun _ w' h => ⟨h, by omega⟩⟩
    have next : ∀ w', RefAt w' w.heap.size (takeS ifs x y) → Up w.heap.size w2 w' → ∃ j : Nat, ((k + 1 : Nat) : Int) = (j : Int) ∧ j ≤ n ∧ RefAt w' w.heap.size (allS ifs (l.take j)) ∧ Still w w' :=
      fun w' h1 h2 => ⟨k + 1, rfl, hx, by rw [hstep]; exact h1, hst.up h2 (Nat.le_refl _)⟩
    have hd := hsp.still (Still.refl w2).toDrew
    have ud : Up w.heap.size w2 w2.drew := Up.of (Still.refl w2).toDrew
    refine bsel_of (fun hk0 => ?_) (fun hk0 => bsel_of (fun hk1 => ?_) (fun hk1 => bsel_of (fun hk2 => ?_) (fun hk2 => bsel_of (fun hk3 => ⟨_, hsp.c2, bsel_of (fun hh => ?_) (fun hh => ?_)⟩) (fun hk3 => ?_))))
    · have hk0 : y.kind = 0 := by have := of_decide_eq_true hk0; omega
      have e : takeS ifs x y = ⟨x.out, x.cur ++ active y.text, x.has || !decide (y.text = []), x.gap && decide (y.text = [])⟩ := by
        unfold takeS
        rw [if_pos hk0]
        by_cases ht : y.text = []
        · rw [if_pos ht, ht]
          obtain ⟨a, b, c, d⟩ := x
          simp [active, replB]
        · rw [if_neg ht, decide_eq_false ht]
          simp [St.put]
      rw [e] at next
      refine ⟨fun wq => RefAt wq w.heap.size x, hd, _, fun wq hq => hq.c1, _, fun wq hq => hq.c2, _, fun wq hq => hq.c3, (ractive_spec y.text (by omega)).mono ?_⟩
      rintro _ w4 ⟨rfl, rfl⟩
      refine .inl ⟨_, rfl, hd, by omega, bsel_of (fun hh => bsel_of (fun hg => ?_) (fun hg => ?_)) (fun hh => bsel_of (fun hg => ?_) (fun hg => ?_))⟩ <;>
        (rw [hh, hg] at next; exact hd.set123 _ _ _ fun w5 hs5 hu5 => next _ hs5 (ud.trans hu5))
    · have hk0 : ¬ y.kind = 0 := by have := of_decide_eq_false hk0; omega
      have hk1 : y.kind = 1 := by have := of_decide_eq_true hk1; omega
      have e : takeS ifs x y = x.put (escape y.text) := by unfold takeS; rw [if_neg hk0, if_pos hk1]
      rw [e] at next
      refine ⟨fun wq => RefAt wq w.heap.size x, hd, _, fun wq hq => hq.c1, (rescape_spec y.text (by omega)).mono ?_⟩
      rintro _ w4 ⟨rfl, rfl⟩
      exact .inl ⟨_, rfl, hd, by omega, hd.set123 _ true false fun w5 hs5 hu5 => next _ hs5 (ud.trans hu5)⟩
    · have hk0 : ¬ y.kind = 0 := by have := of_decide_eq_false hk0; omega
      have hk1 : ¬ y.kind = 1 := by have := of_decide_eq_false hk1; omega
      have hk2 : y.kind = 2 := by have := of_decide_eq_true hk2; omega
      have e : takeS ifs x y = splitS ifs x y.text := by unfold takeS; rw [if_neg hk0, if_neg hk1, if_pos hk2]
      rw [e] at next
      refine (rsplit_spec hsp _ (by omega) hi).mono ?_
      rintro _ w4 ⟨rfl, hs4, hu4⟩
      exact .inl ⟨rfl, next _ hs4 hu4⟩
    · have hk0 : ¬ y.kind = 0 := by have := of_decide_eq_false hk0; omega
      have hk1 : ¬ y.kind = 1 := by have := of_decide_eq_false hk1; omega
      have hk2 : ¬ y.kind = 2 := by have := of_decide_eq_false hk2; omega
      have hk3 : y.kind = 3 := by have := of_decide_eq_true hk3; omega
      have e : takeS ifs x y = x.fin.mark false := by unfold takeS; rw [if_neg hk0, if_neg hk1, if_neg hk2, if_pos hk3, if_pos hh]
      rw [e] at next
      refine (rend_spec hsp (by omega)).mono ?_
      rintro _ w4 ⟨rfl, hs4, hu4⟩
      exact .inl ⟨rfl, hs4.set3 false fun w5 hs5 hu5 => next _ hs5 (hu4.trans hu5)⟩
    · have hk0 : ¬ y.kind = 0 := by have := of_decide_eq_false hk0; omega
      have hk1 : ¬ y.kind = 1 := by have := of_decide_eq_false hk1; omega
      have hk2 : ¬ y.kind = 2 := by have := of_decide_eq_false hk2; omega
      have hk3 : y.kind = 3 := by have := of_decide_eq_true hk3; omega
      have e : takeS ifs x y = x.mark false := by unfold takeS; rw [if_neg hk0, if_neg hk1, if_neg hk2, if_pos hk3, if_neg (by rw [hh]; decide)]
      rw [e] at next
      exact hsp.set3 false fun w5 hs5 hu5 => next _ hs5 hu5
    · have hk0 : ¬ y.kind = 0 := by have := of_decide_eq_false hk0; omega
      have hk1 : ¬ y.kind = 1 := by have := of_decide_eq_false hk1; omega
      have hk2 : ¬ y.kind = 2 := by have := of_decide_eq_false hk2; omega
      have hk3 : ¬ y.kind = 3 := by have := of_decide_eq_false hk3; omega
      have e : takeS ifs x y = x := by unfold takeS; rw [if_neg hk0, if_neg hk1, if_neg hk2, if_neg hk3]
      rw [e] at next
      exact next _ hsp (Up.refl _ _)
  · have hx : k = n := by have := of_decide_eq_false hx; omega
    subst hx
    rw [List.take_of_length_le (by omega)] at hsp hsz
    refine ⟨_, hsp.c2, bsel_of (fun hh => ?_) (fun hh => ?_)⟩
    · refine (rend_spec hsp (by omega)).mono ?_
      rintro _ w4 ⟨rfl, hs4, hu4⟩
      obtain ⟨pa, co, hr, ho⟩ := hs4
      have e : fieldsR ifs l = (allS ifs l).fin.out := by unfold fieldsR endS; rw [if_pos hh]
      refine .inl ⟨rfl, _, _, _, hr.lget rfl, ?_⟩
      rw [Told, e]
      exact ⟨_, _, rfl, StrsAt.of ho, hst.up hu4 (Nat.le_refl _)⟩
    · obtain ⟨pa, co, hr, ho⟩ := hsp
      have e : fieldsR ifs l = (allS ifs l).out := by unfold fieldsR endS; rw [if_neg (by rw [hh]; decide)]
      refine ⟨_, _, _, hr.lget rfl, ?_⟩
      rw [Told, e]
      exact ⟨_, _, rfl, StrsAt.of ho, hst⟩
theorem rjoined_spec {p : Option Addr} {n C : Nat} {l : List Sg} (h : SegsAt w p n l) (b : Bool) (hn : n ≤ 1000) (hl : big l ≤ 500000) :
    Calls Tryd.prog fn_ref14_Joined #[.slice p n C, .bool b] w (fun e w' => e = .returned (.string (S (joined b l))) ∧ w' = w) := by
  refine ref14_Joined_calls _ _ _ _ _ _ ?_
  have h1 := h.1
  refine ⟨fun out i w2 => ∃ k : Nat, i = (k : Int) ∧ k ≤ n ∧ out = joined b (l.take k) ∧ w2 = w, fun _ i _ => n - i.toNat, ⟨0, rfl, Nat.zero_le _, rfl, rfl⟩, ?_⟩
  rintro _ _ _ w2 ⟨k, rfl, hk, rfl, rfl⟩
  have hjl := joined_len b (l.take k)
  refine bsel_of (fun hx => ?_) (fun hx => ?_)
  · have hx : k < n := by have := of_decide_eq_true hx; omega
    have e1 : IntKind.i64.wrap ((k : Int) + 1) = ((k + 1 : Nat) : Int) := by rw [wrap_i64 (by omega) (by omega)]; omega
    rw [e1]
    simp only [Int.toNat_natCast]
    obtain ⟨a, y, rfl, hy, c1, c2⟩ := h.get hx
    have hyk : l[k]'(by omega) = y := (List.getElem?_eq_some_iff.1 hy).2
    have hbt := big_take (l := l) (k := k) (by omega)
    rw [hyk] at hbt
    have hjs : joined b (l.take (k + 1)) = joined b (l.take k) ++ joinOne b y := by rw [take_snoc (by omega), joined_append, hyk]; simp [joined]
    have hj1 := joinOne_len b y
    refine ⟨fun out w' => out = joined b (l.take (k + 1)) ∧ w' = w2, ⟨by omega, by omega, _, c2, fun t w' => t = joinOne b y ∧ w' = w2, ⟨by omega, by omega, _, c1, ?_⟩, ?_⟩, ?_⟩
    · refine bsel_of (fun h3 => ?_) (fun h3 => bsel_of (fun hb => ⟨by omega, by omega, _, c1, bsel_of (fun h4 => ?_) (fun h4 => bsel_of (fun _ => ?_) (fun hb' => by rw [hb] at hb'; cases hb'))⟩) (fun hb => bsel_of (fun hb' => by rw [hb] at hb'; cases hb') (fun _ => ?_)))
      · have h3 : y.kind = 3 := by have := of_decide_eq_true h3; omega
        exact ⟨by unfold joinOne; rw [if_pos h3], rfl⟩
      · have h3 : ¬ y.kind = 3 := by have := of_decide_eq_false h3; omega
        have h4 : y.kind = 1 := by have := of_decide_eq_true h4; omega
        have e : joinOne b y = escape y.text := by unfold joinOne; rw [if_neg h3, if_pos hb, if_pos h4]
        rw [e]
        refine (rescape_spec y.text (by omega)).mono ?_
        rintro _ w4 ⟨rfl, rfl⟩
        exact .inl ⟨_, rfl, rfl, rfl⟩
      · have h3 : ¬ y.kind = 3 := by have := of_decide_eq_false h3; omega
        have h4 : ¬ y.kind = 1 := by have := of_decide_eq_false h4; omega
        have e : joinOne b y = active y.text := by unfold joinOne; rw [if_neg h3, if_pos hb, if_neg h4]
        rw [e]
        refine (ractive_spec y.text (by omega)).mono ?_
        rintro _ w4 ⟨rfl, rfl⟩
        exact .inl ⟨_, rfl, rfl, rfl⟩
      · have h3 : ¬ y.kind = 3 := by have := of_decide_eq_false h3; omega
        exact ⟨by unfold joinOne; rw [if_neg h3, if_neg (by rw [hb]; decide)], rfl⟩
    · rintro t _ w' ⟨rfl, rfl⟩
      exact ⟨by omega, by rw [hjs], rfl⟩
    · rintro out _ w' ⟨rfl, rfl⟩
      exact ⟨⟨k + 1, rfl, hx, rfl, rfl⟩, by omega⟩
  · have hx : k = n := by have := of_decide_eq_false hx; omega
    subst hx
    rw [List.take_of_length_le (by omega)]
    exact ⟨rfl, rfl⟩
end Go.Proofs.YtfhdhokhddplhaaDoor
