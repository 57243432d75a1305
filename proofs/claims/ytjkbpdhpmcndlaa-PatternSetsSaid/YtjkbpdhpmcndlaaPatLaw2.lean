/- Laws of patterns with the document's answer, at the walk's level. Conditions: as each theorem names them. -/
import Derived.Test.YtjkbpdhpmcndlaaPatRef2
import Derived.Test.YtjkbpdhpmcndlaaPieces
namespace Go.Proofs.Ytjkbpdhpmcndlaa
open Go.RowKit Vc
variable {w : World}

theorem stars_spec (p : List UInt8) (hp : p.length < 1000000) : Calls Try.prog fn_law11_stars #[.string (S p)] w (fun e w' => ∃ n : Int, e = .returned (.int .i64 n) ∧ w' = w) := by
  refine law11_stars_calls _ _ _ ?_
  refine ⟨fun n x w1 => ∃ i : Nat, x = (i : Int) ∧ i ≤ p.length ∧ w1 = w, fun _ x _ => p.length - x.toNat, ⟨0, rfl, by omega, rfl⟩, ?_⟩
  rintro n _ _ w1 ⟨i, rfl, hi, rfl⟩
  refine bsel_of (fun hx => ?_) (fun _ => ⟨n, rfl, rfl⟩)
  have hx : i < p.length := by have := of_decide_eq_true hx; omega
  have e1 : IntKind.i64.wrap ((i : Int) + 1) = ((i + 1 : Nat) : Int) := by rw [wrap_i64 (by omega) (by omega)]; omega
  rw [e1]
  exact ⟨by omega, p[i], by rw [Int.toNat_natCast]; exact List.getElem?_eq_getElem hx, bsel_of (fun _ => ⟨⟨i + 1, rfl, hx, rfl⟩, by dsimp only; omega⟩) (fun _ => ⟨⟨i + 1, rfl, hx, rfl⟩, by dsimp only; omega⟩)⟩

theorem PatternMatches_spec (p s : List UInt8) : Calls Try.prog fn_law11_PatternMatches #[.string (S p), .string (S s)] w (fun e w' => e = .returned (.bool true) ∧ Still w w') := by
  refine law11_PatternMatches_calls _ _ _ _ ?_
  refine awake_spec.mono ?_
  rintro _ w1 ⟨rfl, h1⟩
  refine .inl ⟨true, rfl, bsel_of (fun _ => bsel_of (fun _ => ⟨rfl, h1⟩) (fun hp => bsel_of (fun _ => ⟨rfl, h1⟩) (fun hs => ?_))) (fun h => by cases h)⟩
  have hp := of_decide_eq_false hp
  have hs := of_decide_eq_false hs
  refine (stars_spec p (by omega)).mono ?_
  rintro _ w2 ⟨n, rfl, rfl⟩
  refine .inl ⟨n, rfl, bsel_of (fun _ => ⟨rfl, h1⟩) (fun _ => (match_spec p s (by omega) (by omega)).mono ?_)⟩
  rintro _ w3 ⟨rfl, h3⟩
  refine .inl ⟨_, rfl, (ref_match_spec p s (by omega) (by omega)).mono ?_⟩
  rintro _ w4 ⟨rfl, h4⟩
  exact .inl ⟨_, rfl, by rw [decide_eq_true rfl], (h1.trans h3).trans h4⟩

theorem PatternRemoves_spec (s p : List UInt8) (e m : Bool) : Calls Try.prog fn_law11_PatternRemoves #[.string (S s), .string (S p), .bool e, .bool m] w (fun e w' => e = .returned (.bool true) ∧ Still w w') := by
  refine law11_PatternRemoves_calls _ _ _ _ _ _ ?_
  refine awake_spec.mono ?_
  rintro _ w1 ⟨rfl, h1⟩
  refine .inl ⟨true, rfl, bsel_of (fun _ => bsel_of (fun _ => ⟨rfl, h1⟩) (fun hp => bsel_of (fun _ => ⟨rfl, h1⟩) (fun hs => ?_))) (fun h => by cases h)⟩
  have hp := of_decide_eq_false hp
  have hs := of_decide_eq_false hs
  refine (stars_spec p (by omega)).mono ?_
  rintro _ w2 ⟨n, rfl, rfl⟩
  refine .inl ⟨n, rfl, bsel_of (fun _ => ⟨rfl, h1⟩) (fun _ => (remove_spec s p e m (by omega) (by omega)).mono ?_)⟩
  rintro _ w3 ⟨rfl, h3⟩
  refine .inl ⟨_, rfl, (ref_remove_spec s p e m (by omega) (by omega)).mono ?_⟩
  rintro _ w4 ⟨rfl, h4⟩
  exact .inl ⟨_, rfl, by rw [decide_eq_true rfl], (h1.trans h3).trans h4⟩

theorem PatternTexts_spec (s : List UInt8) : Calls Try.prog fn_law11_PatternTexts #[.string (S s)] w (fun e w' => e = .returned (.bool true) ∧ Still w w') := by
  refine law11_PatternTexts_calls _ _ _ ?_
  refine awake_spec.mono ?_
  rintro _ w1 ⟨rfl, h1⟩
  refine .inl ⟨true, rfl, bsel_of (fun _ => bsel_of (fun _ => ⟨rfl, h1⟩) (fun hs => ?_)) (fun h => by cases h)⟩
  have hs := of_decide_eq_false hs
  refine (escape_spec s (by omega)).mono ?_
  rintro _ w2 ⟨rfl, h2⟩
  refine .inl ⟨_, rfl, (ref_escape_spec s (by omega)).mono ?_⟩
  rintro _ w3 ⟨rfl, rfl⟩
  refine .inl ⟨_, rfl, bsel_of (fun _ => (plain_spec s (by omega)).mono ?_) (fun h => by rw [decide_eq_true rfl] at h; cases h)⟩
  rintro _ w4 ⟨rfl, h4⟩
  refine .inl ⟨_, rfl, (ref_plain_spec s (by omega)).mono ?_⟩
  rintro _ w5 ⟨rfl, rfl⟩
  refine .inl ⟨_, rfl, bsel_of (fun _ => (special_spec s).mono ?_) (fun h => by rw [decide_eq_true rfl] at h; cases h)⟩
  rintro _ w6 ⟨rfl, h6⟩
  refine .inl ⟨_, rfl, (ref_special_spec s (by omega)).mono ?_⟩
  rintro _ w7 ⟨rfl, rfl⟩
  exact .inl ⟨_, rfl, by rw [decide_eq_true rfl], ((h1.trans h2).trans h4).trans h6⟩

def signs : List (List UInt8) := [[97], [98], [42], [63], [91], [93], [33], [45], [92], [91, 97, 45, 99, 93], [91, 33, 97, 93], [99], [46], [91, 93, 98, 93], [92, 42], [47]]
theorem signs_spec : Calls Try.prog fn_law11_Signs #[] w (fun e w' => ∃ g, e = .returned (.slice (some ⟨g, 0, none⟩) signs.length signs.length) ∧ Row w' g 9 ⟨strs signs⟩ ∧ Still w w') := by
  refine law11_Signs_calls _ _ ?_
  exact ⟨_, rfl, Row.new w 9 ⟨strs signs⟩, (Mod.refl _ _).alloc _⟩
def texts : List (List UInt8) := [[97], [98], [99], [45], [93], [91], [42], [46], [92], [100]]
theorem PatternSmall_spec (l : Option Addr) (lL lC : Nat) (hl : U8s w l lL) (m : Option Addr) (mL mC : Nat) (hm : U8s w m mL) (e most : Bool) : Calls Try.prog fn_law11_PatternSmall #[.slice l lL lC, .slice m mL mC, .bool e, .bool most] w (fun e w' => e = .returned (.bool true) ∧ Still w w') := by
  refine law11_PatternSmall_calls _ _ _ _ _ _ _ _ _ _ ?_
  refine signs_spec.mono ?_
  rintro _ w1 ⟨g, rfl, hr, h1⟩
  refine .inl ⟨_, _, _, rfl, (pieces_of (hl.still h1) hr (by decide) (by decide) (by decide)).mono ?_⟩
  rintro _ w2 ⟨p, rfl, hp, rfl⟩
  have h2 : Still w (w2.alloc (.cells ⟨strs texts⟩ 9)) := h1.alloc _
  refine .inl ⟨_, rfl, (pieces_of (sg := texts) (hm.still h2) (Row.new w2 9 ⟨strs texts⟩) (by decide) (by decide) (by decide)).mono ?_⟩
  rintro _ w3 ⟨s, rfl, hs, rfl⟩
  refine .inl ⟨_, rfl, (stars_spec p (by omega)).mono ?_⟩
  rintro _ w4 ⟨n, rfl, rfl⟩
  refine .inl ⟨n, rfl, bsel_of (fun _ => awake_spec.mono ?_) (fun _ => awake_spec.mono ?_)⟩
  · rintro _ w5 ⟨rfl, h5⟩
    exact .inl ⟨_, rfl, rfl, h2.trans h5⟩
  rintro _ w5 ⟨rfl, h5⟩
  have h25 := Still.trans h2 h5
  refine .inl ⟨true, rfl, bsel_of (fun _ => (match_spec p s (by omega) (by omega)).mono ?_) (fun h => by cases h)⟩
  rintro _ w6 ⟨rfl, h6⟩
  refine .inl ⟨_, rfl, (ref_match_spec p s (by omega) (by omega)).mono ?_⟩
  rintro _ w7 ⟨rfl, h7⟩
  refine .inl ⟨_, rfl, bsel_of (fun _ => (plain_spec p (by omega)).mono ?_) (fun h => by rw [decide_eq_true rfl] at h; cases h)⟩
  rintro _ w8 ⟨rfl, h8⟩
  refine .inl ⟨_, rfl, (ref_plain_spec p (by omega)).mono ?_⟩
  rintro _ w9 ⟨rfl, rfl⟩
  refine .inl ⟨_, rfl, bsel_of (fun _ => (special_spec p).mono ?_) (fun h => by rw [decide_eq_true rfl] at h; cases h)⟩
  rintro _ w10 ⟨rfl, h10⟩
  refine .inl ⟨_, rfl, (ref_special_spec p (by omega)).mono ?_⟩
  rintro _ w11 ⟨rfl, rfl⟩
  refine .inl ⟨_, rfl, bsel_of (fun _ => (remove_spec s p e most (by omega) (by omega)).mono ?_) (fun h => by rw [decide_eq_true rfl] at h; cases h)⟩
  rintro _ w12 ⟨rfl, h12⟩
  refine .inl ⟨_, rfl, (ref_remove_spec s p e most (by omega) (by omega)).mono ?_⟩
  rintro _ w13 ⟨rfl, h13⟩
  exact .inl ⟨_, rfl, by rw [decide_eq_true rfl], (((((h25.trans h6).trans h7).trans h8).trans h10).trans h12).trans h13⟩

def setSigns : List (List UInt8) := [[97], [45], [99], [93], [33], [92], [98], [122], [91], [128], [255]]
theorem PatternSets_spec (l : Option Addr) (lL lC : Nat) (hl : U8s w l lL) (c : Int) (hc0 : 0 ≤ c) (hc1 : c < 256) : Calls Try.prog fn_law11_PatternSets #[.slice l lL lC, .int .u8 c] w (fun e w' => e = .returned (.bool true) ∧ Still w w') := by
  refine law11_PatternSets_calls _ _ _ _ _ _ ?_
  have h1 : Still w (w.alloc (.cells ⟨strs setSigns⟩ 9)) := (Mod.refl _ _).alloc _
  refine (pieces_of (sg := setSigns) (hl.still h1) (Row.new w 9 ⟨strs setSigns⟩) (by decide) (by decide) (by decide)).mono ?_
  rintro _ w1 ⟨p, rfl, hp, rfl⟩
  obtain ⟨n, rfl⟩ := Int.eq_ofNat_of_zero_le hc0
  have hb : ((UInt8.ofNat n).toNat : Int) = (n : Int) := by simp; omega
  generalize hw2 : (w.alloc (.cells ⟨strs setSigns⟩ 9)).alloc (.cells #[(.int .u8 (n : Int))] 5) = w2
  have h2 : Still w w2 := by
    subst hw2
    exact h1.alloc _
  have hbytes : BytesAt (fun a v => w2.cell? a = some v) (some ⟨(w.alloc (.cells ⟨strs setSigns⟩ 9)).heap.size, 0, none⟩) 1 [UInt8.ofNat n] := by
    subst hw2
    have hr : Row ((w.alloc (.cells ⟨strs setSigns⟩ 9)).alloc (.cells #[(.int .u8 (n : Int))] 5)) (w.alloc (.cells ⟨strs setSigns⟩ 9)).heap.size 5 ⟨bc [UInt8.ofNat n]⟩ := by
      have : bc [UInt8.ofNat n] = [.int .u8 (n : Int)] := by simp only [bc, List.map_cons, List.map_nil, hb]
      rw [this]
      exact Row.new _ _ _
    exact hr.bytes rfl
  refine .inl ⟨_, rfl, by simp; omega, [UInt8.ofNat n], hbytes, ?_⟩
  refine awake_spec.mono ?_
  rintro _ w3 ⟨rfl, h3⟩
  have h23 := Still.trans h2 h3
  have hl1 : ([91] ++ p : List UInt8).length < 1000 := by simp; omega
  have hl2 : (([91] ++ p) ++ [93] : List UInt8).length < 1000 := by simp; omega
  have hl3 : (([91] ++ p) ++ [93, 42] : List UInt8).length < 1000 := by simp; omega
  refine .inl ⟨true, rfl, bsel_of (fun _ => (match_spec _ _ (by omega) (by simp)).mono ?_) (fun h => by cases h)⟩
  rintro _ w4 ⟨rfl, h4⟩
  refine .inl ⟨_, rfl, (ref_match_spec _ _ (by omega) (by simp)).mono ?_⟩
  rintro _ w5 ⟨rfl, h5⟩
  refine .inl ⟨_, rfl, bsel_of (fun _ => ⟨by simp; omega, (match_spec _ _ (by omega) (by simp)).mono ?_⟩) (fun h => by rw [decide_eq_true rfl] at h; cases h)⟩
  rintro _ w6 ⟨rfl, h6⟩
  refine .inl ⟨_, rfl, by simp; omega, (ref_match_spec _ _ (by omega) (by simp)).mono ?_⟩
  rintro _ w7 ⟨rfl, h7⟩
  refine .inl ⟨_, rfl, bsel_of (fun _ => ⟨by simp; omega, by simp, (match_spec _ _ (by omega) (by simp)).mono ?_⟩) (fun h => by rw [decide_eq_true rfl] at h; cases h)⟩
  rintro _ w8 ⟨rfl, h8⟩
  refine .inl ⟨_, rfl, by simp; omega, by simp, (ref_match_spec _ _ (by omega) (by simp)).mono ?_⟩
  rintro _ w9 ⟨rfl, h9⟩
  exact .inl ⟨_, rfl, by rw [decide_eq_true rfl], (((((h23.trans h4).trans h5).trans h6).trans h7).trans h8).trans h9⟩
end Go.Proofs.Ytjkbpdhpmcndlaa
