/- Texts of one proof, one behind the other. Conditions: as each theorem names them. -/
import Derived.Test.YthommfjiaalecaaGreatDoorQ4
import Derived.Tactics
import Derived.Tactics2
import Derived.Defers
import Derived.Recover
import Derived.Laws.Pointers
import Derived.Shelf.Strings.Builder1
import Derived.Shelf.Strings.Builder2
import Derived.Shelf.Strings.OnBuilder
import Derived.Shelf.Strings.BuilderF
import Derived.Shelf.Strings.BuilderK
import Derived.Shelf.Utf8.RuneCount
import Derived.Shelf.Strings.Builder2Cap
import Derived.Shelf.Strings.Search1
import Derived.Shelf.Strings.Search2
import Derived.Shelf.Strings.Search3
import Derived.Shelf.Strings.Count
import Derived.Shelf.LaysM
import Derived.Shelf.Strings.Shaped
import Derived.Shelf.Strings.Split
import Derived.Shelf.Strings.Replace
import Derived.Shelf.Strings.SplitShaped
import Derived.Shelf.Unicode.Decode
import Derived.Shelf.Strings.RuneCount
import Derived.Shelf.Unicode.DecodeSlow
import Derived.Shelf.Unicode.DecodeAny
import Derived.Shelf.Strings.BuilderCap
import Derived.Test.YthommfjiaalecaaGreatDoorProg
import Derived.Laws.RangeString
import Derived.Shelf.Strings.SlTrimAscii
namespace Go.Proofs.YthommfjiaalecaaGreatDoor
open Go.RowKit Vc
variable {w : World}
theorem getD_some {α : Type} {p : List α} {i : Nat} (h : i < p.length) : p[i]? = some p[i] := List.getElem?_eq_getElem h
theorem take_snoc {α : Type} {l : List α} {k : Nat} (h : k < l.length) : l.take (k + 1) = l.take k ++ [l[k]] := by rw [List.take_add_one, getD_some h]; rfl
theorem drop_take1 {s : Txt} {k : Nat} (h : k < s.length) : (s.drop k).take (k + 1 - k) = [s[k]] := by
  rw [Nat.add_sub_cancel_left, List.drop_eq_getElem_cons h]
  rfl
theorem byte_eq {a b : UInt8} : (a.toNat : Int) = (b.toNat : Int) ↔ a = b := ⟨fun h => UInt8.toNat_inj.1 (by omega), fun h => by rw [h]⟩
theorem tmod_nat (k m : Nat) : Int.tmod (k : Int) (m : Int) = ((k % m : Nat) : Int) := (Int.ofNat_tmod k m).symm
def strs (l : List Txt) : List Value := l.map fun x => .string (S x)
theorem strs_append (l m : List Txt) : strs (l ++ m) = strs l ++ strs m := by simp [strs]
theorem strs_length (l : List Txt) : (strs l).length = l.length := by simp [strs]
theorem strs_one (l : List Txt) : ∀ u ∈ strs l, u.oneCell' = true := by
  intro u hu
  simp only [strs, List.mem_map] at hu
  obtain ⟨x, _, rfl⟩ := hu
  rfl
def StrsAt (w : World) (p : Option Addr) (n : Nat) (l : List Txt) : Prop := l.length = n ∧ At w p n (strs l)
theorem StrsAt.still {p : Option Addr} {n : Nat} {l : List Txt} {w' : World} (h : StrsAt w p n l) (hm : Still w w') : StrsAt w' p n l := ⟨h.1, h.2.still hm⟩
theorem StrsAt.of {B : Nat} {p : Option Addr} {n C : Nat} {l : List Txt} (h : Owns w B 9 1 (.slice p n C) n (strs l)) : StrsAt w p n l := ⟨by have := h.length; rw [strs_length] at this; omega, At.own h⟩
theorem StrsAt.row {g : Nat} {t : TypeId} {l : List Txt} (h : Row w g t ⟨strs l⟩) : StrsAt w (some ⟨g, 0, none⟩) l.length l := ⟨rfl, At.row h⟩
theorem StrsAt.nil (w : World) : StrsAt w none 0 [] := ⟨rfl, fun h => absurd h (Nat.lt_irrefl _)⟩
theorem StrsAt.get {p : Option Addr} {n : Nat} {l : List Txt} (h : StrsAt w p n l) {k : Nat} (hk : k < n) : ∃ a, p = some a ∧ w.cell? (a.add k) = some (.string (S (l[k]'(by have := h.1; omega)))) := by
  obtain ⟨a, h1, h2⟩ := h.2 (by omega)
  refine ⟨a, h1, h2 k _ ?_⟩
  have := h.1
  simp [strs, show k < l.length by omega]
def u8s (vs : List Nat) : List Value := vs.map fun v : Nat => .int .u8 (v : Int)
def U8At (w : World) (p : Option Addr) (n : Nat) (vs : List Nat) : Prop := vs.length = n ∧ (∀ v ∈ vs, v < 256) ∧ At w p n (u8s vs)
theorem U8At.still {p : Option Addr} {n : Nat} {vs : List Nat} {w' : World} (h : U8At w p n vs) (hm : Still w w') : U8At w' p n vs := ⟨h.1, h.2.1, h.2.2.still hm⟩
theorem U8At.get {p : Option Addr} {n : Nat} {vs : List Nat} (h : U8At w p n vs) {k : Nat} (hk : k < n) : ∃ a v, p = some a ∧ vs[k]? = some v ∧ v < 256 ∧ w.cell? (a.add k) = some (.int .u8 (v : Int)) := by
  obtain ⟨h1, h2, h3⟩ := h
  obtain ⟨a, h4, h5⟩ := h3 (by omega)
  refine ⟨a, vs[k]'(by omega), h4, getD_some _, h2 _ (List.getElem_mem _), h5 k _ ?_⟩
  simp [u8s, show k < vs.length by omega]
def piecesR (sg : List Txt) (vs : List Nat) : Txt := (vs.take 14).flatMap fun v => sg.getD (v % sg.length) []
theorem pieces_spec {l q : Option Addr} {lL lC qC : Nat} {vs : List Nat} {sg : List Txt} (hl : U8At w l lL vs) (hr : StrsAt w q sg.length sg) (h0 : 0 < sg.length) (h1 : sg.length < 1000) (h8 : ∀ x ∈ sg, x.length ≤ 1000) :
    Calls Tryz.prog fn_law07_Pieces #[.slice l lL lC, .slice q sg.length qC] w (fun e w' => e = .returned (.string (S (piecesR sg vs))) ∧ w' = w) := by
  refine law07_Pieces_calls _ _ _ _ _ _ _ _ ?_
  have hlen := hl.1
  refine ⟨fun s i w1 => ∃ n : Nat, i = (n : Int) ∧ n ≤ 14 ∧ n ≤ lL ∧ s.length ≤ n * 1000 ∧ s = piecesR sg (vs.take n) ∧ w1 = w, fun _ i _ => 14 - i.toNat, ⟨0, rfl, by omega, Nat.zero_le _, by simp, rfl, rfl⟩, ?_⟩
  rintro s _ _ w1 ⟨n, rfl, hn, hnl, hs, he, rfl⟩
  have e1 : IntKind.i64.wrap ((n : Int) + 1) = ((n + 1 : Nat) : Int) := by rw [wrap_i64 (by omega) (by omega)]; omega
  refine bsel_of (fun hx => bsel_of (fun hy => ?_) (fun hy => ⟨?_, rfl⟩)) (fun hx => ⟨?_, rfl⟩)
  · have hx : n < lL := by have := of_decide_eq_true hx; omega
    have hy : n < 14 := by have := of_decide_eq_true hy; omega
    obtain ⟨a, v, rfl, hg, hv, hc⟩ := hl.get hx
    have ev : IntKind.i64.wrap (v : Int) = (v : Int) := wrap_i64 (by omega) (by omega)
    have hlt : v % sg.length < sg.length := Nat.mod_lt _ h0
    have hl8 := h8 _ (List.getElem_mem hlt)
    obtain ⟨b, rfl, cb⟩ := hr.get hlt
    refine ⟨by omega, by omega, (v : Int), by rw [Int.toNat_natCast, Nat.mul_one]; exact hc, by omega, ?_⟩
    rw [ev, tmod_nat, e1, Int.toNat_natCast]
    refine ⟨by omega, by omega, sg[v % sg.length], ?_, by omega, ⟨n + 1, rfl, hy, hx, by simp; omega, ?_, rfl⟩, by dsimp only; omega⟩
    · rw [Nat.mul_one]
      exact cb
    · rw [he, piecesR, piecesR, List.take_take, List.take_take, Nat.min_eq_right (by omega), Nat.min_eq_right (by omega), List.take_add_one, hg, List.flatMap_append]
      simp [List.getD, hlt]
  · have hy : n = 14 := by have := of_decide_eq_false hy; omega
    rw [he, piecesR, piecesR, List.take_take, hy, Nat.min_self]
  · have hx : n = lL := by have := of_decide_eq_false hx; omega
    rw [he, List.take_of_length_le (by omega)]
end Go.Proofs.YthommfjiaalecaaGreatDoor
namespace Go.Proofs.YthommfjiaalecaaGreatDoor
open Go.RowKit Vc
end Go.Proofs.YthommfjiaalecaaGreatDoor
namespace Go.Proofs.YthommfjiaalecaaGreatDoor
open Go.RowKit Vc
variable {w : World}
theorem begins_spec (s t : Txt) (n : Nat) (hn : n ≤ s.length) (hs : s.length < 1000000) (ht : t.length < 1000000) : Calls Tryz.prog fn_ref07_begins #[.string (S s), .int .i64 (n : Int), .string (S t)] w
    (fun e w' => e = .returned (.bool (pf t (s.drop n))) ∧ w' = w) := by
  refine ref07_begins_calls _ _ _ _ _ ?_
  have e1 : IntKind.i64.wrap ((n : Int) + (t.length : Int)) = ((n + t.length : Nat) : Int) := by rw [wrap_i64 (by omega) (by omega)]; omega
  unfold vc_ref07_begins
  rw [e1, Int.toNat_natCast, Int.toNat_natCast]
  refine bsel_of (fun h => ⟨by omega, by omega, by have := of_decide_eq_true h; omega, ?_, rfl⟩) (fun h => ⟨?_, rfl⟩)
  · have h := of_decide_eq_true h
    rw [show n + t.length - n = t.length by omega]
    unfold pf
    congr 2
    apply decide_eq_decide.2
    rw [List.length_drop]
    exact ⟨fun e => ⟨by omega, e⟩, fun e => e.2⟩
  · have h := of_decide_eq_false h
    unfold pf
    rw [decide_eq_false]
    rw [List.length_drop]
    intro e
    omega
def SkipR (d : Nat) : Prop := ∀ (w : World) (s : Txt) (n : Nat), n < s.length → s.length < 1000000 → Calls Tryz.prog fn_ref07_Skip #[.string (S s), .int .i64 (n : Int), .int .i64 (31 - (d : Int))] w (fun e w' => e = .returned (.int .i64 (ix s (unitD d (s.drop n)))) ∧ w' = w)
def UntilR (d : Nat) : Prop := ∀ (w : World) (s : Txt) (n : Nat) (c : UInt8), n ≤ s.length → s.length < 1000000 → Calls Tryz.prog fn_ref07_until #[.string (S s), .int .i64 (n : Int), .int .u8 (c.toNat : Int), .int .i64 (31 - (d : Int))] w (fun e w' => e = .returned (.int .i64 (ix s (untilD d c (s.drop n)))) ∧ w' = w)
theorem skip_of {d : Nat} (hd : d ≤ 31) (ih : d ≠ 0 → UntilR (d - 1)) : SkipR d := by
  intro w s n hn hs
  refine ref07_Skip_calls _ _ _ _ _ ?_
  refine bsel_of (fun h30 => ?_) (fun h30 => ?_)
  · have hd0 : d = 0 := by have := of_decide_eq_true h30; omega
    subst hd0
    exact ⟨rfl, rfl⟩
  have hd0 : d ≠ 0 := by have := of_decide_eq_false h30; omega
  obtain ⟨k, rfl⟩ : ∃ k, d = k + 1 := ⟨d - 1, by omega⟩
  have ih := ih hd0
  rw [Nat.add_sub_cancel] at ih
  have ed : IntKind.i64.wrap (31 - ((k + 1 : Nat) : Int) + 1) = 31 - (k : Int) := by rw [wrap_i64 (by omega) (by omega)]; omega
  have e1 : IntKind.i64.wrap ((n : Int) + 1) = ((n + 1 : Nat) : Int) := by rw [wrap_i64 (by omega) (by omega)]; omega
  have e2 : IntKind.i64.wrap ((n : Int) + 2) = ((n + 2 : Nat) : Int) := by rw [wrap_i64 (by omega) (by omega)]; omega
  have hdr : s.drop n = s[n] :: s.drop (n + 1) := List.drop_eq_getElem_cons hn
  have hu : unitD (k + 1) (s.drop n) = unitF (untilD k) (s[n] :: s.drop (n + 1)) := by rw [hdr]; rfl
  have hg : s[Int.toNat (n : Int)]? = some s[n] := by rw [Int.toNat_natCast]; exact getD_some hn
  rw [hu, ed, e1, e2]
  have unt : ∀ (m : Nat) (c : UInt8) (o : Option Txt), m ≤ s.length → untilD k c (s.drop m) = o → ∀ w0 : World, Calls Tryz.prog fn_ref07_until #[(.string (S s)), (.int .i64 (m : Int)), (.int .u8 (c.toNat : Int)), (.int .i64 (31 - (k : Int)))] w0 (fun ed w2 => (∃ r : Int, ed = .returned (.int .i64 r) ∧ Ending.returned (.int .i64 r) = .returned (.int .i64 (ix s o)) ∧ w2 = w0) ∨ (∃ ch, ed = .panicked ch ∧ Ending.panicked ch = .returned (.int .i64 (ix s o)) ∧ w2 = w0)) := by
    intro m c o hm ho w0
    refine (ih w0 s m c hm hs).mono ?_
    rintro _ w2 ⟨rfl, rfl⟩
    exact .inl ⟨_, rfl, by rw [ho], rfl⟩
  refine ⟨by omega, s[n], hg, bsel_of (fun h92 => ?_) (fun h92 => ⟨by omega, s[n], hg, bsel_of (fun h39 => ?_) (fun h39 => ⟨by omega, s[n], hg, bsel_of (fun h34 => ?_) (fun h34 => ?_)⟩)⟩)⟩
  · have h92 : s[n] = 92 := byte_eq.1 (of_decide_eq_true h92)
    simp only [unitF, if_pos h92]
    refine bsel_of (fun h => ?_) (fun h => ?_)
    · have h : n + 1 = s.length := by have := of_decide_eq_true h; omega
      rw [List.drop_of_length_le (by omega)]
      exact ⟨rfl, trivial⟩
    · have h : n + 1 < s.length := by have := of_decide_eq_false h; omega
      rw [List.drop_eq_getElem_cons h]
      exact ⟨by rw [ix_drop (by omega)], trivial⟩
  · have h92 : ¬ s[n] = 92 := fun e => of_decide_eq_false h92 (byte_eq.2 e)
    have h39 : s[n] = 39 := byte_eq.1 (of_decide_eq_true h39)
    simp only [unitF, if_neg h92, if_pos h39]
    refine ⟨fun i w1 => ∃ m : Nat, i = (m : Int) ∧ m ≤ s.length ∧ quoteEnd (s.drop m) = quoteEnd (s.drop (n + 1)) ∧ w1 = w, fun i _ => s.length - i.toNat, ⟨n + 1, rfl, hn, rfl, rfl⟩, ?_⟩
    rintro _ _ w1 ⟨m, rfl, hm, hq, rfl⟩
    rw [← hq]
    have em : IntKind.i64.wrap ((m : Int) + 1) = ((m + 1 : Nat) : Int) := by rw [wrap_i64 (by omega) (by omega)]; omega
    rw [em]
    refine bsel_of (fun hx => ?_) (fun hx => ?_)
    · have hx : m < s.length := by have := of_decide_eq_true hx; omega
      have hdm : s.drop m = s[m] :: s.drop (m + 1) := List.drop_eq_getElem_cons hx
      refine ⟨by omega, s[m], by rw [Int.toNat_natCast]; exact getD_some hx, bsel_of (fun h => ?_) (fun h => ⟨⟨m + 1, rfl, hx, ?_, rfl⟩, by dsimp only; omega⟩)⟩
      · have h : s[m] = 39 := byte_eq.1 (of_decide_eq_true h)
        rw [hdm]
        simp only [quoteEnd, if_pos h]
        exact ⟨by rw [ix_drop (by omega)], trivial⟩
      · have h : ¬ s[m] = 39 := fun e => of_decide_eq_false h (byte_eq.2 e)
        rw [hdm]
        simp only [quoteEnd, if_neg h]
    · have hx : m = s.length := by have := of_decide_eq_false hx; omega
      rw [List.drop_of_length_le (by omega)]
      exact ⟨rfl, rfl⟩
  · have h92 : ¬ s[n] = 92 := fun e => of_decide_eq_false h92 (byte_eq.2 e)
    have h39 : ¬ s[n] = 39 := fun e => of_decide_eq_false h39 (byte_eq.2 e)
    have h34 : s[n] = 34 := byte_eq.1 (of_decide_eq_true h34)
    simp only [unitF, if_neg h92, if_neg h39, if_pos h34]
    exact unt (n + 1) 34 _ hn rfl w
  · have h92 : ¬ s[n] = 92 := fun e => of_decide_eq_false h92 (byte_eq.2 e)
    have h39 : ¬ s[n] = 39 := fun e => of_decide_eq_false h39 (byte_eq.2 e)
    have h34 : ¬ s[n] = 34 := fun e => of_decide_eq_false h34 (byte_eq.2 e)
    simp only [unitF, if_neg h92, if_neg h39, if_neg h34]
    refine (begins_spec s [36, 40] n (by omega) hs (by decide)).mono ?_
    rintro _ w3 ⟨rfl, rfl⟩
    rw [hdr, pf_two]
    refine .inl ⟨_, rfl, ?_⟩
    rcases Nat.lt_or_ge (n + 1) s.length with h1 | h1
    · have hd2 : s.drop (n + 1) = s[n + 1] :: s.drop (n + 2) := List.drop_eq_getElem_cons h1
      rw [hd2]
      dsimp only [dollar]
      refine bsel_of (fun h40 => ?_) (fun h40 => (begins_spec s [36, 123] n (by omega) hs (by decide)).mono ?_)
      · rw [if_pos (of_decide_eq_true h40)]
        exact unt (n + 2) 41 _ h1 rfl w3
      · rintro _ w4 ⟨rfl, rfl⟩
        rw [hdr, pf_two, hd2]
        dsimp only
        rw [if_neg (of_decide_eq_false h40)]
        refine .inl ⟨_, rfl, bsel_of (fun h123 => ?_) (fun h123 => ?_)⟩
        · rw [if_pos (of_decide_eq_true h123)]
          exact unt (n + 2) 125 _ h1 rfl w4
        · rw [if_neg (of_decide_eq_false h123), ← hd2]
          exact ⟨by rw [ix_drop (by omega)], rfl⟩
    · have hd2 : s.drop (n + 1) = [] := List.drop_of_length_le h1
      rw [hd2]
      dsimp only [dollar]
      refine bsel_of (fun h40 => by cases h40) (fun h40 => (begins_spec s [36, 123] n (by omega) hs (by decide)).mono ?_)
      rintro _ w4 ⟨rfl, rfl⟩
      rw [hdr, pf_two, hd2]
      refine .inl ⟨_, rfl, bsel_of (fun h123 => by cases h123) (fun h123 => ?_)⟩
      rw [← hd2]
      exact ⟨by rw [ix_drop (by omega)], rfl⟩
theorem untilr_of {d : Nat} (hd : d ≤ 31) (hu : SkipR d) (ih : d ≠ 0 → UntilR (d - 1)) : UntilR d := by
  intro w s n c hn hs
  refine ref07_until_calls _ _ _ _ _ _ ?_
  refine ⟨fun i w1 => ∃ m : Nat, i = (m : Int) ∧ m ≤ s.length ∧ untilD d c (s.drop m) = untilD d c (s.drop n) ∧ w1 = w, fun i _ => s.length - i.toNat, ⟨n, rfl, hn, rfl, rfl⟩, ?_⟩
  rintro _ _ w1 ⟨m, rfl, hm, hq, rfl⟩
  rw [← hq]
  have em : IntKind.i64.wrap ((m : Int) + 1) = ((m + 1 : Nat) : Int) := by rw [wrap_i64 (by omega) (by omega)]; omega
  rw [em]
  refine bsel_of (fun hx => ?_) (fun hx => ?_)
  case _ =>
    have hx : m < s.length := by have := of_decide_eq_true hx; omega
    have hdm : s.drop m = s[m] :: s.drop (m + 1) := List.drop_eq_getElem_cons hx
    have hg : s[Int.toNat (m : Int)]? = some s[m] := by rw [Int.toNat_natCast]; exact getD_some hx
    rw [hdm, untilD_cons]
    have hq' := hq
    rw [hdm, untilD_cons] at hq'
    refine ⟨by omega, s[m], hg, bsel_of (fun hb => ?_) (fun hb => ?_)⟩
    · have hb : s[m] = c := byte_eq.1 (of_decide_eq_true hb)
      rw [if_pos hb]
      exact ⟨by rw [ix_drop (by omega)], rfl⟩
    · have hb : ¬ s[m] = c := fun e => of_decide_eq_false hb (byte_eq.2 e)
      rw [if_neg hb] at hq' ⊢
      -- next: where it goes on
      refine ⟨fun nx w6 => ∃ o : Option Txt, nx = ix s o ∧ (∀ t, o = some t → t <:+ s ∧ t.length < s.length - m) ∧ o.bind (untilD d c) = untilD d c (s.drop n) ∧ w6 = w1, ⟨fun x w2 => x = decide (c = 34 ∧ s[m] = 39) ∧ w2 = w1, bsel_of (fun hc => ⟨by omega, s[m], hg, ?_, rfl⟩) (fun hc => ⟨?_, rfl⟩), ?_⟩, ?_⟩
      · have hc : c = 34 := byte_eq.1 (of_decide_eq_true hc)
        apply decide_eq_decide.2
        exact ⟨fun h => ⟨hc, byte_eq.1 h⟩, fun h => byte_eq.2 h.2⟩
      · rw [decide_eq_false (fun h => of_decide_eq_false hc (byte_eq.2 h.1))]
      · rintro _ _ w2 ⟨rfl, rfl⟩
        have unit : (unitD d (s[m] :: s.drop (m + 1))).bind (untilD d c) = untilD d c (s.drop n) → Calls Tryz.prog fn_ref07_Skip #[(.string (S s)), (.int .i64 (m : Int)), (.int .i64 (31 - (d : Int)))] w2 (fun ed1 w4 => (∃ r1 : Int, ed1 = .returned (.int .i64 r1) ∧ ∃ o : Option Txt, r1 = ix s o ∧ (∀ t, o = some t → t <:+ s ∧ t.length < s.length - m) ∧ o.bind (untilD d c) = untilD d c (s.drop n) ∧ w4 = w2) ∨ (∃ ch1, ed1 = .panicked ch1 ∧ Ending.panicked ch1 = .returned (.int .i64 (ix s (if c = 34 ∧ s[m] = 39 then if d = 0 then none else untilD d c (s.drop (m + 1)) else if c = 41 ∧ s[m] = 40 then if d = 0 then none else (untilD (d - 1) 41 (s.drop (m + 1))).bind (untilD d c) else (unitD d (s[m] :: s.drop (m + 1))).bind (untilD d c)))) ∧ w4 = w2)) := by
          intro ho
          refine (hu w2 s m hx hs).mono ?_
          rintro _ w4 ⟨rfl, rfl⟩
          refine .inl ⟨_, rfl, unitD d (s.drop m), rfl, fun t ht => ⟨(unitD_ends d _ _ ht).trans (drop_suf s m), ?_⟩, by rw [hdm]; exact ho, rfl⟩
          have := unitD_takes d _ _ ht
          rw [List.length_drop] at this
          exact this
        refine bsel_of (fun hqq => ?_) (fun hqq => ?_)
        · have hqq := of_decide_eq_true hqq
          rw [if_pos hqq] at hq' ⊢
          refine bsel_of (fun h30 => ?_) (fun h30 => ?_)
          · have hd0 : d = 0 := by have := of_decide_eq_true h30; omega
            rw [if_pos hd0]
            exact ⟨rfl, rfl⟩
          · have hd0 : ¬ d = 0 := by have := of_decide_eq_false h30; omega
            rw [if_neg hd0] at hq'
            refine ⟨some (s.drop (m + 1)), by rw [ix_drop (by omega)], fun t ht => ?_, hq', rfl⟩
            obtain rfl := Option.some.inj ht
            refine ⟨drop_suf _ _, ?_⟩
            rw [List.length_drop]
            omega
        · have hqq := of_decide_eq_false hqq
          rw [if_neg hqq] at hq'
          refine bsel_of (fun hc => ⟨by omega, s[m], hg, bsel_of (fun hb40 => ?_) (fun hb40 => ?_)⟩) (fun hc => ?_)
          · have hc : c = 41 := byte_eq.1 (of_decide_eq_true hc)
            have hb40 : s[m] = 40 := byte_eq.1 (of_decide_eq_true hb40)
            rw [if_pos ⟨hc, hb40⟩] at hq'
            refine bsel_of (fun h30 => ?_) (fun h30 => ?_)
            · have hd0 : ¬ d = 0 := by have := of_decide_eq_true h30; omega
              rw [if_neg hd0] at hq'
              have e1 : IntKind.i64.wrap (31 - (d : Int) + 1) = 31 - ((d - 1 : Nat) : Int) := by rw [wrap_i64 (by omega) (by omega)]; omega
              rw [e1]
              refine (ih hd0 w2 s (m + 1) 41 hx hs).mono ?_
              rintro _ w3 ⟨rfl, rfl⟩
              refine .inl ⟨_, rfl, untilD (d - 1) 41 (s.drop (m + 1)), rfl, fun t ht => ⟨(untilD_ends (d - 1) 41 _ _ ht).trans (drop_suf s (m + 1)), ?_⟩, hq', rfl⟩
              have := untilD_takes (d - 1) 41 _ _ ht
              rw [List.length_drop] at this
              omega
            · have hd0 : d = 0 := by have := of_decide_eq_false h30; omega
              rw [if_pos hd0] at hq'
              exact ⟨none, rfl, (fun t ht => by cases ht), hq', rfl⟩
          · have hb40 : ¬ s[m] = 40 := fun e => of_decide_eq_false hb40 (byte_eq.2 e)
            rw [if_neg (fun h => hb40 h.2)] at hq'
            exact unit hq'
          · have hc : ¬ c = 41 := fun e => of_decide_eq_false hc (byte_eq.2 e)
            rw [if_neg (fun h => hc h.1)] at hq'
            exact unit hq'
      · rintro _ _ w6 ⟨o, rfl, ho1, ho2, rfl⟩
        rw [hq']
        cases o with
        | none =>
          refine bsel_of (fun _ => ⟨?_, rfl⟩) (fun h => by have := of_decide_eq_false h; simp [ix] at this)
          rw [← ho2]
          rfl
        | some t =>
          obtain ⟨h1, h2⟩ := ho1 t rfl
          have hle := h1.length_le
          refine bsel_of (fun h => ?_) (fun _ => ⟨⟨s.length - t.length, rfl, by omega, ?_, rfl⟩, ?_⟩)
          · have h := of_decide_eq_true h
            simp only [ix] at h
            omega
          · rw [← suf_drop h1]
            exact ho2
          · simp only [ix]
            omega
  · have hx : m = s.length := by have := of_decide_eq_false hx; omega
    rw [List.drop_of_length_le (by omega), untilD_nil]
    exact ⟨rfl, rfl⟩
theorem levelsR : ∀ d, d ≤ 31 → SkipR d ∧ UntilR d
  | 0, h => ⟨skip_of h (fun h => absurd rfl h), untilr_of h (skip_of h (fun h => absurd rfl h)) (fun h => absurd rfl h)⟩
  | d + 1, h => by
    have ih := (levelsR d (by omega)).2
    have hu : SkipR (d + 1) := skip_of h (fun _ => ih)
    exact ⟨hu, untilr_of h hu (fun _ => ih)⟩
theorem ref_skip_spec (s : Txt) (n : Nat) (hn : n < s.length) (hs : s.length < 1000000) : Calls Tryz.prog fn_ref07_Skip #[.string (S s), .int .i64 (n : Int), .int .i64 1] w (fun e w' => e = .returned (.int .i64 (ix s (unitD 30 (s.drop n)))) ∧ w' = w) :=
  (levelsR 30 (by decide)).1 w s n hn hs
structure BldAt0 (w : World) (T g o B : Nat) (cs : List Value) (v : Value) (bs : List UInt8) : Prop where
  row : Row w g T ⟨cs⟩
  addr : cs[o]? = some (.pointer none) ∨ cs[o]? = some (.pointer (some ⟨g, o, none⟩))
  buf : cs[o + 1]? = some v
  own : Owns w B 5 1 v bs.length (bc bs)
  ne : v.ownBlock ≠ some g
def Roomy (v : Value) (bs : List UInt8) : Prop := ∀ p c, v = .slice p bs.length c → p = none ∨ c ≠ 0
structure BldAt (w : World) (T g o B : Nat) (cs : List Value) (v : Value) (bs : List UInt8) : Prop extends BldAt0 w T g o B cs v bs where
  room : Roomy v bs
def LiesB (T n o : Nat) : Prop := liesAt Tryz.prog Tryz.prog.depth T (n / Tryz.prog.cellsOf T) o 71 1 = true
theorem Row.shape {g : Nat} {t : TypeId} {cs : List Value} (h : Row w g t ⟨cs⟩) : w.shape? g = some (t, cs.length) := by
  obtain ⟨fz, h, _⟩ := h
  simp [World.shape?, h]
theorem noEscape : ExtSame Tryz.prog fn_internal_abi_NoEscape := ⟨_, Tryz.func68, by kernel_rfl, by kernel_rfl, by kernel_rfl, by kernel_rfl⟩
theorem set_same {α : Type} {l : List α} {i : Nat} {a : α} (h : l[i]? = some a) : l.set i a = l := by
  apply List.ext_getElem?
  intro j
  by_cases hj : i = j
  · subst hj
    rw [List.getElem?_set_self (List.getElem?_eq_some_iff.1 h).1, h]
  · rw [List.getElem?_set_ne hj]
section
variable {T g o B : Nat} {cs : List Value} {v : Value} {bs : List UInt8}
theorem BldAt0.roomy (h : BldAt0 w T g o B cs v bs) (hb : bs ≠ []) : BldAt w T g o B cs v bs := by
  refine ⟨h, fun p c e => ?_⟩
  have hpos : 0 < bs.length := List.length_pos_iff.2 hb
  obtain ⟨g', cap, cur, hv, _, _, hcap, _⟩ := h.own.row hpos
  rw [e] at hv
  injection hv with _ _ hv2
  exact .inr (by omega)
theorem BldAt0.lt (h : BldAt0 w T g o B cs v bs) : o + 1 < cs.length := (List.getElem?_eq_some_iff.1 h.buf).1
theorem BldAt.lt (h : BldAt w T g o B cs v bs) : o + 1 < cs.length := h.toBldAt0.lt
theorem BldAt.mod {S : Nat → Prop} {w' : World} (h : BldAt w T g o B cs v bs) (hm : Mod S w w') (hg : ¬ S g) (hv : ∀ k, v.ownBlock = some k → ¬ S k) : BldAt w' T g o B cs v bs :=
  ⟨⟨h.row.mod hm hg, h.addr, h.buf, h.own.mod hm hv, h.ne⟩, h.room⟩
theorem BldAt.still {w' : World} (h : BldAt w T g o B cs v bs) (hm : Still w w') : BldAt w' T g o B cs v bs := h.mod hm (fun h => h) (fun _ _ h => h)
theorem BldAt.fresh (h : Row w g T ⟨cs⟩) (h0 : cs[o]? = some (.pointer none)) (h1 : cs[o + 1]? = some (.slice none 0 0)) : BldAt w T g o B cs (.slice none 0 0) [] :=
  ⟨⟨h, .inl h0, h1, Owns.nil _ _ _ _, by simp [Value.ownBlock]⟩, fun p c e => by injection e with e1 _ _; exact .inl e1.symm⟩
theorem copyCheck_spec (h : BldAt0 w T g o B cs v bs) (hl : LiesB T cs.length o) : Calls Tryz.prog fn_strings_Builder_copyCheck #[.pointer (some ⟨g, o, none⟩)] w
    (fun e w' => e = .returned (.tuple #[]) ∧ BldAt0 w' T g o B (cs.set o (.pointer (some ⟨g, o, none⟩))) v bs ∧ Mod (fun k => k = g) w w' ∧ w'.heap.size = w.heap.size) := by
  refine strings_Builder_copyCheck_calls _ _ _ ?_
  have hlt := h.lt
  have hsh := h.row.shape
  rcases h.addr with h0 | h0
  · refine ⟨none, h.row.lget h0, bsel_of (fun _ => ?_) (fun h => by cases h)⟩
    refine ⟨⟨_, _, hsh, by show o < _; omega⟩, noEscape, ⟨_, _, hsh, hl⟩, stK h.row (by simp; omega) (by simp [Value.oneCell']) fun w1 hr1 hm1 hz1 => ⟨rfl, ?_, hm1, hz1⟩⟩
    exact ⟨hr1, .inr (List.getElem?_set_self (by omega)), by show (cs.set o _)[o + 1]? = _; rw [List.getElem?_set_ne (by omega)]; exact h.buf, h.own.mod hm1 (fun k hk e => h.ne (by rw [hk, e])), h.ne⟩
  · refine ⟨_, h.row.lget h0, bsel_of (fun h => by cases h) (fun _ => ⟨_, h.row.lget h0, by kernel_rfl, rfl, rfl, ?_, Mod.refl _ _, rfl⟩)⟩
    rw [set_same h0]
    exact h
theorem room_blk {p p' : Option Addr} {n n' m c c' s : Nat} (hb : Blk p p' n' c c' s) (hn' : n' = n + m) (h : ∀ q d, (Value.slice p n c) = .slice q n d → q = none ∨ d ≠ 0) {xs : List Value} {e : TypeId} {sz : Nat} (ho : Owns w B e sz (.slice p' n' c') n' xs) :
    ∀ q d, (Value.slice p' n' c') = .slice q n' d → q = none ∨ d ≠ 0 := by
  intro q d hq
  injection hq with q1 _ q2
  subst q1
  subst q2
  rcases hb with ⟨rfl, rfl⟩ | ⟨_, h0⟩
  · exact h _ _ rfl
  · rcases ho.2 with ⟨hv, h1⟩ | ⟨_, cap, _, hv, _, _, hc, _⟩
    · omega
    · injection hv with _ _ hv
      exact .inr (by omega)
theorem writeString_spec0 (h : BldAt0 w T g o B cs v bs) (hl : LiesB T cs.length o) (s : List UInt8) (hB : B ≤ w.heap.size) (hs : bs.length + s.length ≤ 140737488355328) :
    Calls Tryz.prog fn_strings_Builder_WriteString #[.pointer (some ⟨g, o, none⟩), .string (S s)] w (fun e w' => e = .returned (.tuple #[.int .i64 (s.length : Int), .nilIface]) ∧
      ∃ v', BldAt0 w' T g o B ((cs.set o (.pointer (some ⟨g, o, none⟩))).set (o + 1) v') v' (bs ++ s) ∧ (Roomy v bs → Roomy v' (bs ++ s)) ∧ Mod (fun k => k = g ∨ v.ownBlock = some k) w w') := by
  refine strings_Builder_WriteString_calls _ _ _ _ ?_
  refine (copyCheck_spec h hl).mono ?_
  rintro _ w1 ⟨rfl, h1, hm1, hz1⟩
  obtain ⟨p, c, rfl⟩ := h1.own.form
  have hlt := h.lt
  refine .inl ⟨rfl, _, _, _, by rw [add_row]; exact h1.row.lget h1.buf, ?_⟩
  refine appS_push h1.own (by omega) (by omega) (by omega) fun p' c' w2 ho2 hm2 hb2 => ?_
  have hr2 := h1.row.mod hm2 (fun e => h1.ne e)
  show stCells (Addr.add _ 1) _ _ _ _
  rw [add_row]
  refine stK hr2 (by simp; omega) (by simp [Value.oneCell']) fun w3 hr3 hm3 hz3 => ⟨rfl, _, ⟨hr3, ?_, ?_, ?_, ?_⟩, ?_, ?_⟩
  · exact .inr (by show ((cs.set o _).set (o + 1) _)[o]? = _; rw [List.getElem?_set_ne (by omega), List.getElem?_set_self (by omega)])
  · exact List.getElem?_set_self (by simp; omega)
  · have hne : (Value.slice p' (bs.length + s.length) c').ownBlock ≠ some g := by
      rcases hb2.own (n := bs.length) with e | e
      · rw [e]; exact h1.ne
      · rw [e]; have := h1.row.lt; exact fun e => by injection e with e; omega
    have := ho2.mod hm3 (fun k hk e => hne (by rw [hk, e]))
    rw [← bc_append] at this
    rw [List.length_append]
    exact this
  · rcases hb2.own (n := bs.length) with e | e
    · rw [e]; exact h1.ne
    · rw [e]; have := h1.row.lt; exact fun e => by injection e with e; omega
  · intro hroom
    rw [Roomy, List.length_append]
    exact room_blk hb2 rfl hroom ho2
  · exact Mod.trans hm1 (Mod.trans hm2 hm3 (U := fun k => k = g ∨ (Value.slice p bs.length c).ownBlock = some k) (fun _ h => .inr h) (fun _ _ h => .inl h)) (fun _ h => .inl h) (fun _ _ h => h)
theorem writeString_spec (h : BldAt w T g o B cs v bs) (hl : LiesB T cs.length o) (s : List UInt8) (hB : B ≤ w.heap.size) (hs : bs.length + s.length ≤ 140737488355328) :
    Calls Tryz.prog fn_strings_Builder_WriteString #[.pointer (some ⟨g, o, none⟩), .string (S s)] w (fun e w' => e = .returned (.tuple #[.int .i64 (s.length : Int), .nilIface]) ∧
      ∃ v', BldAt w' T g o B ((cs.set o (.pointer (some ⟨g, o, none⟩))).set (o + 1) v') v' (bs ++ s) ∧ Mod (fun k => k = g ∨ v.ownBlock = some k) w w') := by
  refine (writeString_spec0 h.toBldAt0 hl s hB hs).mono ?_
  rintro _ w' ⟨rfl, v', h1, h2, h3⟩
  exact ⟨rfl, v', ⟨h1, h2 h.room⟩, h3⟩
theorem string_spec (h : BldAt w T g o B cs v bs) (hs : bs.length ≤ 140737488355328) :
    Calls Tryz.prog fn_strings_Builder_String #[.pointer (some ⟨g, o, none⟩)] w (fun e w' => e = .returned (.string (S bs)) ∧ Mod (fun k => v.ownBlock = some k) w w') := by
  refine strings_Builder_String_calls _ _ _ ?_
  obtain ⟨p, c, rfl⟩ := h.own.form
  refine ⟨_, _, _, by rw [add_row]; exact h.row.lget h.buf, h.room _ _ rfl, _, _, _, by rw [add_row]; exact h.row.lget h.buf, ?_⟩
  refine ⟨bs, rfl, by omega, ?_⟩
  rcases Decidable.em (bs = []) with rfl | h0
  · exact .inl ⟨rfl, rfl, (Mod.refl _ _).drew⟩
  · have hpos : 0 < bs.length := List.length_pos_iff.2 h0
    obtain ⟨g', cap, cur, hv, _, hrow, hcap, hsz, _⟩ := h.own.row hpos
    injection hv with hv1 _ hv2
    subst hv1
    subst hv2
    refine .inr ⟨h0, g', cur.size, rfl, by obtain ⟨fz, hh, _⟩ := hrow; exact (show World.shape? w g' = _ by simp [World.shape?, hh]), by omega, fun j x hx => ?_, rfl, ?_⟩
    · rw [add_row, Nat.zero_add]
      exact h.own.cells rfl j _ (bc_get hx)
    · unfold World.freeze
      split
      · exact (Mod.refl _ _).drew
      · exact ⟨rfl, rfl, rfl, by simp, fun k hk hn => by
          simp only [Array.getElem?_modify]
          rw [if_neg (fun e => hn (by rw [← e]; rfl))]
          rfl⟩
end
end Go.Proofs.YthommfjiaalecaaGreatDoor
namespace Go.Proofs
open Go.Shelf
def Tryz.lays165_ren : Go.Shelf.Ren := ⟨fun | 165 => 59 | 240 => 60 | 241 => 67 | 276 => 68 | 277 => 73 | n => n, fun | 70 => 69 | 3 => 3 | 0 => 0 | 4 => 4 | 9 => 9 | 20 => 20 | 72 => 71 | 37 => 33 | 164 => 93 | 5 => 5 | n => n, fun | n => n⟩
theorem Tryz.lays165 : Go.Proofs.Lays.n165 Tryz.prog Tryz.lays165_ren := {
  mixed := by kernel_rfl
  f165 := Tryz.func59.trans (congrArg some (by kernel_rfl))
  f240 := Tryz.func60.trans (congrArg some (by kernel_rfl))
  f241 := Tryz.func67.trans (congrArg some (by kernel_rfl))
  f276 := Tryz.func68.trans (congrArg some (by kernel_rfl))
  f277 := Tryz.func73.trans (congrArg some (by kernel_rfl))
  t0 := Tryz.underlying0
  a0 := Tryz.isAgg0
  z0 := Tryz.sizeOf0
  v0 := Tryz.zeroValue0
  t3 := Tryz.underlying3
  a3 := Tryz.isAgg3
  z3 := Tryz.sizeOf3
  v3 := Tryz.zeroValue3
  t4 := Tryz.underlying4
  a4 := Tryz.isAgg4
  z4 := Tryz.sizeOf4
  v4 := Tryz.zeroValue4
  t9 := Tryz.underlying9
  a9 := Tryz.isAgg9
  z9 := Tryz.sizeOf9
  v9 := Tryz.zeroValue9
  t20 := Tryz.underlying20
  a20 := Tryz.isAgg20
  z20 := Tryz.sizeOf20
  v20 := Tryz.zeroValue20
  t37 := Tryz.underlying33
  a37 := Tryz.isAgg33
  z37 := Tryz.sizeOf33
  v37 := Tryz.zeroValue33
  t70 := Tryz.underlying69
  a70 := Tryz.isAgg69
  z70 := Tryz.sizeOf69
  v70 := Tryz.zeroValue69
  t72 := Tryz.underlying71
  a72 := Tryz.isAgg71
  z72 := Tryz.sizeOf71
  v72 := Tryz.zeroValue71
  t164 := Tryz.underlying93
  a164 := Tryz.isAgg93
  z164 := Tryz.sizeOf93
  v164 := Tryz.zeroValue93 }
theorem Tryz.Builder_Extra_165 : Builder.Extra Tryz.prog Tryz.lays165_ren := {
  sizeBuilder := by kernel_rfl
  liesBuilder := by kernel_rfl
  t5 := Tryz.underlying5
  a5 := Tryz.isAgg5
  z5 := Tryz.sizeOf5
  v5 := Tryz.zeroValue5
  infoByte := by kernel_rfl
  cellsByte := by kernel_rfl
  sizeByte := by kernel_rfl
  neB5 := by decide }
open Go.RowKit in
theorem Tryz.Builder_Grow_fresh (B b n : Nat) (w : World) (hB : B ≤ b) (hbk : w.heap[b]? = some (.cells #[.pointer none, .slice none 0 0] 71 (0, 0))) (hBw : B ≤ w.heap.size) (hn : n ≤ 281474976710656) :
    Calls Tryz.prog 59 #[.pointer (some ⟨b, 0, none⟩), .int .i64 n] w fun e w' => e = .returned (.tuple #[]) ∧ (Lib.BuilderAt 71 5 B b (.pointer (some ⟨b, 0, none⟩)) [] w' ∧ Below B w w') := Any.Builder_Grow_fresh Tryz.lays165 Tryz.Builder_Extra_165 B b n w hB hbk hBw hn
def Tryz.lays156_ren : Go.Shelf.Ren := ⟨fun | 156 => 43 | 165 => 59 | 166 => 45 | 169 => 46 | 240 => 60 | 241 => 67 | 276 => 68 | 277 => 73 | n => n, fun | 31 => 25 | 9 => 9 | 3 => 3 | 4 => 4 | 0 => 0 | 20 => 20 | 72 => 71 | 76 => 74 | 70 => 69 | 37 => 33 | 75 => 73 | 127 => 87 | 164 => 93 | 5 => 5 | 80 => 76 | n => n, fun | n => n⟩
theorem Tryz.lays156 : Go.Proofs.Lays.n156 Tryz.prog Tryz.lays156_ren := {
  mixed := by kernel_rfl
  f156 := Tryz.func43.trans (congrArg some (by kernel_rfl))
  f165 := Tryz.func59.trans (congrArg some (by kernel_rfl))
  f166 := Tryz.func45.trans (congrArg some (by kernel_rfl))
  f169 := Tryz.func46.trans (congrArg some (by kernel_rfl))
  f240 := Tryz.func60.trans (congrArg some (by kernel_rfl))
  f241 := Tryz.func67.trans (congrArg some (by kernel_rfl))
  f276 := Tryz.func68.trans (congrArg some (by kernel_rfl))
  f277 := Tryz.func73.trans (congrArg some (by kernel_rfl))
  t0 := Tryz.underlying0
  a0 := Tryz.isAgg0
  z0 := Tryz.sizeOf0
  v0 := Tryz.zeroValue0
  t3 := Tryz.underlying3
  a3 := Tryz.isAgg3
  z3 := Tryz.sizeOf3
  v3 := Tryz.zeroValue3
  t4 := Tryz.underlying4
  a4 := Tryz.isAgg4
  z4 := Tryz.sizeOf4
  v4 := Tryz.zeroValue4
  t9 := Tryz.underlying9
  a9 := Tryz.isAgg9
  z9 := Tryz.sizeOf9
  v9 := Tryz.zeroValue9
  t20 := Tryz.underlying20
  a20 := Tryz.isAgg20
  z20 := Tryz.sizeOf20
  v20 := Tryz.zeroValue20
  t31 := Tryz.underlying25
  a31 := Tryz.isAgg25
  z31 := Tryz.sizeOf25
  v31 := Tryz.zeroValue25
  t37 := Tryz.underlying33
  a37 := Tryz.isAgg33
  z37 := Tryz.sizeOf33
  v37 := Tryz.zeroValue33
  t70 := Tryz.underlying69
  a70 := Tryz.isAgg69
  z70 := Tryz.sizeOf69
  v70 := Tryz.zeroValue69
  t72 := Tryz.underlying71
  a72 := Tryz.isAgg71
  z72 := Tryz.sizeOf71
  v72 := Tryz.zeroValue71
  t75 := Tryz.underlying73
  a75 := Tryz.isAgg73
  z75 := Tryz.sizeOf73
  v75 := Tryz.zeroValue73
  t76 := Tryz.underlying74
  a76 := Tryz.isAgg74
  z76 := Tryz.sizeOf74
  v76 := Tryz.zeroValue74
  t127 := Tryz.underlying87
  a127 := Tryz.isAgg87
  z127 := Tryz.sizeOf87
  v127 := Tryz.zeroValue87
  t164 := Tryz.underlying93
  a164 := Tryz.isAgg93
  z164 := Tryz.sizeOf93
  v164 := Tryz.zeroValue93 }
theorem Tryz.Builder_Extra_156 : Builder.Extra Tryz.prog Tryz.lays156_ren := {
  sizeBuilder := by kernel_rfl
  liesBuilder := by kernel_rfl
  t5 := Tryz.underlying5
  a5 := Tryz.isAgg5
  z5 := Tryz.sizeOf5
  v5 := Tryz.zeroValue5
  infoByte := by kernel_rfl
  cellsByte := by kernel_rfl
  sizeByte := by kernel_rfl
  neB5 := by decide }
open Go.RowKit in
theorem Tryz.strings_Join_none (a : Option Addr) (c : Nat) (sep : ByteArray) (w : World) :
    Calls Tryz.prog 43 #[.slice a 0 c, .string sep] w fun e w' => e = .returned (.string ⟨#[]⟩) ∧ w' = w := Any.strings_Join_none Tryz.lays156 Tryz.Builder_Extra_156 a c sep w
open Go.RowKit in
theorem Tryz.strings_Join (bk o c : Nat) (xs : List ByteArray) (sep : ByteArray) (w : World) (hcells : ∀ (j : Nat) x, xs[j]? = some x → w.cell? ⟨bk, o + j, none⟩ = some (.string x)) (hbk : bk < w.heap.size) (hN : xs.length ≤ 140737488355328) (hcap : xs.length ≤ c) (hlen : (Lib.join (xs.map (·.data.toList)) sep.data.toList).length ≤ 140737488355328) :
    Calls Tryz.prog 43 #[.slice (some ⟨bk, o, none⟩) xs.length c, .string sep] w fun e w' => e = .returned (.string ⟨(Lib.join (xs.map (·.data.toList)) sep.data.toList).toArray⟩) ∧ Below w.heap.size w w' := Any.strings_Join Tryz.lays156 Tryz.Builder_Extra_156 bk o c xs sep w hcells hbk hN hcap hlen
def Tryz.lays143_ren : Go.Shelf.Ren := ⟨fun | 143 => 71 | 219 => 87 | 217 => 95 | 225 => 96 | 224 => 97 | 267 => 98 | 266 => 102 | 314 => 103 | n => n, fun | 9 => 9 | 3 => 3 | 4 => 4 | 5 => 5 | 46 => 110 | 146 => 117 | 51 => 116 | n => n, fun | 1 => 0 | n => n⟩
theorem Tryz.lays143 : Go.Proofs.Lays.n143 Tryz.prog Tryz.lays143_ren := {
  mixed := by kernel_rfl
  f143 := Tryz.func71.trans (congrArg some (by kernel_rfl))
  f217 := Tryz.func95.trans (congrArg some (by kernel_rfl))
  f219 := Tryz.func87.trans (congrArg some (by kernel_rfl))
  f224 := Tryz.func97.trans (congrArg some (by kernel_rfl))
  f225 := Tryz.func96.trans (congrArg some (by kernel_rfl))
  f266 := Tryz.func102.trans (congrArg some (by kernel_rfl))
  f267 := Tryz.func98.trans (congrArg some (by kernel_rfl))
  f314 := Tryz.func103.trans (congrArg some (by kernel_rfl))
  t3 := Tryz.underlying3
  a3 := Tryz.isAgg3
  z3 := Tryz.sizeOf3
  v3 := Tryz.zeroValue3
  t4 := Tryz.underlying4
  a4 := Tryz.isAgg4
  z4 := Tryz.sizeOf4
  v4 := Tryz.zeroValue4
  t5 := Tryz.underlying5
  a5 := Tryz.isAgg5
  z5 := Tryz.sizeOf5
  v5 := Tryz.zeroValue5
  t9 := Tryz.underlying9
  a9 := Tryz.isAgg9
  z9 := Tryz.sizeOf9
  v9 := Tryz.zeroValue9
  t46 := Tryz.underlying110
  a46 := Tryz.isAgg110
  z46 := Tryz.sizeOf110
  v46 := Tryz.zeroValue110
  t51 := Tryz.underlying116
  a51 := Tryz.isAgg116
  z51 := Tryz.sizeOf116
  v51 := Tryz.zeroValue116
  t146 := Tryz.underlying117
  a146 := Tryz.isAgg117
  z146 := Tryz.sizeOf117
  v146 := Tryz.zeroValue117
  g1 := by kernel_rfl }
open Go.RowKit Go.Lib in
theorem Tryz.strings_Index_one (s : ByteArray) (c : UInt8) (w : World) :
    Calls Tryz.prog 71 #[.string s, .string ⟨#[c]⟩] w fun e w' => e = .returned (.int .i64 (Lib.indexByte s.data.toList c)) ∧ w' = w := Any.strings_Index_one Tryz.lays143 s c w
def Tryz.lays138_ren : Go.Shelf.Ren := ⟨fun | 138 => 70 | 195 => 85 | 218 => 86 | 143 => 71 | 219 => 87 | 217 => 95 | 225 => 96 | 224 => 97 | 267 => 98 | 266 => 102 | 314 => 103 | n => n, fun | 9 => 9 | 3 => 3 | 4 => 4 | 5 => 5 | 0 => 0 | 46 => 110 | 146 => 117 | 51 => 116 | n => n, fun | 1 => 0 | n => n⟩
theorem Tryz.lays138 : Go.Proofs.Lays.n138 Tryz.prog Tryz.lays138_ren := {
  mixed := by kernel_rfl
  f138 := Tryz.func70.trans (congrArg some (by kernel_rfl))
  f143 := Tryz.func71.trans (congrArg some (by kernel_rfl))
  f195 := Tryz.func85.trans (congrArg some (by kernel_rfl))
  f217 := Tryz.func95.trans (congrArg some (by kernel_rfl))
  f218 := Tryz.func86.trans (congrArg some (by kernel_rfl))
  f219 := Tryz.func87.trans (congrArg some (by kernel_rfl))
  f224 := Tryz.func97.trans (congrArg some (by kernel_rfl))
  f225 := Tryz.func96.trans (congrArg some (by kernel_rfl))
  f266 := Tryz.func102.trans (congrArg some (by kernel_rfl))
  f267 := Tryz.func98.trans (congrArg some (by kernel_rfl))
  f314 := Tryz.func103.trans (congrArg some (by kernel_rfl))
  t0 := Tryz.underlying0
  a0 := Tryz.isAgg0
  z0 := Tryz.sizeOf0
  v0 := Tryz.zeroValue0
  t3 := Tryz.underlying3
  a3 := Tryz.isAgg3
  z3 := Tryz.sizeOf3
  v3 := Tryz.zeroValue3
  t4 := Tryz.underlying4
  a4 := Tryz.isAgg4
  z4 := Tryz.sizeOf4
  v4 := Tryz.zeroValue4
  t5 := Tryz.underlying5
  a5 := Tryz.isAgg5
  z5 := Tryz.sizeOf5
  v5 := Tryz.zeroValue5
  t9 := Tryz.underlying9
  a9 := Tryz.isAgg9
  z9 := Tryz.sizeOf9
  v9 := Tryz.zeroValue9
  t46 := Tryz.underlying110
  a46 := Tryz.isAgg110
  z46 := Tryz.sizeOf110
  v46 := Tryz.zeroValue110
  t51 := Tryz.underlying116
  a51 := Tryz.isAgg116
  z51 := Tryz.sizeOf116
  v51 := Tryz.zeroValue116
  t146 := Tryz.underlying117
  a146 := Tryz.isAgg117
  z146 := Tryz.sizeOf117
  v146 := Tryz.zeroValue117
  g1 := by kernel_rfl }
open Go.RowKit Go.Lib in
theorem Tryz.strings_Count_one (s : ByteArray) (c : UInt8) (w : World) :
    Calls Tryz.prog 70 #[.string s, .string ⟨#[c]⟩] w fun e w' => e = .returned (.int .i64 (Lib.countByte s.data.toList c)) ∧ w' = w := Any.strings_Count_one Tryz.lays138 s c w
end Go.Proofs
namespace Go.Proofs.YthommfjiaalecaaGreatDoor
open Go.RowKit Vc
variable {w : World}
abbrev Only (g : Nat) (w w' : World) : Prop := Mod (fun i => i = g) w w'
theorem Only.trans {g : Nat} {a b c : World} (h : Only g a b) (k : Only g b c) : Only g a c := Mod.trans h k (fun _ h => h) (fun _ _ h => h)
theorem Only.put {g : Nat} (t : Value) : Only g w (w.setCell ⟨g, 0, none⟩ t) := (Mod.refl (fun i => i = g) w).setCell (p := ⟨g, 0, none⟩) (.inl rfl) _
def letR (r : Int) : Bool := decide ((97 ≤ r ∧ r ≤ 122) ∨ (65 ≤ r ∧ r ≤ 90) ∨ r = 95)
def digR (r : Int) : Bool := decide (48 ≤ r ∧ r ≤ 57)
theorem u8_le (a c : UInt8) : decide (a ≤ c) = decide ((a.toNat : Int) ≤ (c.toNat : Int)) := by
  apply decide_eq_decide.2
  rw [UInt8.le_iff_toNat_le]
  omega
theorem isLet_int (c : UInt8) : isLet c = letR (c.toNat : Int) := by
  unfold isLet letR
  rw [u8_le, u8_le, u8_le, u8_le, show (c == 95) = decide ((c.toNat : Int) = 95) by rw [Bool.eq_iff_iff]; simp [← UInt8.toNat_inj]; omega]
  rw [Bool.eq_iff_iff]
  simp
  omega
theorem isDig_int (c : UInt8) : isDig c = digR (c.toNat : Int) := by
  unfold isDig digR
  rw [u8_le, u8_le, Bool.eq_iff_iff]
  simp
theorem nt {p : Prop} [Decidable p] (h : (!decide p) = true) : ¬ p := by simpa using h
theorem nf {p : Prop} [Decidable p] (h : (!decide p) = false) : p := by simpa using h
theorem ret_bool {b b' : Bool} (h : b = b') : (Ending.returned (.bool b) = .returned (.bool b') ∧ w = w) := by rw [h]; exact ⟨rfl, rfl⟩
theorem ref_letter_spec (c : UInt8) : Calls Tryz.prog fn_ref08_letter #[.int .u8 (c.toNat : Int)] w (fun e w' => e = .returned (.bool (isLet c)) ∧ w' = w) := by
  refine ref08_letter_calls _ _ _ ?_
  rw [isLet_int]
  unfold letR
  repeat' refine bsel_of (fun h => ?_) (fun h => ?_)
  all_goals simp only [decide_eq_true_eq, decide_eq_false_iff_not] at *
  all_goals refine ⟨congrArg (fun b => Ending.returned (.bool b)) ?_, trivial⟩
  all_goals first | exact (decide_eq_true (by omega)).symm | exact decide_eq_decide.2 (by omega)
theorem ref_digit_spec (c : UInt8) : Calls Tryz.prog fn_ref08_digit #[.int .u8 (c.toNat : Int)] w (fun e w' => e = .returned (.bool (isDig c)) ∧ w' = w) := by
  refine ref08_digit_calls _ _ _ ?_
  rw [isDig_int]
  unfold digR
  repeat' refine bsel_of (fun h => ?_) (fun h => ?_)
  all_goals simp only [decide_eq_true_eq, decide_eq_false_iff_not] at *
  all_goals refine ⟨congrArg (fun b => Ending.returned (.bool b)) ?_, trivial⟩
  all_goals first | exact (decide_eq_false (by omega)).symm | exact decide_eq_decide.2 (by omega)
theorem spec_eq (c k : UInt8) : decide ((c.toNat : Int) = (k.toNat : Int)) = (c == k) := by
  rw [Bool.eq_iff_iff]
  simp only [decide_eq_true_eq, beq_iff_eq]
  exact byte_eq
theorem ref_special_spec (c : UInt8) : Calls Tryz.prog fn_ref08_special #[.int .u8 (c.toNat : Int)] w (fun e w' => e = .returned (.bool (isSpec c)) ∧ w' = w) := by
  refine ref08_special_calls _ _ _ ?_
  refine (ref_digit_spec c).mono ?_
  rintro _ w1 ⟨rfl, rfl⟩
  have e1 := spec_eq c 35
  have e2 := spec_eq c 63
  have e3 := spec_eq c 64
  have e4 := spec_eq c 42
  unfold isSpec
  rw [← e1, ← e2, ← e3, ← e4]
  refine .inl ⟨_, rfl, bsel_of (fun h => ret_bool (by rw [h]; rfl)) (fun h => bsel_of (fun h2 => ret_bool ?_) (fun h2 => bsel_of (fun h3 => ret_bool ?_) (fun h3 => bsel_of (fun h4 => ret_bool ?_) (fun h4 => ret_bool ?_))))⟩
  · have h2 : decide ((c.toNat : Int) = ((35 : UInt8).toNat : Int)) = true := h2
    rw [h2]; simp
  · have h3 : decide ((c.toNat : Int) = ((63 : UInt8).toNat : Int)) = true := h3
    rw [h3]; simp
  · have h4 : decide ((c.toNat : Int) = ((64 : UInt8).toNat : Int)) = true := h4
    rw [h4]; simp
  · have h2 : decide ((c.toNat : Int) = ((35 : UInt8).toNat : Int)) = false := h2
    have h3 : decide ((c.toNat : Int) = ((63 : UInt8).toNat : Int)) = false := h3
    have h4 : decide ((c.toNat : Int) = ((64 : UInt8).toNat : Int)) = false := h4
    rw [h, h2, h3, h4]
    rfl
theorem takeWhile_step {p : UInt8 → Bool} : ∀ {l : Txt} {k : Nat} (hk : k < l.length), k ≤ (l.takeWhile p).length → (p l[k] = true → k + 1 ≤ (l.takeWhile p).length) ∧ (p l[k] = false → (l.takeWhile p).length = k)
  | a :: l, 0, _, _ => by
    refine ⟨fun h => ?_, fun h => ?_⟩
    · have h : p a = true := h
      rw [List.takeWhile_cons, if_pos h]
      simp
    · have h : p a = false := h
      rw [List.takeWhile_cons, if_neg (by rw [h]; decide)]
      rfl
  | a :: l, k + 1, hk, h => by
    rw [List.takeWhile_cons] at h ⊢
    by_cases ha : p a = true
    · rw [if_pos ha] at h ⊢
      simp only [List.length_cons] at h hk ⊢
      have := takeWhile_step (p := p) (l := l) (k := k) (by omega) (by omega)
      refine ⟨fun hp => ?_, fun hp => ?_⟩
      · have := this.1 hp; omega
      · have := this.2 hp; omega
    · rw [if_neg ha] at h
      simp at h
theorem nameN_step {s : Txt} {k : Nat} (hk : k < s.length) (h : k ≤ nameN s) : ((isLet s[k] || (decide (0 < k) && isDig s[k])) = true → k + 1 ≤ nameN s) ∧ ((isLet s[k] || (decide (0 < k) && isDig s[k])) = false → nameN s = k) := by
  cases s with
  | nil => simp at hk
  | cons c r =>
    simp only [nameN] at h ⊢
    cases k with
    | zero =>
      have e : (c :: r)[0] = c := rfl
      rw [e]
      simp only [Nat.lt_irrefl, decide_false, Bool.false_and, Bool.or_false]
      refine ⟨fun hc => ?_, fun hc => ?_⟩
      · rw [if_pos hc]; omega
      · rw [if_neg (by rw [hc]; decide)]
    | succ k =>
      by_cases hc : isLet c = true
      · rw [if_pos hc] at h ⊢
        simp only [List.length_cons] at hk
        have := takeWhile_step (p := isNam) (l := r) (k := k) (by omega) (by omega)
        have e : (c :: r)[k + 1] = r[k]'(by omega) := rfl
        rw [e]
        simp only [Nat.zero_lt_succ, decide_true, Bool.true_and]
        refine ⟨fun hp => ?_, fun hp => ?_⟩
        · have := this.1 hp; omega
        · have := this.2 hp; omega
      · rw [if_neg hc] at h
        omega
theorem ref_Name_spec (s : Txt) (hl : s.length < 1000000) : Calls Tryz.prog fn_ref08_Name #[.string (S s)] w (fun e w' => e = .returned (.int .i64 (nameN s : Int)) ∧ w' = w) := by
  refine ref08_Name_calls _ _ _ ?_
  refine ⟨fun n w1 => ∃ k : Nat, n = (k : Int) ∧ k ≤ nameN s ∧ w1 = w, fun n _ => s.length - n.toNat, ⟨0, rfl, Nat.zero_le _, rfl⟩, ?_⟩
  rintro _ _ w1 ⟨k, rfl, hk, rfl⟩
  have hnl := nameN_le s
  refine bsel_of (fun hx => ?_) (fun hx => ?_)
  rotate_left
  · have hx := of_decide_eq_false hx
    have : k = nameN s := by omega
    rw [this]
    exact ⟨rfl, rfl⟩
  have hx : k < s.length := by have := of_decide_eq_true hx; omega
  obtain ⟨n1, n2⟩ := nameN_step hx hk
  have e1 : IntKind.i64.wrap ((k : Int) + 1) = ((k + 1 : Nat) : Int) := by rw [wrap_i64 (by omega) (by omega)]; omega
  rw [e1]
  refine ⟨by omega, s[k], by rw [Int.toNat_natCast]; exact getD_some hx, (ref_letter_spec _).mono ?_⟩
  rintro _ w2 ⟨rfl, rfl⟩
  refine .inl ⟨_, rfl, bsel_of (fun h => ?_) (fun h => ?_)⟩
  · exact ⟨⟨k + 1, rfl, n1 (by rw [h]; rfl), rfl⟩, by dsimp only; omega⟩
  · refine bsel_of (fun h0 => ?_) (fun h0 => ?_)
    · have h0 := of_decide_eq_true h0
      refine ⟨by omega, s[k], by rw [Int.toNat_natCast]; exact getD_some hx, (ref_digit_spec _).mono ?_⟩
      rintro _ w3 ⟨rfl, rfl⟩
      refine .inl ⟨_, rfl, bsel_of (fun h5 => ?_) (fun h5 => ?_)⟩
      · exact ⟨⟨k + 1, rfl, n1 (by rw [h, h5, decide_eq_true (by omega)]; rfl), rfl⟩, by dsimp only; omega⟩
      · rw [n2 (by rw [h, h5, Bool.and_false]; rfl)]
        exact ⟨rfl, rfl⟩
    · have h0 := of_decide_eq_false h0
      rw [n2 (by rw [h, decide_eq_false (by omega)]; rfl)]
      exact ⟨rfl, rfl⟩
theorem ref_param_spec (s : Txt) (hl : s.length < 1000000) : Calls Tryz.prog fn_ref08_param #[.string (S s)] w (fun e w' => e = .returned (.int .i64 (paramN s : Int)) ∧ w' = w) := by
  refine ref08_param_calls _ _ _ ?_
  refine (ref_Name_spec s hl).mono ?_
  rintro _ w1 ⟨rfl, rfl⟩
  refine .inl ⟨_, rfl, bsel_of (fun h => ?_) (fun h => ?_)⟩
  · have h : (0 : Int) < (nameN s : Int) := of_decide_eq_true h
    unfold paramN
    rw [if_pos (by omega)]
    exact ⟨rfl, rfl⟩
  have h : ¬ (0 : Int) < (nameN s : Int) := of_decide_eq_false h
  have hz : nameN s = 0 := by omega
  refine bsel_of (fun h0 => ?_) (fun h0 => ?_)
  · have h0 := of_decide_eq_true h0
    subst h0
    exact ⟨rfl, rfl⟩
  have h0 : s ≠ [] := of_decide_eq_false h0
  obtain ⟨c, r, rfl⟩ := List.exists_cons_of_ne_nil h0
  have hp : paramN (c :: r) = if 0 < digN (c :: r) then digN (c :: r) else specN (c :: r) := by
    unfold paramN
    rw [if_neg (by omega)]
  have hdl := digN_le (c :: r)
  -- where digits end
  have stop : ∀ k : Nat, digN (c :: r) = k → ∀ w2 : World, w2 = w1 → bsel (decide ((k : Int) = 0)) ((0 : Int) ≤ 0 ∧ ∃ b1 : UInt8, (c :: r)[Int.toNat 0]? = some b1 ∧ Calls Tryz.prog fn_ref08_special #[.int .u8 (b1.toNat : Int)] w2 (fun ed w4 => (∃ r2, ed = .returned (.bool r2) ∧ bsel r2 (Ending.returned (.int .i64 1) = .returned (.int .i64 (paramN (c :: r) : Int)) ∧ w4 = w1) (Ending.returned (.int .i64 (k : Int)) = .returned (.int .i64 (paramN (c :: r) : Int)) ∧ w4 = w1)) ∨ (∃ ch, ed = .panicked ch ∧ (Ending.panicked ch = .returned (.int .i64 (paramN (c :: r) : Int)) ∧ w4 = w1))))
      (Ending.returned (.int .i64 (k : Int)) = .returned (.int .i64 (paramN (c :: r) : Int)) ∧ w2 = w1) := by
    rintro k hk w2 rfl
    refine bsel_of (fun h1 => ?_) (fun h1 => ?_)
    · have h1 : (k : Int) = 0 := of_decide_eq_true h1
      refine ⟨by decide, c, rfl, (ref_special_spec c).mono ?_⟩
      rintro _ w4 ⟨rfl, rfl⟩
      rw [hp, if_neg (by omega)]
      rw [show specN (c :: r) = if isSpec c = true then 1 else 0 from rfl]
      refine .inl ⟨_, rfl, bsel_of (fun h2 => ?_) (fun h2 => ?_)⟩
      · rw [if_pos h2]; exact ⟨rfl, rfl⟩
      · rw [if_neg (by rw [h2]; decide), h1]; exact ⟨rfl, rfl⟩
    · have h1 : ¬ (k : Int) = 0 := of_decide_eq_false h1
      rw [hp, if_pos (by omega), hk]
      exact ⟨rfl, rfl⟩
  refine ⟨fun n w2 => ∃ k : Nat, n = (k : Int) ∧ k ≤ digN (c :: r) ∧ w2 = w1, fun n _ => (c :: r).length - n.toNat, ⟨0, by rw [hz], Nat.zero_le _, rfl⟩, ?_⟩
  rintro _ _ w2 ⟨k, rfl, hk, rfl⟩
  refine bsel_of (fun hx => ?_) (fun hx => ?_)
  · have hx : k < (c :: r).length := by have := of_decide_eq_true hx; omega
    obtain ⟨n1, n2⟩ := takeWhile_step (p := isDig) hx hk
    have e1 : IntKind.i64.wrap ((k : Int) + 1) = ((k + 1 : Nat) : Int) := by rw [wrap_i64 (by omega) (by omega)]; omega
    rw [e1]
    refine ⟨by omega, (c :: r)[k], by rw [Int.toNat_natCast]; exact getD_some hx, (ref_digit_spec _).mono ?_⟩
    rintro _ w3 ⟨rfl, rfl⟩
    refine .inl ⟨_, rfl, bsel_of (fun h5 => ?_) (fun h5 => ?_)⟩
    · exact ⟨⟨k + 1, rfl, n1 h5, rfl⟩, by dsimp only; omega⟩
    · exact stop k (n2 h5) _ rfl
  · have hx : ¬ (k : Int) < ((c :: r).length : Int) := of_decide_eq_false hx
    exact stop k (by omega) _ rfl
theorem pf_isPrefixOf (t s : Txt) : pf t s = t.isPrefixOf s := by
  unfold pf
  rw [Bool.eq_iff_iff, decide_eq_true_eq, List.isPrefixOf_iff_prefix]
  refine ⟨fun h => ?_, fun h => ⟨h.length_le, (List.prefix_iff_eq_take.1 h).symm⟩⟩
  rw [← h.2]
  exact List.take_prefix _ _
theorem find_step {l : List Txt} {f : Txt → Bool} {i : Nat} (h : i < l.length) : (l.drop i).find? f = if f l[i] = true then some l[i] else (l.drop (i + 1)).find? f := by
  rw [List.drop_eq_getElem_cons h, List.find?_cons]
  cases f l[i] <;> rfl
theorem ref_begins_spec (s t : Txt) (_hs : s.length < 1000000) (ht : t.length < 1000000) : Calls Tryz.prog fn_ref08_begins #[.string (S s), .string (S t)] w (fun e w' => e = .returned (.bool (pf t s)) ∧ w' = w) := by
  refine ref08_begins_calls _ _ _ _ ?_
  unfold pf
  refine bsel_of (fun h => ?_) (fun h => ?_)
  · have h := of_decide_eq_true h
    refine ⟨by omega, by omega, ?_, rfl⟩
    rw [Int.toNat_natCast]
    congr 2
    apply decide_eq_decide.2
    exact ⟨fun e => ⟨by omega, e⟩, fun e => e.2⟩
  · have h := of_decide_eq_false h
    refine ⟨?_, rfl⟩
    rw [decide_eq_false]
    intro e
    omega
def isEnd (c : UInt8) : Bool := c == 32 || c == 9 || c == 10 || c == 59 || c == 124 || c == 38 || c == 40 || c == 41 || c == 60 || c == 62
def endsB : Txt → Bool
  | [] => true
  | c :: _ => isEnd c
def wordL : Nat → Txt → Option Txt
  | 0, _ => none
  | n + 1, s => if endsB s = true then some s else match unitD 30 s with
    | some t => wordL n t
    | none => none
theorem wordL_more : ∀ (n m : Nat) (s : Txt), s.length < n → s.length < m → wordL n s = wordL m s
  | 0, _, _, h, _ => by omega
  | _, 0, _, _, h => by omega
  | n + 1, m + 1, s, hn, hm => by
    rw [wordL, wordL]
    split
    · rfl
    · cases hu : unitD 30 s with
      | none => rfl
      | some t =>
        have := unitD_takes 30 _ _ hu
        exact wordL_more n m t (by omega) (by omega)
def wordD (s : Txt) : Option Txt := wordL (s.length + 1) s
theorem wordD_ends {s : Txt} (h : endsB s = true) : wordD s = some s := by rw [wordD, wordL, if_pos h]
theorem wordD_unit {s t : Txt} (h : endsB s = false) (hu : unitD 30 s = some t) : wordD s = wordD t := by
  have := unitD_takes 30 _ _ hu
  rw [wordD, wordL, if_neg (by rw [h]; decide), hu]
  exact wordL_more _ _ _ (by omega) (by omega)
theorem wordD_none {s : Txt} (h : endsB s = false) (hu : unitD 30 s = none) : wordD s = none := by rw [wordD, wordL, if_neg (by rw [h]; decide), hu]
def opLen : Txt → Nat
  | a :: b :: _ => if a = b ∧ ([38, 124, 59, 62] : Txt).contains a = true then 2 else 1
  | _ => 1
def lineEnd : Txt → Txt
  | [] => []
  | a :: r => if a = 10 then a :: r else lineEnd r
abbrev Tok := Nat × Txt
theorem lineEnd_length : ∀ s : Txt, (lineEnd s).length ≤ s.length
  | [] => Nat.le_refl _
  | a :: r => by
    simp only [lineEnd]
    split
    · exact Nat.le_refl _
    · have := lineEnd_length r
      simp only [List.length_cons]
      omega
theorem wordL_length : ∀ (n : Nat) (s t : Txt), wordL n s = some t → t.length ≤ s.length
  | 0, _, _, h => by cases h
  | n + 1, s, t, h => by
    rw [wordL] at h
    split at h
    · obtain rfl := Option.some.inj h; exact Nat.le_refl _
    · split at h
      · rename_i t' ht
        have h1 := unitD_takes 30 _ _ ht
        have h2 := wordL_length n _ _ h
        omega
      · cases h
theorem wordD_length {s t : Txt} (he : endsB s = false) (h : wordD s = some t) : t.length < s.length := by
  cases hu : unitD 30 s with
  | none => rw [wordD_none he hu] at h; cases h
  | some t' =>
    rw [wordD_unit he hu] at h
    have h1 := unitD_takes 30 _ _ hu
    have h2 := wordL_length _ _ _ h
    omega
theorem opLen_le {a : UInt8} {r : Txt} : 0 < opLen (a :: r) ∧ opLen (a :: r) ≤ (a :: r).length := by
  cases r with
  | nil => exact ⟨Nat.one_pos, Nat.le_refl _⟩
  | cons b r => simp only [opLen]; split <;> simp
def tokOne (a : UInt8) (r : Txt) : Option (List Tok × Txt) :=
  if a = 32 ∨ a = 9 then some ([], r)
  else if a = 35 then some ([], lineEnd r)
  else if a = 10 then some ([(2, [10])], r)
  else if isEnd a = true then some ([(1, (a :: r).take (opLen (a :: r)))], (a :: r).drop (opLen (a :: r)))
  else match wordD (a :: r) with
    | some t => some ([(0, (a :: r).take ((a :: r).length - t.length))], t)
    | none => none
def tokL : Nat → Txt → Option (List Tok)
  | 0, _ => none
  | _ + 1, [] => some []
  | n + 1, a :: r => match tokOne a r with
    | some (l, t) => match tokL n t with
      | some m => some (l ++ m)
      | none => none
    | none => none
def toks (s : Txt) : Option (List Tok) := tokL (s.length + 1) s
theorem tokOne_length {a : UInt8} {r t : Txt} {l : List Tok} (h : tokOne a r = some (l, t)) : t.length ≤ r.length ∧ l.length ≤ 1 := by
  unfold tokOne at h
  split at h
  · obtain ⟨rfl, rfl⟩ := Prod.mk.injEq .. ▸ Option.some.inj h
    exact ⟨Nat.le_refl _, by simp⟩
  · split at h
    · obtain ⟨rfl, rfl⟩ := Prod.mk.injEq .. ▸ Option.some.inj h
      exact ⟨lineEnd_length r, by simp⟩
    · split at h
      · obtain ⟨rfl, rfl⟩ := Prod.mk.injEq .. ▸ Option.some.inj h
        exact ⟨Nat.le_refl _, by simp⟩
      · split at h
        · obtain ⟨rfl, rfl⟩ := Prod.mk.injEq .. ▸ Option.some.inj h
          have := opLen_le (a := a) (r := r)
          refine ⟨?_, by simp⟩
          rw [List.length_drop]
          simp only [List.length_cons] at this ⊢
          omega
        · rename_i he
          split at h
          · rename_i t' ht
            obtain ⟨rfl, rfl⟩ := Prod.mk.injEq .. ▸ Option.some.inj h
            have := wordD_length (s := a :: r) (by simpa [endsB] using he) ht
            simp only [List.length_cons] at this
            exact ⟨by omega, by simp⟩
          · cases h
theorem tokL_more : ∀ (n m : Nat) (s : Txt), s.length < n → s.length < m → tokL n s = tokL m s
  | 0, _, _, h, _ => by omega
  | _, 0, _, _, h => by omega
  | n + 1, m + 1, [], _, _ => rfl
  | n + 1, m + 1, a :: r, hn, hm => by
    simp only [List.length_cons] at hn hm
    simp only [tokL]
    cases h : tokOne a r with
    | none => rfl
    | some x =>
      obtain ⟨l, t⟩ := x
      have := (tokOne_length h).1
      dsimp only
      rw [tokL_more n m t (by omega) (by omega)]
theorem toks_nil : toks [] = some [] := rfl
theorem toks_cons (a : UInt8) (r : Txt) : toks (a :: r) = (tokOne a r).bind fun x => (toks x.2).map (x.1 ++ ·) := by
  show tokL (r.length + 1 + 1) (a :: r) = _
  simp only [tokL]
  cases h : tokOne a r with
  | none => rfl
  | some x =>
    obtain ⟨l, t⟩ := x
    have := (tokOne_length h).1
    dsimp only [Option.bind]
    rw [tokL_more (r.length + 1) (t.length + 1) t (by omega) (by omega)]
    show _ = (tokL (t.length + 1) t).map _
    cases tokL (t.length + 1) t <;> rfl
def tc (l : List Tok) : List Value := l.flatMap fun x => [.int .i64 (x.1 : Int), .string (S x.2)]
theorem tc_append (l m : List Tok) : tc (l ++ m) = tc l ++ tc m := by simp [tc]
def tokRes (s : Txt) : List Tok × Int := if 20000 < s.length then ([], 2) else match toks s with
  | some l => (l, 0)
  | none => ([], 80)
theorem two_one {k : Int} {t : Txt} : ∀ u ∈ [Value.int .i64 k, .string (S t)], u.oneCell' = true := by
  intro u hu
  simp only [List.mem_cons, List.not_mem_nil, or_false] at hu
  rcases hu with rfl | rfl <;> rfl
theorem pair_src (w : World) (t : TypeId) (x y : Value) : 0 < 1 → ∃ a : Addr, (some (Addr.mk w.heap.size 0 none)) = some a ∧ ∀ (j : Nat) (u : Value), [x, y][j]? = some u → (w.alloc (.cells #[x, y] t)).cell? (a.add j) = some u := by
  refine fun _ => ⟨_, rfl, fun j u hu => ?_⟩
  rw [add_row, Nat.zero_add]
  exact (Row.new w t ⟨[x, y]⟩).cellv (by simpa using hu)
end Go.Proofs.YthommfjiaalecaaGreatDoor
namespace Go.Proofs.YthommfjiaalecaaGreatDoor
open Go.RowKit Vc
theorem wordL_ends : ∀ n, Ends (wordL n)
  | 0 => fun s t h => by cases h
  | n + 1 => by
    intro s t h
    rw [wordL] at h
    split at h
    · obtain rfl := Option.some.inj h; exact List.suffix_refl _
    · split at h
      · rename_i x hx
        exact (wordL_ends n _ _ h).trans (unitD_ends 30 _ _ hx)
      · cases h
theorem tokOne_view {a : UInt8} {r t : Txt} {l : List Tok} (h : tokOne a r = some (l, t)) :
    ((a = 32 ∨ a = 9) ∧ l = [] ∧ t = r) ∨ (a = 35 ∧ l = [] ∧ t = lineEnd r) ∨ (a = 10 ∧ l = [(2, [10])] ∧ t = r) ∨
    ((¬ (a = 32 ∨ a = 9) ∧ ¬ a = 35 ∧ ¬ a = 10) ∧ isEnd a = true ∧ l = [(1, (a :: r).take (opLen (a :: r)))] ∧ t = (a :: r).drop (opLen (a :: r))) ∨
    ((¬ (a = 32 ∨ a = 9) ∧ ¬ a = 35 ∧ ¬ a = 10) ∧ isEnd a = false ∧ ∃ p, p ≠ [] ∧ a :: r = p ++ t ∧ wordD (p ++ t) = some t ∧ l = [(0, p)]) := by
  unfold tokOne at h
  by_cases h1 : a = 32 ∨ a = 9
  · rw [if_pos h1] at h
    obtain ⟨rfl, rfl⟩ := Prod.mk.injEq .. ▸ Option.some.inj h
    exact .inl ⟨h1, rfl, rfl⟩
  rw [if_neg h1] at h
  by_cases h2 : a = 35
  · rw [if_pos h2] at h
    obtain ⟨rfl, rfl⟩ := Prod.mk.injEq .. ▸ Option.some.inj h
    exact .inr (.inl ⟨h2, rfl, rfl⟩)
  rw [if_neg h2] at h
  by_cases h3 : a = 10
  · rw [if_pos h3] at h
    obtain ⟨rfl, rfl⟩ := Prod.mk.injEq .. ▸ Option.some.inj h
    exact .inr (.inr (.inl ⟨h3, rfl, rfl⟩))
  rw [if_neg h3] at h
  by_cases h4 : isEnd a = true
  · rw [if_pos h4] at h
    obtain ⟨rfl, rfl⟩ := Prod.mk.injEq .. ▸ Option.some.inj h
    exact .inr (.inr (.inr (.inl ⟨⟨h1, h2, h3⟩, h4, rfl, rfl⟩)))
  rw [if_neg h4] at h
  have h4 : isEnd a = false := by simpa using h4
  refine .inr (.inr (.inr (.inr ⟨⟨h1, h2, h3⟩, h4, ?_⟩)))
  split at h
  · rename_i t' ht
    obtain ⟨rfl, rfl⟩ := Prod.mk.injEq .. ▸ Option.some.inj h
    obtain ⟨p, hp⟩ := wordL_ends _ _ _ ht
    have hlen := wordD_length (s := a :: r) h4 ht
    refine ⟨p, ?_, hp.symm, by rw [hp]; exact ht, ?_⟩
    · rintro rfl
      rw [← hp] at hlen
      simp at hlen
    · rw [← hp]
      simp
  · cases h
theorem map_nil (o : Option (List Tok)) : o.map (([] : List Tok) ++ ·) = o := by
  cases o <;> simp
end Go.Proofs.YthommfjiaalecaaGreatDoor
namespace Go.Proofs.YthommfjiaalecaaGreatDoor
open Go.RowKit Vc
variable {w : World}
abbrev pagg (x : Pt) (v : Value) : Value := .agg #[.int .i64 x.k, .bool x.q, .string (S x.t), .string (S x.n), .string (S x.o), v]
theorem Owns.store {B : Nat} {e : TypeId} {sz n c g i : Nat} {xs : List Value} {u : Value} {K : World → Prop} (h : Owns w B e sz (.slice (some ⟨g, 0, none⟩) n c) n xs) (hi : i < n * sz) (hu : u.oneCell' = true)
    (hK : ∀ w', Owns w' B e sz (.slice (some ⟨g, 0, none⟩) n c) n (xs.set i u) → Mod (fun k => k = g) w w' → w'.heap.size = w.heap.size → K w') : stCells ((Addr.mk g 0 none).add i) K 0 [u] w := by
  obtain ⟨h1, ⟨he, hn⟩ | ⟨g', cap, cur, he, hB, hr, hc, hm, hs, ht⟩⟩ := h
  · cases he
  · injection he with e1 e2 e3
    injection e1 with e1
    injection e1 with e1
    subst e1 e3
    rw [add_row, Nat.zero_add]
    have hr' : Row w g e ⟨cur.toList⟩ := hr
    have hlen : cur.toList.length = c * sz := by rw [Array.length_toList]; exact hs
    have hle : n * sz ≤ c * sz := Nat.mul_le_mul_right sz hc
    refine stK hr' (by simp only [List.length_cons, List.length_nil]; omega) (by simpa using hu) fun w' r' m' z' => hK w' ⟨by rw [List.length_set]; exact h1, .inr ⟨g, c, _, rfl, hB, r', hc, hm, ?_, ?_⟩⟩ m' z'
    · simp only [ovw, List.size_toArray, List.length_set]
      exact hlen
    · simp only [ovw]
      rw [← ht, List.take_set]
theorem SlAt.cells {F : Nat → Prop} {l : List Pt} {p : Option Addr} {n c : Nat} (h : SlAt w F l (.slice p n c)) : ∃ xs, Cs w F l xs ∧ At w p n xs := by
  obtain ⟨p', c', he, h2, h3⟩ := h
  injection he with e1 e2 e3
  subst e1 e2 e3
  by_cases hl : l = []
  · subst hl
    exact ⟨[], rfl, fun h => absurd h (Nat.lt_irrefl _)⟩
  · obtain ⟨b, rfl, h4, h5⟩ := h3 hl
    obtain ⟨xs, h6, h7⟩ := Cs.to h5
    exact ⟨xs, h6, fun _ => ⟨b, rfl, h7⟩⟩
theorem drew_still (w : World) : Still w w.drew := (Still.refl w).toDrew
theorem box_fields {g : Nat} {x : Pt} {v : Value} (h : Row w g 63 ⟨pcell x v⟩) : w.cell? ⟨g, 0, none⟩ = some (.int .i64 x.k) ∧ w.cell? ⟨g, 1, none⟩ = some (.bool x.q) ∧ w.cell? ⟨g, 2, none⟩ = some (.string (S x.t)) ∧ w.cell? ⟨g, 3, none⟩ = some (.string (S x.n)) ∧ w.cell? ⟨g, 4, none⟩ = some (.string (S x.o)) ∧ w.cell? ⟨g, 5, none⟩ = some v :=
  ⟨h.lget rfl, h.lget rfl, h.lget rfl, h.lget rfl, h.lget rfl, h.lget rfl⟩
def AddBody (gx : Nat) (w1 : World) (l : Option Addr) (lL lC : Nat) (R : Ending → World → Prop) : Prop :=
  ∃ xJ : World → Prop, (∃ xJ1 : Bool → World → Prop, (bsel (decide ((0 : Int) ≤ (IntKind.i64.wrap ((((lL : Nat) : Int) : Int) - (1 : Int))))) (∃ v : Int, w1.cell? (Addr.mk gx 0 none) = some (.int .i64 v) ∧ bsel (decide (v = (0 : Int))) (0 ≤ (IntKind.i64.wrap ((((lL : Nat) : Int) : Int) - (1 : Int))) ∧ (IntKind.i64.wrap ((((lL : Nat) : Int) : Int) - (1 : Int))) < (lL : Nat) ∧ someK l (fun a => ∃ v1 : Int, w1.cell? (a.add (Int.toNat (IntKind.i64.wrap ((((lL : Nat) : Int) : Int) - (1 : Int))) * 6)) = some (.int .i64 v1) ∧ bsel (decide (v1 = (0 : Int))) (0 ≤ (IntKind.i64.wrap ((((lL : Nat) : Int) : Int) - (1 : Int))) ∧ (IntKind.i64.wrap ((((lL : Nat) : Int) : Int) - (1 : Int))) < (lL : Nat) ∧ someK l (fun a1 => ∃ v2 : Bool, w1.cell? ((a1.add (Int.toNat (IntKind.i64.wrap ((((lL : Nat) : Int) : Int) - (1 : Int))) * 6)).add 1) = some (.bool v2) ∧ ∃ v3 : Bool, w1.cell? (Addr.mk gx 1 none) = some (.bool v3) ∧ xJ1 (decide (v2 = v3)) w1.drew)) (xJ1 false w1.drew))) (xJ1 false w1.drew)) (xJ1 false w1.drew)) ∧ ∀ (x : Bool) (_us1 : Nat → Value) (w2 : World), (xJ1 x w2) → bsel x (∃ Sw : World → Prop, Sw w2.drew ∧ 0 ≤ (IntKind.i64.wrap ((((lL : Nat) : Int) : Int) - (1 : Int))) ∧ (IntKind.i64.wrap ((((lL : Nat) : Int) : Int) - (1 : Int))) < (lL : Nat) ∧ someK l (fun a2 => ∃ v4 : List UInt8, (∀ wq : World, Sw wq → wq.cell? ((a2.add (Int.toNat (IntKind.i64.wrap ((((lL : Nat) : Int) : Int) - (1 : Int))) * 6)).add 2) = some (.string (S v4))) ∧ ∃ v5 : List UInt8, (∀ wq : World, Sw wq → wq.cell? (Addr.mk gx 2 none) = some (.string (S v5))) ∧ v4.length + v5.length ≤ 9223372036854775807 ∧ 0 ≤ (IntKind.i64.wrap ((((lL : Nat) : Int) : Int) - (1 : Int))) ∧ (IntKind.i64.wrap ((((lL : Nat) : Int) : Int) - (1 : Int))) < (lL : Nat) ∧ someK l (fun a3 => stCells ((a3.add (Int.toNat (IntKind.i64.wrap ((((lL : Nat) : Int) : Int) - (1 : Int))) * 6)).add 2) (fun (w3 : World) => R (.returned (.slice l lL lC)) w3) 0 [(.string (S (v4 ++ v5)))] w2.drew))) (xJ w2)) ∧ ∀ (_us2 : Nat → Value) (w4 : World), (xJ w4) → ∃ vKind : Int, ∃ vQuoted : Bool, ∃ vText : List UInt8, ∃ vName : List UInt8, ∃ vOp : List UInt8, ∃ (vWord : Option Addr) (vWordL vWordC : Nat), w4.cell? (Addr.mk gx 0 none) = some (.int .i64 vKind) ∧ w4.cell? (Addr.mk gx 1 none) = some (.bool vQuoted) ∧ w4.cell? (Addr.mk gx 2 none) = some (.string (S vText)) ∧ w4.cell? (Addr.mk gx 3 none) = some (.string (S vName)) ∧ w4.cell? (Addr.mk gx 4 none) = some (.string (S vOp)) ∧ w4.cell? (Addr.mk gx 5 none) = some (.slice vWord vWordL vWordC) ∧ letW (w4.alloc (.cells #[(.int .i64 vKind), (.bool vQuoted), (.string (S vText)), (.string (S vName)), (.string (S vOp)), (.slice vWord vWordL vWordC)] 63)) (fun (w5 : World) => appK w5 63 6 88 l lL lC (some (Addr.mk w4.heap.size 0 none)) 1 (fun (p : Option Addr) (cp : Nat) (w6 : World) => R (.returned (.slice p (lL + 1) cp)) w6))
theorem addBody_spec {w1 : World} {gx B : Nat} {l : List Pt} {p : Option Addr} {c : Nat} {x : Pt} {wp : Option Addr} {wc : Nat} {R : Ending → World → Prop} (r1 : Row w1 gx 63 ⟨pcell x (.slice wp x.w.length wc)⟩) (ho : OutAt w1 B l (.slice p l.length c)) (hB : B ≤ w1.heap.size)
    (hw : SlAt w1 (fun k => B ≤ k ∧ k < w1.heap.size ∧ (Value.slice p l.length c).ownBlock ≠ some k) x.w (.slice wp x.w.length wc)) (hl : wtL l + x.wt < 1000000000)
    (hR : ∀ v' w', OutAt w' B (addP l x) v' → Mod (fun k => (Value.slice p l.length c).ownBlock = some k) w1 w' → (∀ k, v'.ownBlock = some k → (Value.slice p l.length c).ownBlock = some k ∨ w1.heap.size ≤ k) → R (.returned v') w') : AddBody gx w1 p l.length c R := by
  obtain ⟨p', c', xs, hv, hown, hcs⟩ := ho
  injection hv with hv1 _ hv2
  subst hv1 hv2
  have hwl := wtL_len l
  obtain ⟨f0, f1, f2, f3, f4, f5⟩ := box_fields (x := x) r1
  have sd : Still w1 w1.drew := drew_still w1
  -- what stands behind is put in a new place
  have push : (∀ y ∈ l.getLast?, ¬ Mg y x) → ∀ w4 : World, w4 = w1.drew →
      letW (w4.alloc (.cells ⟨pcell x (.slice wp x.w.length wc)⟩ 63)) (fun w5 => appK w5 63 6 88 p l.length c (some (Addr.mk w4.heap.size 0 none)) 1 (fun p' cp w6 => R (.returned (.slice p' (l.length + 1) cp)) w6)) := by
    rintro hno _ rfl
    have hadd : addP l x = l ++ [x] := by
      by_cases hl : l = []
      · subst hl; rfl
      · obtain ⟨m, y, rfl⟩ := snoc_of hl
        rw [addP_snoc, if_neg (show ¬ (x.k = 0 ∧ y.k = 0 ∧ y.q = x.q) from hno y (by simp))]
    refine allocK fun w5 r5 s5 z5 => ?_
    have s05 := sd.trans s5
    refine appK_push (hown.still s05) (by have := s05.size; omega) (pcell x (.slice wp x.w.length wc)) rfl (pcell_one rfl) (fun _ => ⟨_, rfl, fun j u hu => ?_⟩) (by omega) (by omega) fun p' c' w6 ho6 hm6 hbk => ?_
    · rw [add_row, Nat.zero_add]
      exact r5.lget hu
    · have hm06 : Mod (fun k => (Value.slice p l.length c).ownBlock = some k) w1 w6 := Mod.trans s05 hm6 (fun _ h => h.elim) (fun _ _ h => h)
      have hz5 : w1.heap.size ≤ w5.heap.size := s05.size
      have hown' : ∀ k, (Value.slice p' (l.length + 1) c').ownBlock = some k → (Value.slice p l.length c).ownBlock = some k ∨ w5.heap.size ≤ k := by
        intro k hk
        rcases hbk.own (n := l.length) with e | e
        · exact .inl (by rw [← e]; exact hk)
        · rw [hk] at e
          obtain rfl := Option.some.inj e
          exact .inr (Nat.le_refl _)
      refine hR _ _ ?_ hm06 fun k hk => (hown' k hk).imp_right fun h => by omega
      rw [hadd]
      refine ⟨p', c', _, by rw [List.length_append]; rfl, by rw [List.length_append]; exact ho6, ?_⟩
      have tr : ∀ {y : List Pt} {u : Value}, SlAt w1 (fun k => B ≤ k ∧ k < w1.heap.size ∧ (Value.slice p l.length c).ownBlock ≠ some k) y u → SlAt w6 (fun k => B ≤ k ∧ k < w6.heap.size ∧ (Value.slice p' (l.length + 1) c').ownBlock ≠ some k) y u := by
        intro y u h
        refine (h.mod hm06 fun k hk => hk.2.2).mono fun k hk => ⟨hk.1, Nat.lt_of_lt_of_le hk.2.1 hm06.size, fun e => ?_⟩
        rcases hown' k e with e | e
        · exact hk.2.2 e
        · omega
      exact (hcs.turn tr).snoc (tr hw)
  by_cases hl0 : l = []
  · subst hl0
    have e1 : IntKind.i64.wrap ((((([] : List Pt).length : Nat) : Int) : Int) - 1) = -1 := by decide
    unfold AddBody
    rw [e1]
    refine ⟨fun w4 => w4 = w1.drew, ⟨fun b w2 => b = false ∧ w2 = w1.drew, bsel_of (fun h => absurd h (by decide)) (fun _ => ⟨rfl, rfl⟩), ?_⟩, ?_⟩
    · rintro _ _ w2 ⟨rfl, rfl⟩
      exact rfl
    · rintro _ _ rfl
      obtain ⟨f0, f1, f2, f3, f4, f5⟩ := box_fields (x := x) (r1.still (drew_still w1))
      exact ⟨_, _, _, _, _, _, _, _, f0, f1, f2, f3, f4, f5, push (by simp) _ rfl⟩
  · obtain ⟨m, y, rfl⟩ := snoc_of hl0
    have hlen : (m ++ [y]).length = m.length + 1 := by simp
    obtain ⟨ys, vy, hxs, hcm, hvy⟩ := hcs.last
    have hyl : ys.length = m.length * 6 := hcm.len
    obtain ⟨g, cap, he, hgB, hgl, hcap, hcell⟩ := hown.ownAddr (by omega)
    injection he with e1 e2 e3
    subst e1 e3
    have e1 : IntKind.i64.wrap ((((m ++ [y]).length : Nat) : Int) - 1) = (m.length : Int) := by rw [hlen, wrap_i64 (by omega) (by omega)]; omega
    have ycell : ∀ (w' : World), Still w1 w' → ∀ j u, (pcell y vy)[j]? = some u → w'.cell? (((Addr.mk g 0 none).add (m.length * 6)).add j) = some u := by
      intro w' hs j u hu
      rw [adds, add_row, Nat.zero_add]
      refine hs.cell (hcell _ _ ?_)
      rw [hxs, List.getElem?_append_right (by rw [hyl]; omega), hyl, Nat.add_sub_cancel_left]
      exact hu
    have a0 : ∀ a : Addr, a.add 0 = a := by intro a; unfold Addr.add; simp
    have y0 := ycell w1 (Still.refl _) 0 _ rfl
    rw [a0] at y0
    unfold AddBody
    rw [e1]
    refine ⟨fun w4 => w4 = w1.drew ∧ ¬ Mg y x, ⟨fun b w2 => (b = true ↔ Mg y x) ∧ w2 = w1.drew, bsel_of (fun _ => ⟨x.k, f0, bsel_of (fun hk => ?_) (fun hk => ⟨?_, rfl⟩)⟩) (fun h => absurd (of_decide_eq_false h) (by omega)), ?_⟩, ?_⟩
    · have hk : x.k = 0 := of_decide_eq_true hk
      refine ⟨by omega, by omega, y.k, by rw [Int.toNat_natCast]; exact y0, bsel_of (fun hy => ?_) (fun hy => ⟨?_, rfl⟩)⟩
      · have hy : y.k = 0 := of_decide_eq_true hy
        refine ⟨by omega, by omega, y.q, by rw [Int.toNat_natCast]; exact ycell w1 (Still.refl _) 1 _ rfl, x.q, f1, ?_, rfl⟩
        rw [decide_eq_true_eq]
        exact ⟨fun e => ⟨hk, hy, e⟩, fun e => e.2.2⟩
      · have hy : ¬ y.k = 0 := of_decide_eq_false hy
        exact ⟨fun e => (by cases e), fun e => absurd e.2.1 hy⟩
    · have hk : ¬ x.k = 0 := of_decide_eq_false hk
      exact ⟨fun e => (by cases e), fun e => absurd e.1 hk⟩
    · rintro b _ w2 ⟨hb, rfl⟩
      refine bsel_of (fun h => ?_) (fun h => ?_)
      · have hm := hb.1 h
        have f2' := (r1.still ((drew_still w1).trans (drew_still w1.drew))).lget (i := 2) rfl
        have hty := wtL_append m [y]
        rw [wtL_one, y.wt_eq] at hty
        have hx2 := x.wt_eq
        refine ⟨fun wq => wq = w1.drew.drew, rfl, by omega, by omega, y.t, ?_, x.t, ?_, by omega, by omega, by omega, ?_⟩
        · rintro wq rfl
          rw [Int.toNat_natCast]
          exact ycell _ (sd.trans (drew_still w1.drew)) 2 _ rfl
        · rintro wq rfl
          exact f2'
        · rw [Int.toNat_natCast, someK_some, adds]
          have so : Still w1 w1.drew.drew := sd.toDrew
          refine Owns.store (hown.still so) (by omega) rfl fun w' ho' hm' hz' => hR _ _ ?_ ?_ fun k hk => .inl hk
          · rw [addP_snoc, if_pos (show x.k = 0 ∧ y.k = 0 ∧ y.q = x.q from hm)]
            have hset : xs.set (m.length * 6 + 2) (.string (S (y.t ++ x.t))) = ys ++ pcell (.mk y.k y.q (y.t ++ x.t) y.n y.o y.w) vy := by
              rw [hxs, List.set_append_right _ _ (by rw [hyl]; omega), hyl, Nat.add_sub_cancel_left]
              rfl
            rw [hset] at ho'
            have hmo : Mod (fun k => k = g) w1 w' := Mod.trans so hm' (fun _ h => h.elim) (fun _ _ h => h)
            have tr : ∀ {z : List Pt} {u : Value}, SlAt w1 (fun k => B ≤ k ∧ k < w1.heap.size ∧ (Value.slice (some ⟨g, 0, none⟩) (m ++ [y]).length c).ownBlock ≠ some k) z u → SlAt w' (fun k => B ≤ k ∧ k < w'.heap.size ∧ (Value.slice (some ⟨g, 0, none⟩) (m ++ [y]).length c).ownBlock ≠ some k) z u := by
              intro z u h
              refine (h.mod hmo fun k hk e => hk.2.2 (by rw [e]; simp [Value.ownBlock])).mono fun k hk => ⟨hk.1, Nat.lt_of_lt_of_le hk.2.1 hmo.size, hk.2.2⟩
            have hlen2 : (m ++ [Pt.mk y.k y.q (y.t ++ x.t) y.n y.o y.w]).length = (m ++ [y]).length := by simp
            exact ⟨some ⟨g, 0, none⟩, c, _, by rw [hlen2], by rw [hlen2]; exact ho', (hcm.turn tr).snoc (tr hvy)⟩
          · exact Mod.trans so hm' (fun _ h => h.elim) (fun k _ e => by rw [e]; simp [Value.ownBlock])
      · exact ⟨rfl, fun hm => by rw [hb.2 hm] at h; cases h⟩
    · rintro _ _ ⟨rfl, hno⟩
      obtain ⟨f0, f1, f2, f3, f4, f5⟩ := box_fields (x := x) (r1.still (drew_still w1))
      exact ⟨_, _, _, _, _, _, _, _, f0, f1, f2, f3, f4, f5, push (by simpa using hno) _ rfl⟩
theorem ref_Add_spec {l : List Pt} {v : Value} {x : Pt} {vw : Value} {N : Nat} (ho : SlAt w (fun k => N ≤ k) l v) (hN : N ≤ w.heap.size) (hw : SlAt w (fun k => N ≤ k) x.w vw) (hl : wtL l + x.wt < 1000000000) :
    Calls Tryz.prog fn_ref08_Add #[v, pagg x vw] w (fun e w' => ∃ v', e = .returned v' ∧ SlAt w' (fun k => N ≤ k) (addP l x) v' ∧ Still w w') := by
  obtain ⟨p, c, rfl⟩ := ho.form
  obtain ⟨wp, wc, rfl⟩ := hw.form
  have hwl := wtL_len l
  refine ref08_Add_calls _ _ _ _ _ _ _ _ _ _ _ _ _ ?_
  refine allocK fun w1 r1 s1 z1 => ?_
  obtain ⟨xs, hcs, hat⟩ := (ho.still s1).cells
  have hn : xs.length = l.length * 6 := hcs.len
  refine appK_push (B := w1.heap.size) (Owns.nil w1 _ _ 6) (Nat.le_refl _) xs hn hcs.one hat (by omega) (by omega) fun p' c' w2 ho2 hm2 hbk => ?_
  have s2 : Still w1 w2 := Mod.weaken hm2 fun k h => by cases h
  rw [List.nil_append] at ho2
  have e0 : 0 + l.length = l.length := Nat.zero_add _
  rw [e0] at ho2 ⊢
  have hown : ∀ k, (Value.slice p' l.length c').ownBlock = some k → w1.heap.size ≤ k := fun k hk => (ho2.lt k hk).1
  have ho2' : OutAt w2 N l (.slice p' l.length c') := ⟨p', c', xs, rfl, ho2.base fun k hk => by have := hown k hk; omega, hcs.turn fun h => (h.here.still s2).mono fun k hk => ⟨hk.1, Nat.lt_of_lt_of_le hk.2 s2.size, fun e => by have := hown k e; omega⟩⟩
  have key : AddBody w.heap.size w2 p' l.length c' (fun e w' => ∃ v', e = .returned v' ∧ SlAt w' (fun k => N ≤ k) (addP l x) v' ∧ Still w w') := by
    refine addBody_spec (B := N) (x := x) (r1.still s2) ho2' (by have := s2.size; omega) ((((hw.still s1).here).still s2).mono fun k hk => ⟨hk.1, Nat.lt_of_lt_of_le hk.2 s2.size, fun e => by have := hown k e; omega⟩) hl fun v' w' h1 h2 h3 => ⟨v', rfl, h1.sl.mono fun k hk => hk.1, ?_⟩
    exact Mod.trans (s1.trans s2) h2 (fun _ h => h) fun k hk e => by have := hown k e; have := s1.size; omega
  exact key
theorem SlAt.fields {F : Nat → Prop} {l : List Pt} {p : Option Addr} {n c : Nat} (h : SlAt w F l (.slice p n c)) {i : Nat} (hi : i < l.length) : ∃ b wp wc, p = some b ∧ w.cell? (b.add (i * 6)) = some (.int .i64 l[i].k) ∧ w.cell? ((b.add (i * 6)).add 1) = some (.bool l[i].q) ∧ w.cell? ((b.add (i * 6)).add 2) = some (.string (S l[i].t)) ∧ w.cell? ((b.add (i * 6)).add 3) = some (.string (S l[i].n)) ∧ w.cell? ((b.add (i * 6)).add 4) = some (.string (S l[i].o)) ∧
    w.cell? ((b.add (i * 6)).add 5) = some (.slice wp l[i].w.length wc) ∧ SlAt w F l[i].w (.slice wp l[i].w.length wc) := by
  obtain ⟨b, v, rfl, _, hc, hs⟩ := h.get (List.getElem?_eq_getElem hi)
  obtain ⟨wp, wc, rfl⟩ := hs.form
  have a0 : (b.add (i * 6)).add 0 = b.add (i * 6) := by unfold Addr.add; simp
  refine ⟨b, wp, wc, rfl, ?_, hc 1 _ rfl, hc 2 _ rfl, hc 3 _ rfl, hc 4 _ rfl, hc 5 _ rfl, hs⟩
  have := hc 0 _ rfl
  rwa [a0] at this
theorem take_one {α : Type} {l : List α} {k : Nat} (h : k < l.length) : l.take (k + 1) = l.take k ++ [l[k]] := by rw [List.take_add_one, List.getElem?_eq_getElem h]; rfl
theorem wt_take {l : List Pt} {k : Nat} (h : k < l.length) : wtL (l.take k) + l[k].wt ≤ wtL l := by
  have e : l = l.take k ++ (l[k] :: l.drop (k + 1)) := by rw [← List.drop_eq_getElem_cons h, List.take_append_drop]
  have h2 := wtL_append (l.take k) (l[k] :: l.drop (k + 1))
  rw [← e] at h2
  simp only [wtL] at h2
  omega
theorem hasL_app : ∀ a b : List Pt, hasL (a ++ b) = (hasL a || hasL b)
  | [], _ => rfl
  | p :: a, b => by simp only [List.cons_append, hasL, hasL_app a b, Bool.or_assoc]
theorem hasL_cut {l : List Pt} {k : Nat} (h : k < l.length) (hk : hasL (l.take k) = false) : (l[k].k = 2 → hasL l = true) ∧ (hasL l[k].w = true → hasL l = true) ∧ (l[k].k ≠ 2 → hasL l[k].w = false → hasL (l.take (k + 1)) = false) := by
  have hp : l[k].has = (decide (l[k].k = 2) || hasL l[k].w) := by
    generalize l[k] = p
    cases p
    rfl
  have mem : l[k].has = true → hasL l = true := fun h2 => hasL_mem.2 ⟨_, List.getElem_mem h, h2⟩
  refine ⟨fun h2 => mem (by rw [hp, h2]; rfl), fun h2 => mem (by rw [hp, h2, Bool.or_true]), fun h2 h3 => ?_⟩
  rw [take_one h, hasL_app, hk]
  simp only [hasL, hp, h3, decide_eq_false h2]
  rfl
theorem word_of {l : List Pt} {k : Nat} (h : k < l.length) : SizeOf.sizeOf l[k].w < SizeOf.sizeOf l := mem_size (List.getElem_mem h)
theorem wt_word {l : List Pt} {k : Nat} (h : k < l.length) : wtL l[k].w ≤ wtL l := by
  have h1 := wtL_mem (List.getElem_mem h)
  have h2 := l[k].wt_eq
  omega
theorem one6 {x : Pt} {wp : Option Addr} {n wc : Nat} : ∀ v ∈ [Value.int .i64 x.k, .bool x.q, .string (S x.t), .string (S x.n), .string (S x.o), .slice wp n wc], v.oneCell' = true := by simp [Value.oneCell']
theorem commands_of : ∀ (n : Nat) (l : List Pt), SizeOf.sizeOf l < n → wtL l < 500000000 → ∀ (w : World) (F : Nat → Prop) (v : Value), SlAt w F l v → Calls Tryz.prog fn_ref08_commands #[v] w (fun e w' => e = .returned (.bool (hasL l)) ∧ Still w w') := by
  intro n
  induction n with
  | zero => intro l h; omega
  | succ n ih =>
    intro l hn hl w F v hv
    obtain ⟨p, c, rfl⟩ := hv.form
    have hwl := wtL_len l
    refine ref08_commands_calls _ _ _ _ _ ?_
    refine ⟨fun x w1 => ∃ k : Nat, x = (k : Int) ∧ k ≤ l.length ∧ hasL (l.take k) = false ∧ Still w w1, fun x _ => l.length - x.toNat, ⟨0, rfl, Nat.zero_le _, rfl, Still.refl _⟩, ?_⟩
    rintro _ _ w1 ⟨k, rfl, hk, hh, hs1⟩
    refine bsel_of (fun hx => ?_) (fun hx => ?_)
    rotate_left
    · have hx : k = l.length := by have := of_decide_eq_false hx; omega
      rw [hx, List.take_length] at hh
      rw [hh]
      exact ⟨rfl, hs1⟩
    have hx : k < l.length := by have := of_decide_eq_true hx; omega
    obtain ⟨b, wp, wc, rfl, c0, c1, c2, c3, c4, c5, hsw⟩ := (hv.still hs1).fields hx
    obtain ⟨h2, h3, h4⟩ := hasL_cut hx hh
    rw [Int.toNat_natCast]
    refine ⟨by omega, by omega, _, c0, bsel_of (fun hk2 => ?_) (fun hk2 => ?_)⟩
    · rw [h2 (of_decide_eq_true hk2)]
      exact ⟨rfl, hs1⟩
    · refine ⟨by omega, by omega, _, _, _, c5, (ih _ (by have := word_of hx; omega) (by have := wt_word hx; omega) w1 F _ hsw).mono ?_⟩
      rintro _ w4 ⟨rfl, s4⟩
      refine .inl ⟨_, rfl, bsel_of (fun hb => ?_) (fun hb => ?_)⟩
      · rw [h3 hb]
        exact ⟨rfl, hs1.trans s4⟩
      · rw [show IntKind.i64.wrap ((k : Int) + 1) = ((k + 1 : Nat) : Int) by rw [wrap_i64 (by omega) (by omega)]; omega]
        exact ⟨⟨k + 1, rfl, hx, h4 (of_decide_eq_false hk2) hb, hs1.trans s4⟩, by dsimp only; omega⟩
theorem commands_spec {F : Nat → Prop} {l : List Pt} {v : Value} (hv : SlAt w F l v) (hl : wtL l < 500000000) : Calls Tryz.prog fn_ref08_commands #[v] w (fun e w' => e = .returned (.bool (hasL l)) ∧ Still w w') := commands_of _ l (Nat.lt_succ_self _) hl w F v hv
theorem qdL_step {l : List Pt} {k : Nat} (h : k < l.length) : qdL [] (l.take (k + 1)) = addP (qdL [] (l.take k)) l[k].qd := by
  rw [qdL_fold, qdL_fold, take_one h, List.map_append, List.foldl_append]
  rfl
theorem qd_shape (x : Pt) : x.qd = .mk x.k true x.t x.n x.o (qdL [] x.w) := by cases x; rfl
theorem OutAt.ownLt {B : Nat} {l : List Pt} {v : Value} (h : OutAt w B l v) {k : Nat} (hk : v.ownBlock = some k) : B ≤ k ∧ k < w.heap.size := by
  obtain ⟨p, c, xs, rfl, ho, _⟩ := h
  exact ho.lt k hk
theorem quotes_of : ∀ (n : Nat) (l : List Pt), SizeOf.sizeOf l < n → wtL l < 500000000 → ∀ (w : World) (F : Nat → Prop) (v : Value), SlAt w F l v →
    Calls Tryz.prog fn_ref08_quotes #[v] w (fun e w' => ∃ v', e = .returned v' ∧ SlAt w' (fun k => w.heap.size ≤ k) (qdL [] l) v' ∧ Still w w') := by
  intro n
  induction n with
  | zero => intro l h; omega
  | succ n ih =>
    intro l hn hl w F v hv
    obtain ⟨p, c, rfl⟩ := hv.form
    have hwl := wtL_len l
    refine ref08_quotes_calls _ _ _ _ _ ?_
    refine ⟨fun out outL outC x w1 => ∃ k : Nat, x = (k : Int) ∧ k ≤ l.length ∧ SlAt w1 (fun k => w.heap.size ≤ k) (qdL [] (l.take k)) (.slice out outL outC) ∧ Still w w1, fun _ _ _ x _ => l.length - x.toNat, ⟨0, rfl, Nat.zero_le _, SlAt.nil _ _ _ _, Still.refl _⟩, ?_⟩
    rintro out outL outC _ _ w1 ⟨k, rfl, hk, ho, hs1⟩
    refine bsel_of (fun hx => ?_) (fun hx => ?_)
    rotate_left
    · have hx : k = l.length := by have := of_decide_eq_false hx; omega
      rw [hx, List.take_length] at ho
      exact ⟨_, rfl, ho, hs1⟩
    have hx : k < l.length := by have := of_decide_eq_true hx; omega
    obtain ⟨b, wp, wc, rfl, c0, c1, c2, c3, c4, c5, hsw⟩ := (hv.still hs1).fields hx
    rw [Int.toNat_natCast]
    refine ⟨by omega, by omega, _, _, _, _, _, _, _, _, c0, c1, c2, c3, c4, c5, boxK rfl one6 fun w3 r3 s3 z3 => stK r3 (by simp) (by simp [Value.oneCell']) fun w4 r4 m4 z4 => ?_⟩
    have s4 : Still w1 w4 := s3.box (Nat.le_refl _) m4
    refine ⟨_, _, _, r4.lget rfl, (ih _ (by have := word_of hx; omega) (by have := wt_word hx; omega) w4 F _ (hsw.still s4)).mono ?_⟩
    rintro _ w5 ⟨v5, rfl, hs5, s5⟩
    obtain ⟨rp, rc, rfl⟩ := hs5.form
    refine .inl ⟨_, _, _, rfl, ?_⟩
    have s15 := s4.trans s5
    refine stK (r4.still s5) (by simp [ovw]) (by simp [Value.oneCell']) fun w6 r6 m6 z6 => ?_
    have s16 : Still w1 w6 := s15.box (Nat.le_refl _) m6
    have hsz := s3.size
    have hq6 : SlAt w6 (fun k => w.heap.size ≤ k) (qdL [] l[k].w) (.slice rp (qdL [] l[k].w).length rc) :=
      (hs5.mod m6 (fun j hj e => by omega)).mono fun j hj => by have := hs1.size; omega
    have hwk := wt_take hx
    have hq1 := wt_qdL (l.take k) []
    have hq2 := l[k].wt_qd
    simp only [wtL] at hq1
    have hadd := ref_Add_spec (x := l[k].qd) (ho.still s16) (by have := hs1.size; have := s16.size; omega) (by rw [qd_shape]; exact hq6) (by omega)
    rw [qd_shape] at hadd
    refine ⟨_, _, _, _, _, _, _, _, r6.lget rfl, r6.lget rfl, r6.lget rfl, r6.lget rfl, r6.lget rfl, r6.lget rfl, hadd.mono ?_⟩
    rintro _ w7 ⟨v7, rfl, ho7, s7⟩
    rw [← qd_shape, ← qdL_step hx] at ho7
    obtain ⟨p7, c7, rfl⟩ := ho7.form
    rw [show IntKind.i64.wrap ((k : Int) + 1) = ((k + 1 : Nat) : Int) by rw [wrap_i64 (by omega) (by omega)]; omega]
    exact .inl ⟨_, _, _, rfl, ⟨k + 1, rfl, hx, ho7, (hs1.trans s16).trans s7⟩, by dsimp only; omega⟩
theorem quotes_spec {F : Nat → Prop} {l : List Pt} {v : Value} (hv : SlAt w F l v) (hl : wtL l < 500000000) : Calls Tryz.prog fn_ref08_quotes #[v] w (fun e w' => ∃ v', e = .returned v' ∧ SlAt w' (fun k => w.heap.size ≤ k) (qdL [] l) v' ∧ Still w w') := quotes_of _ l (Nat.lt_succ_self _) hl w F v hv
end Go.Proofs.YthommfjiaalecaaGreatDoor
namespace Go.Proofs.YthommfjiaalecaaGreatDoor
open Go.RowKit Vc
def unitN (s : Txt) : Nat := match unitD 30 s with
  | some t => s.length - t.length
  | none => 0
theorem unitN_pos {s t : Txt} (h : unitD 30 s = some t) : unitN s = s.length - t.length ∧ 0 < unitN s ∧ unitN s ≤ s.length := by
  have := unitD_takes 30 _ _ h
  unfold unitN
  rw [h]
  dsimp only
  omega
end Go.Proofs.YthommfjiaalecaaGreatDoor
namespace Go.Proofs.YthommfjiaalecaaGreatDoor
open Go.RowKit Vc
variable {w : World}
abbrev MP (g B : Nat) (w w' : World) : Prop := Mod (fun k => k = g ∨ B ≤ k) w w'
theorem MP.trans {g B : Nat} {a b c : World} (h : MP g B a b) (k : MP g B b c) : MP g B a c := Mod.trans h k (fun _ h => h) (fun _ _ h => h)
theorem Still.mp {g B : Nat} {a b : World} (h : Still a b) : MP g B a b := h.weaken fun _ h => h.elim
theorem MP.still {g B : Nat} {a b c : World} (h : MP g B a b) (k : Still b c) : MP g B a c := MP.trans h k.mp
theorem bracesF_nz {P : Txt → Rs (List Pt)} (hP : ∀ s, P s ≠ .bad 0) (q : Bool) (s : Txt) : bracesF P q s ≠ .bad 0 := by
  unfold bracesF
  split
  · intro h; cases h
  · split
    · intro h; cases h
    · split
      · intro h; cases h
      · split
        · intro h; cases h
        · cases hp : P ((s.drop (paramN s)).drop (opOf (s.drop (paramN s))).length) with
          | bad k =>
            intro h
            injection h with h
            exact hP _ (hp.trans (by rw [h]))
          | ok x =>
            simp only [Rs.and]
            split <;> (intro h; cases h)
theorem dollarF_nz {P : Txt → Rs (List Pt)} (hP : ∀ s, P s ≠ .bad 0) (q : Bool) (s : Txt) : dollarF P q s ≠ .bad 0 := by
  unfold dollarF
  split
  · split
    · intro h; cases h
    · split
      · rename_i t _ _
        cases hb : bracesF P q ((s.drop 2).take (s.length - t.length - 3)) with
        | bad k =>
          intro h
          injection h with h
          exact bracesF_nz hP _ _ (hb.trans (by rw [h]))
        | ok x => intro h; cases h
      · split <;> (intro h; cases h)
  · split
    · intro h; cases h
    · split <;> (intro h; cases h)
theorem loopF_nz {one : Txt → Rs (List Pt × Nat)} (ht : Takes1 one) (ho : ∀ c r, one (c :: r) ≠ .bad 0) : ∀ (n : Nat) (acc : List Pt) (s : Txt), s.length < n → loopF one n acc s ≠ .bad 0
  | 0, _, _, h => by omega
  | n + 1, acc, [], _ => fun h => by cases h
  | n + 1, acc, c :: r, hn => by
    simp only [loopF]
    cases h1 : one (c :: r) with
    | bad k =>
      intro h
      injection h with h
      exact ho c r (h1.trans (by rw [h]))
    | ok x =>
      have h2 := ht _ _ h1
      simp only [List.length_cons] at hn h2
      exact loopF_nz ht ho n _ _ (by rw [List.length_drop, List.length_cons]; omega)
theorem dblOne_nz {P : Txt → Rs (List Pt)} (hP : ∀ s, P s ≠ .bad 0) (c : UInt8) (r : Txt) : dblOne P (c :: r) ≠ .bad 0 := by
  simp only [dblOne]
  split
  · cases hd : dollarF P true (c :: r) with
    | bad k =>
      intro h
      injection h with h
      exact dollarF_nz hP _ _ (hd.trans (by rw [h]))
    | ok x => intro h; cases h
  · split <;> (intro h; cases h)
theorem dblF_nz {P : Txt → Rs (List Pt)} (hP : ∀ s, P s ≠ .bad 0) (s : Txt) : dblF P s ≠ .bad 0 := by
  unfold dblF
  split
  · intro h; cases h
  · exact loopF_nz (dblOne_takes P) (dblOne_nz hP) _ _ _ (Nat.lt_succ_self _)
theorem outOne_nz {P : Txt → Rs (List Pt)} (hP : ∀ s, P s ≠ .bad 0) (c : UInt8) (r : Txt) : outOne P (c :: r) ≠ .bad 0 := by
  simp only [outOne]
  split
  · cases hd : dollarF P false (c :: r) with
    | bad k =>
      intro h
      injection h with h
      exact dollarF_nz hP _ _ (hd.trans (by rw [h]))
    | ok x => intro h; cases h
  · split
    · split
      · intro h; cases h
      · rename_i t _
        split
        · intro h; cases h
        · split
          · cases hd : dblF P (r.take (r.length - t.length - 1)) with
            | bad k =>
              intro h
              injection h with h
              exact dblF_nz hP _ (hd.trans (by rw [h]))
            | ok x => intro h; cases h
          · intro h; cases h
    · intro h; cases h
theorem wpL_nz : ∀ (L : Nat) (s : Txt), wpL L s ≠ .bad 0
  | 0, s => fun h => by cases h
  | L + 1, s => loopF_nz (outOne_takes _) (outOne_nz (wpL_nz L)) _ _ _ (Nat.lt_succ_self _)
theorem unit_bracket {c : UInt8} {r t : Txt} (hc : c = 40 ∨ c = 123) (h : unitD 30 (36 :: c :: r) = some t) : t.length + 3 ≤ (36 :: c :: r).length := by
  rcases hc with rfl | rfl
  · have h : untilD 29 41 r = some t := h
    have := untilD_takes _ _ _ _ h
    simp only [List.length_cons]; omega
  · have h : untilD 29 125 r = some t := h
    have := untilD_takes _ _ _ _ h
    simp only [List.length_cons]; omega
theorem dollarF_group {P : Txt → Rs (List Pt)} {q : Bool} {c : UInt8} {r : Txt} (hc : c = 40 ∨ c = 123) : dollarF P q (36 :: c :: r) = (match unitD 30 (36 :: c :: r) with
    | none => .bad 90
    | some _ => if c = 123 then (bracesF P q (r.take (unitN (36 :: c :: r) - 3))).and fun p => .ok (p, unitN (36 :: c :: r))
      else if 4 < unitN (36 :: c :: r) ∧ (36 :: c :: r)[2]? = some 40 ∧ (36 :: c :: r)[unitN (36 :: c :: r) - 2]? = some 41 then .ok (.mk 3 q (((36 :: c :: r).drop 3).take (unitN (36 :: c :: r) - 5)) [] [] [], unitN (36 :: c :: r))
      else .ok (.mk 2 q (r.take (unitN (36 :: c :: r) - 3)) [] [] [], unitN (36 :: c :: r))) := by
  unfold dollarF
  have hh : ((36 :: c :: r : Txt).drop 1).head? = some 40 ∨ ((36 :: c :: r : Txt).drop 1).head? = some 123 := by
    rcases hc with rfl | rfl
    · exact .inl rfl
    · exact .inr rfl
  rw [if_pos hh]
  cases hu : unitD 30 (36 :: c :: r) with
  | none => rfl
  | some t =>
    have := (unitN_pos hu).1
    rw [this]
    have e : (((36 :: c :: r : Txt).drop 1).head? = some 123) = (c = 123) := by
      show (some c = some 123) = _
      rw [Option.some.injEq]
    simp only [e]
    rfl
theorem byte_some {s : Txt} {i : Nat} {b c : UInt8} (h : s[i]? = some b) : (s[i]? = some c) ↔ ((b.toNat : Int) = (c.toNat : Int)) := by
  rw [h, Option.some.injEq]
  exact byte_eq.symm
theorem loop_step {one : Txt → Rs (List Pt × Nat)} (ht : Takes1 one) (l : List Pt) (c : UInt8) (r : Txt) : loopF one ((c :: r).length + 1) l (c :: r) = (one (c :: r)).and fun x => loopF one (((c :: r).drop x.2).length + 1) (x.1.foldl addP l) ((c :: r).drop x.2) := by
  show (one (c :: r)).and (fun x => loopF one (c :: r).length (x.1.foldl addP l) ((c :: r).drop x.2)) = _
  cases h : one (c :: r) with
  | bad k => rfl
  | ok x =>
    have h2 := ht _ _ h
    simp only [Rs.and]
    refine loopF_more ht _ _ _ _ ?_ (Nat.lt_succ_self _)
    rw [List.length_drop]
    omega
theorem fold_take {l' l : List Pt} {k : Nat} (h : k < l'.length) : (l'.take (k + 1)).foldl addP l = addP ((l'.take k).foldl addP l) l'[k] := by
  rw [take_one h, List.foldl_append]
  rfl
end Go.Proofs.YthommfjiaalecaaGreatDoor
namespace Go.Proofs.YthommfjiaalecaaGreatDoor
theorem toks_small : ∀ (n : Nat) (s : Txt), s.length ≤ n → ∀ l, toks s = some l → l.length ≤ s.length ∧ ∀ x ∈ l, x.2.length ≤ s.length ∧ x.2 ≠ [] ∧ x.1 < 3
  | _, [], _, l, h => by
    rw [toks_nil] at h
    obtain rfl := Option.some.inj h
    exact ⟨Nat.le_refl _, fun x hx => by cases hx⟩
  | 0, a :: r, hn, _, _ => by simp only [List.length_cons] at hn; omega
  | n + 1, a :: r, hn, l, h => by
    rw [toks_cons] at h
    cases h1 : tokOne a r with
    | none => rw [h1] at h; cases h
    | some y =>
      obtain ⟨l1, t⟩ := y
      rw [h1] at h
      simp only [Option.bind] at h
      cases h2 : toks t with
      | none => rw [h2] at h; cases h
      | some m =>
        rw [h2] at h
        obtain rfl := Option.some.inj h
        have hlen := tokOne_length h1
        simp only [List.length_cons] at hn ⊢
        obtain ⟨i1, i2⟩ := toks_small n t (by omega) m h2
        refine ⟨by rw [List.length_append]; omega, fun x hx => ?_⟩
        rcases List.mem_append.1 hx with hx | hx
        · rcases tokOne_view h1 with ⟨_, rfl, rfl⟩ | ⟨_, rfl, rfl⟩ | ⟨_, rfl, rfl⟩ | ⟨_, _, rfl, rfl⟩ | ⟨_, _, p, hp, hpt, _, rfl⟩
          · cases hx
          · cases hx
          · obtain rfl := List.mem_singleton.1 hx
            exact ⟨by simp, by simp, by show 2 < 3; decide⟩
          · obtain rfl := List.mem_singleton.1 hx
            have ho := opLen_le (a := a) (r := r)
            simp only [List.length_cons] at ho
            refine ⟨?_, fun e => ?_, by show 1 < 3; decide⟩
            · rw [List.length_take, List.length_cons]
              omega
            · have := congrArg List.length e
              rw [List.length_take, List.length_cons] at this
              simp only [List.length_nil] at this
              omega
          · obtain rfl := List.mem_singleton.1 hx
            refine ⟨?_, hp, by show 0 < 3; decide⟩
            have := congrArg List.length hpt
            simp only [List.length_cons, List.length_append] at this
            show p.length ≤ _
            omega
        · obtain ⟨j1, j2, j3⟩ := i2 x hx
          exact ⟨by omega, j2, j3⟩
theorem tokRes_tb (s : Txt) : TB (tokRes s).1 := by
  unfold tokRes
  split
  · exact ⟨by simp, fun x hx => by cases hx⟩
  · split
    · rename_i h20 _ l hl
      obtain ⟨h1, h2⟩ := toks_small _ s (Nat.le_refl _) l hl
      refine ⟨by show l.length ≤ _; omega, fun x hx => ?_⟩
      obtain ⟨j1, j2, j3⟩ := h2 x hx
      exact ⟨by omega, j2, by omega⟩
    · exact ⟨by simp, fun x hx => by cases hx⟩
def nd0 : Nd := .mk 0 false [] [] [] [] [] []
def parseR (s : Txt) : Nd × Int := if (tokRes s).2 = 0 then match scriptF (tokRes s).1 with
  | .ok x => (x, 0)
  | .bad k => (nd0, (k : Int))
  else (nd0, (tokRes s).2)
end Go.Proofs.YthommfjiaalecaaGreatDoor
namespace Go.Proofs.YthommfjiaalecaaGreatDoor
open Go.RowKit Vc
variable {w : World}
def RPost (w : World) (s : Txt) (L : Nat) (e : Ending) (w' : World) : Prop := (match wpL L s with
  | .ok l => ∃ v, e = .returned (.tuple #[v, .int .i64 0]) ∧ SlAt w' (fun k => w.heap.size ≤ k) l v
  | .bad k => e = .returned (.tuple #[.slice none 0 0, .int .i64 (k : Int)])) ∧ Still w w'
def RPartsS (L : Nat) : Prop := ∀ (w : World) (s : Txt), s.length < 1000000 → Calls Tryz.prog fn_ref08_parts #[.string (S s), .int .i64 (31 - (L : Int))] w (RPost w s L)
def BS (w : World) (gp : Nat) (p : Pt) (v : Value) (w' : World) : Prop := Row w' gp 63 ⟨pcell p v⟩ ∧ Row w' w.heap.size 63 ⟨pcell (.mk 0 false [] [] [] []) (.slice none 0 0)⟩ ∧ Still w w'
theorem BS.still {gp : Nat} {p : Pt} {v : Value} {w' w'' : World} (h : BS w gp p v w') (hs : Still w' w'') : BS w gp p v w'' := ⟨h.1.still hs, h.2.1.still hs, h.2.2.trans hs⟩
theorem BS.turn {gp : Nat} {p p' : Pt} {v v' : Value} {w' w'' : World} (h : BS w gp p v w') (hg : w.heap.size < gp) (hm : Mod (fun k => k = gp) w' w'') (hr : Row w'' gp 63 ⟨pcell p' v'⟩) : BS w gp p' v' w'' :=
  ⟨hr, h.2.1.mod hm (by intro e; omega), h.2.2.box (by omega) hm⟩
def RExit (gp gr : Nat) (ex : Int) (w10 : World) (R : Ending → World → Prop) : Prop :=
  ∃ vKind2 : Int, ∃ vQuoted2 : Bool, ∃ vText2 : List UInt8, ∃ vName2 : List UInt8, ∃ vOp2 : List UInt8, ∃ (vWord2 : Option Addr) (vWordL2 vWordC2 : Nat), w10.cell? (Addr.mk gp 0 none) = some (.int .i64 vKind2) ∧ w10.cell? (Addr.mk gp 1 none) = some (.bool vQuoted2) ∧ w10.cell? (Addr.mk gp 2 none) = some (.string (S vText2)) ∧ w10.cell? (Addr.mk gp 3 none) = some (.string (S vName2)) ∧ w10.cell? (Addr.mk gp 4 none) = some (.string (S vOp2)) ∧ w10.cell? (Addr.mk gp 5 none) = some (.slice vWord2 vWordL2 vWordC2) ∧ stCells (Addr.mk gr 0 none) (fun (w11 : World) => ∃ vKind3 : Int, ∃ vQuoted3 : Bool, ∃ vText3 : List UInt8, ∃ vName3 : List UInt8, ∃ vOp3 : List UInt8, ∃ (vWord3 : Option Addr) (vWordL3 vWordC3 : Nat), w11.cell? (Addr.mk gr 0 none) = some (.int .i64 vKind3) ∧ w11.cell? (Addr.mk gr 1 none) = some (.bool vQuoted3) ∧ w11.cell? (Addr.mk gr 2 none) = some (.string (S vText3)) ∧ w11.cell? (Addr.mk gr 3 none) = some (.string (S vName3)) ∧ w11.cell? (Addr.mk gr 4 none) = some (.string (S vOp3)) ∧ w11.cell? (Addr.mk gr 5 none) = some (.slice vWord3 vWordL3 vWordC3) ∧ R (.returned (.tuple #[(.agg #[(.int .i64 vKind3), (.bool vQuoted3), (.string (S vText3)), (.string (S vName3)), (.string (S vOp3)), (.slice vWord3 vWordL3 vWordC3)]), (.int .i64 ex)])) w11) 0 [(.int .i64 vKind2), (.bool vQuoted2), (.string (S vText2)), (.string (S vName2)), (.string (S vOp2)), (.slice vWord2 vWordL2 vWordC2)] w10
theorem rExit_spec {w10 : World} {gp : Nat} {ex : Int} {x : Pt} {wp : Option Addr} {wc : Nat} {R : Ending → World → Prop} (h : BS w gp x (.slice wp x.w.length wc) w10) (hR : ∀ w', Mod (fun k => k = w.heap.size) w10 w' → R (.returned (.tuple #[pagg x (.slice wp x.w.length wc), .int .i64 ex])) w') : RExit gp w.heap.size ex w10 R :=
  ⟨_, _, _, _, _, _, _, _, h.1.lget rfl, h.1.lget rfl, h.1.lget rfl, h.1.lget rfl, h.1.lget rfl, h.1.lget rfl, stK h.2.1 (by simp [pcell]) one6 fun w11 r11 m11 _ => ⟨_, _, _, _, _, _, _, _, r11.lget rfl, r11.lget rfl, r11.lget rfl, r11.lget rfl, r11.lget rfl, r11.lget rfl, hR w11 m11⟩⟩
def RBPost (w : World) (L : Nat) (q : Bool) (s : Txt) (e : Ending) (w' : World) : Prop := (∃ x vw, SlAt w' (fun k => w.heap.size ≤ k) x.w vw ∧ match bracesF (wpL L) q s with
  | .ok p => e = .returned (.tuple #[pagg x vw, .int .i64 0]) ∧ x = p
  | .bad k => e = .returned (.tuple #[pagg x vw, .int .i64 (k : Int)])) ∧ Still w w'
set_option maxHeartbeats 1000000 in
theorem ref_braces_of {L : Nat} (hL : L ≤ 30) (ih : RPartsS L) (s : Txt) (q : Bool) (hs : s.length < 1000000) : Calls Tryz.prog fn_ref08_braces #[.string (S s), .bool q, .int .i64 (30 - (L : Int))] w (RBPost w L q s) := by
  refine ref08_braces_calls _ _ _ _ _ ?_
  refine allocK fun w1 r1 s1 z1 => allocK fun w2 r2 s2 z2 => stK r2 (by simp) (by simp [Value.oneCell']) fun w3 r3 m3 z3 => ?_
  have hg : w.heap.size < w1.heap.size := by omega
  have b3 : BS w w1.heap.size (.mk 1 q [] [] [] []) (.slice none 0 0) w3 := ⟨r3, (r1.still s2).mod m3 (by intro e; omega), (s1.trans s2).box (by omega) m3⟩
  have hpl := paramN_le s
  -- an end
  have fin : ∀ (x : Pt) (wp : Option Addr) (wc : Nat) (ex : Nat) (w7 : World), BS w w1.heap.size x (.slice wp x.w.length wc) w7 → SlAt w7 (fun k => w.heap.size < k) x.w (.slice wp x.w.length wc) →
      (match bracesF (wpL L) q s with
        | .ok p => ex = 0 ∧ x = p
        | .bad k => ex = k) → RExit w1.heap.size w.heap.size (ex : Int) w7 (RBPost w L q s) := by
    intro x wp wc ex w7 b7 hsl hm
    refine rExit_spec b7 fun w8 m8 => ⟨⟨x, _, (hsl.mod m8 fun k hk e => by omega).mono fun k hk => by omega, ?_⟩, b7.2.2.box (Nat.le_refl _) m8⟩
    cases hb : bracesF (wpL L) q s with
    | ok p =>
      rw [hb] at hm
      obtain ⟨rfl, h⟩ := hm
      exact ⟨rfl, h⟩
    | bad k =>
      rw [hb] at hm
      have hm : ex = k := hm
      rw [hm]
  refine ⟨fun w9 => ¬ (1 < s.length ∧ s.head? = some 35 ∧ paramN (s.drop 1) = s.length - 1) ∧ BS w w1.heap.size (.mk 1 q [] [] [] []) (.slice none 0 0) w9, ⟨fun b w5 => (b = true ↔ (1 < s.length ∧ s.head? = some 35 ∧ paramN (s.drop 1) = s.length - 1)) ∧ BS w w1.heap.size (.mk 1 q [] [] [] []) (.slice none 0 0) w5, bsel_of (fun h => ?_) (fun h => ⟨⟨fun e => (by cases e), fun e => absurd e.1 (by have := of_decide_eq_false h; omega)⟩, b3⟩), ?_⟩, ?_⟩
  · have h : 1 < s.length := by have := of_decide_eq_true h; omega
    obtain ⟨c, r, hcr⟩ : ∃ c r, s = c :: r := by
      cases s with
      | nil => simp at h
      | cons c r => exact ⟨c, r, rfl⟩
    have hhd : s.head? = some c := by rw [hcr]; rfl
    refine ⟨by decide, c, by rw [hcr]; rfl, bsel_of (fun h1 => ?_) (fun h1 => ?_)⟩
    · have h1 : c = 35 := byte_eq.1 (of_decide_eq_true h1)
      refine ⟨by decide, by omega, (ref_param_spec (s.drop 1) (by rw [List.length_drop]; omega)).mono ?_⟩
      rintro _ w4 ⟨rfl, rfl⟩
      refine .inl ⟨_, rfl, ?_, b3⟩
      have hp1 := paramN_le (s.drop 1)
      rw [List.length_drop] at hp1
      rw [decide_eq_true_eq, wrap_i64 (by omega) (by omega)]
      exact ⟨fun e => ⟨h, by rw [hhd, h1], by omega⟩, fun e => by have := e.2.2; omega⟩
    · have h1 : ¬ c = 35 := fun e => of_decide_eq_false h1 (byte_eq.2 e)
      refine ⟨⟨fun e => (by cases e), fun e => ?_⟩, b3⟩
      rw [hhd] at e
      exact absurd (Option.some.inj e.2.1) h1
  · rintro b _ w5 ⟨hb, b5⟩
    refine bsel_of (fun h => ?_) (fun h => ⟨fun hc => (by rw [hb.2 hc] at h; cases h), b5⟩)
    have hc := hb.1 h
    refine ⟨by decide, by omega, stK b5.1 (by simp [pcell]) (by simp [Value.oneCell']) fun w6 r6 m6 z6 => stK r6 (by simp [ovw, pcell]) (by simp [Value.oneCell']) fun w7 r7 m7 z7 => ?_⟩
    have b6 : BS w w1.heap.size (.mk 1 q [] (s.drop 1) [] []) (.slice none 0 0) w6 := b5.turn hg m6 r6
    have b7 : BS w w1.heap.size (.mk 1 q [] (s.drop 1) lenO []) (.slice none 0 0) w7 := b6.turn hg m7 r7
    exact fin _ _ _ 0 w7 b7 (SlAt.nil _ _ _ _) (by
      have : bracesF (wpL L) q s = .ok (.mk 1 q [] (s.drop 1) lenO []) := by unfold bracesF; rw [if_pos hc]
      rw [this]
      exact ⟨rfl, rfl⟩)
  rintro _ w9 ⟨hno, b9⟩
  refine (ref_param_spec s hs).mono ?_
  rintro _ w10 ⟨rfl, rfl⟩
  refine .inl ⟨_, rfl, bsel_of (fun h => ?_) (fun h => ?_)⟩
  · have h : paramN s = 0 := by have := of_decide_eq_true h; omega
    refine fin _ _ _ 90 _ b9 (SlAt.nil _ _ _ _) ?_
    have : bracesF (wpL L) q s = .bad 90 := by unfold bracesF; rw [if_neg hno, if_pos h]
    rw [this]
  have h : ¬ paramN s = 0 := by have := of_decide_eq_false h; omega
  rw [Int.toNat_natCast]
  refine ⟨by omega, by omega, stK b9.1 (by simp [pcell]) (by simp [Value.oneCell']) fun w12 r12 m12 z12 => ?_⟩
  have b12 : BS w w1.heap.size (.mk 1 q [] (s.take (paramN s)) [] []) (.slice none 0 0) w12 := b9.turn hg m12 r12
  refine ⟨by omega, by omega, bsel_of (fun h2 => ?_) (fun h2 => ?_)⟩
  · have h2 : s.drop (paramN s) = [] := of_decide_eq_true h2
    refine fin _ _ _ 0 _ b12 (SlAt.nil _ _ _ _) ?_
    have : bracesF (wpL L) q s = .ok (.mk 1 q [] (s.take (paramN s)) [] []) := by unfold bracesF; rw [if_neg hno, if_neg h, if_pos h2]
    rw [this]
    exact ⟨rfl, rfl⟩
  have h2 : ¬ s.drop (paramN s) = [] := of_decide_eq_false h2
  have z12' : w.heap.size < w12.heap.size := b12.2.1.lt
  have g12 : w1.heap.size < w12.heap.size := b12.1.lt
  refine allocK fun w14 r14 s14 z14 => ?_
  have r14 : Row w14 w12.heap.size 9 ⟨strs opsL⟩ := r14
  have hop := opOf_len (s.drop (paramN s))
  have hopl : (s.drop (paramN s)).length = s.length - paramN s := List.length_drop
  refine ⟨fun i w15 => ∃ (k : Nat) (o : Txt), i = (k : Int) ∧ k ≤ 12 ∧ BS w w1.heap.size (.mk 1 q [] (s.take (paramN s)) o []) (.slice none 0 0) w15 ∧ Row w15 w12.heap.size 9 ⟨strs opsL⟩ ∧ (o = [] ∧ (opsL.drop k).find? (fun o => pf o (s.drop (paramN s))) = opsL.find? (fun o => pf o (s.drop (paramN s))) ∨ o ≠ [] ∧ o = opOf (s.drop (paramN s))), fun i _ => 12 - i.toNat, ⟨0, [], rfl, by omega, b12.still s14, r14, .inl ⟨rfl, rfl⟩⟩, ?_⟩
  rintro _ _ w15 ⟨k, o, rfl, hk, b15, r15, ho⟩
  refine ⟨fun w31 => w31 = w15 ∧ k < 12 ∧ o = [], ⟨fun b w16 => w16 = w15 ∧ (b = true ↔ k < 12 ∧ o = []), bsel_of (fun h3 => ⟨o, b15.1.lget rfl, rfl, ?_⟩) (fun h3 => ⟨rfl, fun e => (by cases e), fun e => absurd e.1 (by have := of_decide_eq_false h3; omega)⟩), ?_⟩, ?_⟩
  · rw [decide_eq_true_eq]
    exact ⟨fun e => ⟨by have := of_decide_eq_true h3; omega, e⟩, fun e => e.2⟩
  rotate_left
  · -- one operator more
    rintro _ w31 ⟨rfl, hk, rfl⟩
    have hf := (ho.resolve_right fun e => e.1 rfl).2
    have hk' : k < opsL.length := hk
    obtain ⟨a, ha, hc⟩ := (StrsAt.row r15).get hk'
    obtain rfl := Option.some.inj ha
    rw [find_step hk'] at hf
    have hlo : opsL[k].length ≤ 2 := by
      have : ∀ o ∈ opsL, o.length ≤ 2 := by decide
      exact this _ (List.getElem_mem hk')
    have hne : opsL[k] ≠ [] := by
      have : ∀ o ∈ opsL, o ≠ [] := by decide
      exact this _ (List.getElem_mem hk')
    have e1 : IntKind.i64.wrap ((k : Int) + 1) = ((k + 1 : Nat) : Int) := by rw [wrap_i64 (by omega) (by omega)]; omega
    have hc' : w31.cell? ((Addr.mk w12.heap.size 0 none).add (Int.toNat (k : Int) * 1)) = some (.string (S opsL[k])) := by rw [Int.toNat_natCast, Nat.mul_one]; exact hc
    rw [e1]
    refine ⟨by omega, by omega, _, hc', (ref_begins_spec _ _ (by omega) (by omega)).mono ?_⟩
    rintro _ w32 ⟨rfl, rfl⟩
    refine .inl ⟨_, rfl, bsel_of (fun h4 => ⟨by omega, by omega, _, hc', ?_⟩) (fun h4 => ?_)⟩
    · refine stK b15.1 (by simp [pcell]) (by simp [Value.oneCell']) fun w33 r33 m33 z33 => ⟨⟨k + 1, opsL[k], rfl, by omega, b15.turn hg m33 r33, r15.mod m33 (by intro e; omega), .inr ⟨hne, ?_⟩⟩, by dsimp only; omega⟩
      rw [if_pos h4] at hf
      unfold opOf
      rw [← hf]
      rfl
    · rw [if_neg (by rw [h4]; decide)] at hf
      exact ⟨⟨k + 1, [], rfl, by omega, b15, r15, .inl ⟨rfl, hf⟩⟩, by dsimp only; omega⟩
  rintro b _ w16 ⟨rfl, hb⟩
  refine bsel_of (fun h3 => ⟨rfl, hb.1 h3⟩) (fun h3 => ?_)
  have hoe : o = opOf (s.drop (paramN s)) := by
    rcases ho with ⟨rfl, hf⟩ | ho
    · have hk2 : k = 12 := by
        rcases Nat.lt_or_ge k 12 with e | e
        · rw [hb.2 ⟨e, rfl⟩] at h3; cases h3
        · omega
      subst hk2
      unfold opOf
      rw [← hf]
      rfl
    · exact ho.2
  subst hoe
  clear ho hb h3
  refine ⟨fun w21 => w21 = w16 ∧ ¬ (opOf (s.drop (paramN s)) = [] ∨ ((opOf (s.drop (paramN s)) = [61] ∨ opOf (s.drop (paramN s)) = [58, 61]) ∧ nameN (s.take (paramN s)) = 0)), ⟨fun b w19 => w19 = w16 ∧ (b = true ↔ (opOf (s.drop (paramN s)) = [] ∨ ((opOf (s.drop (paramN s)) = [61] ∨ opOf (s.drop (paramN s)) = [58, 61]) ∧ nameN (s.take (paramN s)) = 0))), ⟨_, b15.1.lget rfl, bsel_of (fun h3 => ⟨rfl, fun _ => .inl (of_decide_eq_true h3), fun _ => rfl⟩) (fun h3 => ⟨_, b15.1.lget rfl, bsel_of (fun h4 => ⟨_, b15.1.lget rfl, ?_⟩) (fun h4 => ⟨_, b15.1.lget rfl, bsel_of (fun h5 => ⟨_, b15.1.lget rfl, ?_⟩) (fun h5 => ⟨rfl, fun e => (by cases e), fun e => ?_⟩)⟩)⟩)⟩, ?_⟩, ?_⟩
  · have h3 := of_decide_eq_false h3
    have h4 := of_decide_eq_true h4
    refine (ref_Name_spec (s.take (paramN s)) (by rw [List.length_take]; omega)).mono ?_
    rintro _ w17 ⟨rfl, rfl⟩
    refine .inl ⟨_, rfl, rfl, ?_⟩
    rw [decide_eq_true_eq]
    exact ⟨fun e => .inr ⟨.inl h4, by omega⟩, fun e => by have := (e.resolve_left h3).2; omega⟩
  · have h3 := of_decide_eq_false h3
    have h5 := of_decide_eq_true h5
    refine (ref_Name_spec (s.take (paramN s)) (by rw [List.length_take]; omega)).mono ?_
    rintro _ w17 ⟨rfl, rfl⟩
    refine .inl ⟨_, rfl, rfl, ?_⟩
    rw [decide_eq_true_eq]
    exact ⟨fun e => .inr ⟨.inr h5, by omega⟩, fun e => by have := (e.resolve_left h3).2; omega⟩
  · have h3 := of_decide_eq_false h3
    have h4 := of_decide_eq_false h4
    have h5 := of_decide_eq_false h5
    rcases (e.resolve_left h3).1 with e | e
    · exact absurd e h4
    · exact absurd e h5
  · rintro b _ w19 ⟨rfl, hb⟩
    refine bsel_of (fun h6 => ?_) (fun h6 => ⟨rfl, fun hc => (by rw [hb.2 hc] at h6; cases h6)⟩)
    refine fin _ _ _ 90 _ b15 (SlAt.nil _ _ _ _) ?_
    have : bracesF (wpL L) q s = .bad 90 := by unfold bracesF; rw [if_neg hno, if_neg h, if_neg h2, if_pos (hb.1 h6)]
    rw [this]
  rintro _ w21 ⟨rfl, h3⟩
  have hbr : bracesF (wpL L) q s = (wpL L ((s.drop (paramN s)).drop (opOf (s.drop (paramN s))).length)).and fun w => if hasL w = true then .bad 90 else .ok (.mk 1 q [] (s.take (paramN s)) (opOf (s.drop (paramN s))) (if q = true then qdL [] w else w)) := by
    unfold bracesF
    rw [if_neg hno, if_neg h, if_neg h2, if_neg h3]
  refine ⟨opOf (s.drop (paramN s)), b15.1.lget rfl, by omega, by omega, ?_⟩
  rw [Int.toNat_natCast, show IntKind.i64.wrap (30 - (L : Int) + 1) = 31 - (L : Int) by rw [wrap_i64 (by omega) (by omega)]; omega]
  have z15 : w.heap.size < w21.heap.size := b15.2.1.lt
  have g15 : w1.heap.size < w21.heap.size := b15.1.lt
  have hinl : ((s.drop (paramN s)).drop (opOf (s.drop (paramN s))).length).length ≤ s.length - (paramN s + (opOf (s.drop (paramN s))).length) := by rw [List.length_drop, List.length_drop]; omega
  refine (ih w21 _ (by omega)).mono ?_
  rintro e22 w22 ⟨hp, s22⟩
  have b22 := b15.still s22
  have z22 := s22.size
  cases hw : wpL L ((s.drop (paramN s)).drop (opOf (s.drop (paramN s))).length) with
  | bad k =>
    rw [hw] at hp
    have hk : k ≠ 0 := fun e => wpL_nz L _ (by rw [hw, e])
    refine .inl ⟨none, 0, 0, (k : Int), hp, bsel_of (fun _ => ?_) (fun hh => absurd (nf hh) (by omega))⟩
    refine fin _ _ _ k _ b22 (SlAt.nil _ _ _ _) ?_
    rw [hbr, hw]
    rfl
  | ok l =>
    rw [hw] at hp
    obtain ⟨v, rfl, hsl⟩ := hp
    obtain ⟨wp, wc, rfl⟩ := hsl.form
    have hwl := wpL_wt L _ _ hw
    refine .inl ⟨wp, l.length, wc, 0, rfl, bsel_of (fun hh => absurd rfl (nt hh)) (fun _ => (commands_spec hsl (by omega)).mono ?_)⟩
    rintro _ w24 ⟨rfl, s24⟩
    have b24 := b22.still s24
    have z24 := s24.size
    refine .inl ⟨_, rfl, bsel_of (fun h7 => ?_) (fun h7 => stK b24.1 (by simp [pcell]) (by simp [Value.oneCell']) fun w26 r26 m26 z26 => ?_)⟩
    · refine fin _ _ _ 90 _ b24 (SlAt.nil _ _ _ _) ?_
      rw [hbr, hw]
      simp only [Rs.and]
      rw [if_pos h7]
    have b26 : BS w w1.heap.size (.mk 1 q [] (s.take (paramN s)) (opOf (s.drop (paramN s))) l) (.slice wp l.length wc) w26 := b24.turn hg m26 r26
    have hsl26 := (hsl.still s24).mod m26 fun k hk e => by omega
    refine ⟨fun w29 => RExit w1.heap.size w.heap.size 0 w29 (RBPost w L q s), bsel_of (fun hq => (quotes_spec hsl26 (by omega)).mono ?_) (fun hq => ?_), fun _ w29 h => h⟩
    · rintro _ w27 ⟨v27, rfl, hsl27, s27⟩
      obtain ⟨qp, qc, rfl⟩ := hsl27.form
      have b27 := b26.still s27
      refine .inl ⟨_, _, _, rfl, stK b27.1 (by simp [pcell]) (by simp [Value.oneCell']) fun w28 r28 m28 z28 => ?_⟩
      have b28 : BS w w1.heap.size (.mk 1 q [] (s.take (paramN s)) (opOf (s.drop (paramN s))) (qdL [] l)) (.slice qp (qdL [] l).length qc) w28 := b27.turn hg m28 r28
      refine fin _ _ _ 0 w28 b28 ((hsl27.mod m28 fun k hk e => by omega).mono fun k hk => by omega) ?_
      rw [hbr, hw]
      simp only [Rs.and]
      rw [if_neg (by rw [h7]; decide), if_pos hq]
      exact ⟨trivial, rfl⟩
    · refine fin _ _ _ 0 w26 b26 (hsl26.mono fun k hk => by omega) ?_
      rw [hbr, hw]
      simp only [Rs.and]
      rw [if_neg (by rw [h7]; decide), if_neg (by rw [hq]; decide)]
      exact ⟨trivial, rfl⟩
theorem pf_dollar (x : UInt8) (r : Txt) : pf [36, x] (36 :: r) = decide (r.head? = some x) := by
  rw [pf_isPrefixOf]
  cases r with
  | nil => rfl
  | cons c r =>
    rw [Bool.eq_iff_iff]
    simp [List.isPrefixOf]
    exact eq_comm
def RDPost (w : World) (L : Nat) (q : Bool) (s : Txt) (e : Ending) (w' : World) : Prop := (∃ (x : Pt) (vw : Value) (n : Nat), SlAt w' (fun k => w.heap.size ≤ k) x.w vw ∧ match dollarF (wpL L) q s with
  | .ok p => e = .returned (.tuple #[pagg x vw, .int .i64 (n : Int), .int .i64 0]) ∧ p = (x, n)
  | .bad k => e = .returned (.tuple #[pagg x vw, .int .i64 (n : Int), .int .i64 (k : Int)])) ∧ Still w w'
set_option maxHeartbeats 1000000 in
theorem ref_dollar_of {L : Nat} (hL : L ≤ 30) (ih : RPartsS L) (r : Txt) (q : Bool) (hl : (36 :: r).length < 1000000) : Calls Tryz.prog fn_ref08_dollar #[.string (S (36 :: r)), .bool q, .int .i64 (30 - (L : Int))] w (RDPost w L q (36 :: r)) := by
  refine ref08_dollar_calls _ _ _ _ _ ?_
  refine allocK fun w1 r1 s1 z1 => ?_
  have hl' : r.length < 999999 := by simp only [List.length_cons] at hl; omega
  -- an end
  have fin : ∀ (x : Pt) (n : Nat) (w5 : World), Row w5 w.heap.size 63 ⟨pcell (.mk 0 false [] [] [] []) (.slice none 0 0)⟩ → Still w w5 → x.w = [] → dollarF (wpL L) q (36 :: r) = .ok (x, n) →
      stCells (Addr.mk w.heap.size 0 none) (fun (w6 : World) => ∃ vKind : Int, ∃ vQuoted : Bool, ∃ vText : List UInt8, ∃ vName : List UInt8, ∃ vOp : List UInt8, ∃ (vWord : Option Addr) (vWordL vWordC : Nat), w6.cell? (Addr.mk w.heap.size 0 none) = some (.int .i64 vKind) ∧ w6.cell? (Addr.mk w.heap.size 1 none) = some (.bool vQuoted) ∧ w6.cell? (Addr.mk w.heap.size 2 none) = some (.string (S vText)) ∧ w6.cell? (Addr.mk w.heap.size 3 none) = some (.string (S vName)) ∧ w6.cell? (Addr.mk w.heap.size 4 none) = some (.string (S vOp)) ∧ w6.cell? (Addr.mk w.heap.size 5 none) = some (.slice vWord vWordL vWordC) ∧ RDPost w L q (36 :: r) (.returned (.tuple #[(.agg #[(.int .i64 vKind), (.bool vQuoted), (.string (S vText)), (.string (S vName)), (.string (S vOp)), (.slice vWord vWordL vWordC)]), (.int .i64 (n : Int)), (.int .i64 (0 : Int))])) w6) 0 [.int .i64 x.k, .bool x.q, .string (S x.t), .string (S x.n), .string (S x.o), .slice none 0 0] w5 := by
    intro x n w5 r5 s5 hx hd
    refine stK r5 (by simp [pcell]) (by simp [Value.oneCell']) fun w6 r6 m6 z6 => ⟨x.k, x.q, x.t, x.n, x.o, none, 0, 0, r6.lget rfl, r6.lget rfl, r6.lget rfl, r6.lget rfl, r6.lget rfl, r6.lget rfl, ⟨x, .slice none 0 0, n, by rw [hx]; exact SlAt.nil _ _ _ _, ?_⟩, s5.box (Nat.le_refl _) m6⟩
    rw [hd]
    exact ⟨rfl, rfl⟩
  refine ⟨fun w15 => w15 = w1 ∧ ¬ (r.head? = some 40 ∨ r.head? = some 123), ⟨fun b w4 => w4 = w1 ∧ (b = true ↔ r.head? = some 40 ∨ r.head? = some 123), (ref_begins_spec (36 :: r) [36, 40] hl (by decide)).mono ?_, ?_⟩, ?_⟩
  · rintro _ w2 ⟨rfl, rfl⟩
    rw [pf_dollar]
    refine .inl ⟨_, rfl, bsel_of (fun h => ⟨rfl, fun _ => .inl (of_decide_eq_true h), fun _ => rfl⟩) (fun h => (ref_begins_spec (36 :: r) [36, 123] hl (by decide)).mono ?_)⟩
    rintro _ w3 ⟨rfl, rfl⟩
    rw [pf_dollar]
    refine .inl ⟨_, rfl, rfl, ?_⟩
    rw [decide_eq_true_eq]
    exact ⟨.inr, fun e => e.resolve_left (of_decide_eq_false h)⟩
  · rintro b _ w4 ⟨rfl, hb⟩
    refine bsel_of (fun h => ?_) (fun h => ⟨rfl, fun e => (by rw [hb.2 e] at h; cases h)⟩)
    have hh := hb.1 h
    obtain ⟨c, y, rfl⟩ : ∃ c y, r = c :: y := by
      cases r with
      | nil => rcases hh with e | e <;> cases e
      | cons c y => exact ⟨c, y, rfl⟩
    have hc : c = 40 ∨ c = 123 := by simpa using hh
    refine (ref_skip_spec (36 :: c :: y) 0 (by simp) hl).mono ?_
    rintro _ w5 ⟨rfl, rfl⟩
    have hd := dollarF_group (P := wpL L) (q := q) (r := y) hc
    rw [List.drop_zero]
    refine .inl ⟨_, rfl, ?_⟩
    cases hu : unitD 30 (36 :: c :: y) with
    | none =>
      rw [hu] at hd
      refine bsel_of (fun _ => ?_) (fun h => absurd (show (-1 : Int) < 0 by decide) (of_decide_eq_false h))
      refine stK r1 (by simp) (by simp [Value.oneCell']) fun w6 r6 m6 z6 => ⟨0, false, [], [], [], none, 0, 0, r6.lget rfl, r6.lget rfl, r6.lget rfl, r6.lget rfl, r6.lget rfl, r6.lget rfl, ⟨.mk 0 false [] [] [] [], .slice none 0 0, 0, SlAt.nil _ _ _ _, ?_⟩, s1.box (Nat.le_refl _) m6⟩
      rw [hd]
      rfl
    | some t =>
      obtain ⟨h1, h2, h3⟩ := unitN_pos hu
      have h4 := unit_bracket hc hu
      have hix : ix (36 :: c :: y) (some t) = (unitN (36 :: c :: y) : Int) := by rw [h1]; rfl
      rw [hu] at hd
      dsimp only at hd
      rw [hix]
      generalize unitN (36 :: c :: y) = n at h1 h2 h3 hd hix
      have h5 : 3 ≤ n := by omega
      have e1 : IntKind.i64.wrap ((n : Int) - 1) = ((n - 1 : Nat) : Int) := by rw [wrap_i64 (by omega) (by omega)]; omega
      have e2 : IntKind.i64.wrap ((n : Int) - 2) = ((n - 2 : Nat) : Int) := by rw [wrap_i64 (by omega) (by omega)]; omega
      rw [e1, e2]
      refine bsel_of (fun h => absurd (of_decide_eq_true h) (by omega)) (fun _ => ⟨by decide, c, rfl, bsel_of (fun h7 => ?_) (fun h7 => ?_)⟩)
      · have hc3 : c = 123 := byte_eq.1 (of_decide_eq_true h7)
        subst hc3
        rw [if_pos rfl] at hd
        have hin : ((36 :: 123 :: y : Txt).drop (Int.toNat 2)).take (Int.toNat ((n - 1 : Nat) : Int) - Int.toNat 2) = y.take (n - 3) := by
          rw [Int.toNat_natCast]
          show y.take (n - 1 - 2) = _
          rw [show n - 1 - 2 = n - 3 by omega]
        have hil : (y.take (n - 3)).length ≤ y.length := by rw [List.length_take]; omega
        simp only [List.length_cons] at hl'
        refine ⟨by decide, by omega, by omega, ?_⟩
        rw [hin]
        refine (ref_braces_of hL ih (y.take (n - 3)) q (by omega)).mono ?_
        rintro e7 w7 ⟨⟨x, vw, hsl, hm⟩, s7⟩
        obtain ⟨wp, wc, rfl⟩ := hsl.form
        have z7 := s7.size
        -- the part is told, whatever the number
        have key : ∃ k : Nat, e7 = .returned (.tuple #[pagg x (.slice wp x.w.length wc), .int .i64 (k : Int)]) ∧ (match bracesF (wpL L) q (y.take (n - 3)) with
            | .ok p => k = 0 ∧ x = p
            | .bad j => k = j) := by
          cases hb : bracesF (wpL L) q (y.take (n - 3)) with
          | ok p =>
            rw [hb] at hm
            exact ⟨0, hm.1, rfl, hm.2⟩
          | bad j =>
            rw [hb] at hm
            exact ⟨j, hm, rfl⟩
        obtain ⟨k, he, hk⟩ := key
        refine .inl ⟨x.k, x.q, x.t, x.n, x.o, wp, x.w.length, wc, (k : Int), he, boxK rfl one6 fun w9 r9 s9 z9 => ⟨x.k, x.q, x.t, x.n, x.o, wp, x.w.length, wc, r9.lget rfl, r9.lget rfl, r9.lget rfl, r9.lget rfl, r9.lget rfl, r9.lget rfl, ?_⟩⟩
        have s79 := s7.trans s9
        refine stK (r1.still s79) (by simp) one6 fun w10 r10 m10 z10 => ⟨x.k, x.q, x.t, x.n, x.o, wp, x.w.length, wc, r10.lget rfl, r10.lget rfl, r10.lget rfl, r10.lget rfl, r10.lget rfl, r10.lget rfl, ⟨x, .slice wp x.w.length wc, n, ((hsl.still s9).mod m10 fun j hj e => by omega).mono fun j hj => by omega, ?_⟩, (s1.trans s79).box (Nat.le_refl _) m10⟩
        rw [hd]
        cases hb : bracesF (wpL L) q (y.take (n - 3)) with
        | ok p =>
          rw [hb] at hk
          obtain ⟨rfl, rfl⟩ := hk
          exact ⟨rfl, rfl⟩
        | bad j =>
          rw [hb] at hk
          have hk : k = j := hk
          subst hk
          rfl
      · have hc3 : ¬ c = 123 := fun e => of_decide_eq_false h7 (byte_eq.2 e)
        rw [if_neg hc3] at hd
        refine ⟨fun w13 => w13 = w5 ∧ ¬ (4 < n ∧ (36 :: c :: y)[2]? = some 40 ∧ (36 :: c :: y)[n - 2]? = some 41), ⟨fun b w11 => w11 = w5 ∧ (b = true ↔ (4 < n ∧ (36 :: c :: y)[2]? = some 40 ∧ (36 :: c :: y)[n - 2]? = some 41)), bsel_of (fun h6 => ?_) (fun h6 => ⟨rfl, fun e => (by cases e), fun e => ?_⟩), ?_⟩, ?_⟩
        · have h6 : 4 < n := by have := of_decide_eq_true h6; omega
          obtain ⟨b1, hb1⟩ : ∃ b1, (36 :: c :: y)[2]? = some b1 := ⟨_, List.getElem?_eq_getElem (by omega)⟩
          obtain ⟨b2, hb2⟩ : ∃ b2, (36 :: c :: y)[n - 2]? = some b2 := ⟨_, List.getElem?_eq_getElem (by omega)⟩
          refine ⟨by decide, b1, hb1, bsel_of (fun h8 => ⟨by omega, b2, by rw [Int.toNat_natCast]; exact hb2, rfl, ?_⟩) (fun h8 => ⟨rfl, fun e => (by cases e), fun e => ?_⟩)⟩
          · rw [decide_eq_true_eq, byte_some hb1, byte_some hb2]
            exact ⟨fun e => ⟨h6, of_decide_eq_true h8, e⟩, fun e => e.2.2⟩
          · rw [byte_some hb1] at e
            exact absurd e.2.1 (of_decide_eq_false h8)
        · have := of_decide_eq_false h6
          omega
        · rintro b _ w11 ⟨rfl, hb⟩
          refine bsel_of (fun h8 => ?_) (fun h8 => ⟨rfl, fun e => (by rw [hb.2 e] at h8; cases h8)⟩)
          rw [if_pos (hb.1 h8)] at hd
          have h9 := (hb.1 h8).1
          have ht : ((36 :: c :: y : Txt).drop (Int.toNat 3)).take (Int.toNat ((n - 2 : Nat) : Int) - Int.toNat 3) = ((36 :: c :: y).drop 3).take (n - 5) := by
            rw [Int.toNat_natCast]
            show ((36 :: c :: y : Txt).drop 3).take (n - 2 - 3) = _
            rw [show n - 2 - 3 = n - 5 by omega]
          rw [ht]
          exact ⟨by decide, by omega, by omega, fin (.mk 3 q (((36 :: c :: y).drop 3).take (n - 5)) [] [] []) n _ r1 s1 rfl hd⟩
        · rintro _ w13 ⟨rfl, hno⟩
          rw [if_neg hno] at hd
          have ht : ((36 :: c :: y : Txt).drop (Int.toNat 2)).take (Int.toNat ((n - 1 : Nat) : Int) - Int.toNat 2) = y.take (n - 3) := by
            rw [Int.toNat_natCast]
            show y.take (n - 1 - 2) = _
            rw [show n - 1 - 2 = n - 3 by omega]
          rw [ht]
          exact ⟨by decide, by omega, by omega, fin (.mk 2 q (y.take (n - 3)) [] [] []) n _ r1 s1 rfl hd⟩
  rintro _ w15 ⟨rfl, hno⟩
  have hd0 : dollarF (wpL L) q (36 :: r) = if 0 < nameN r then .ok (.mk 1 q [] (r.take (nameN r)) [] [], nameN r + 1) else if 0 < specN r then .ok (.mk 1 q [] (r.take 1) [] [], 2) else .ok (.mk 0 q [36] [] [] [], 1) := by
    unfold dollarF
    simp only [List.drop_succ_cons, List.drop_zero]
    rw [if_neg hno]
  have hnl := nameN_le r
  have hsp1 := specN_one r
  have hspl := specN_le r
  have e1 : (36 :: r : Txt).drop (Int.toNat 1) = r := rfl
  refine ⟨by decide, by simp only [List.length_cons]; omega, ?_⟩
  rw [e1]
  refine (ref_Name_spec r (by omega)).mono ?_
  rintro _ w16 ⟨rfl, rfl⟩
  refine .inl ⟨_, rfl, fun n w19 => w19 = w16 ∧ n = ((if 0 < nameN r then nameN r else specN r : Nat) : Int), ⟨fun b w18 => w18 = w16 ∧ (b = true ↔ nameN r = 0 ∧ 0 < specN r), bsel_of (fun h => bsel_of (fun h2 => ?_) (fun h2 => ?_)) (fun h => ?_), ?_⟩, ?_⟩
  · have h : nameN r = 0 := by have := of_decide_eq_true h; omega
    have h2 : 1 < (36 :: r).length := by have := of_decide_eq_true h2; omega
    obtain ⟨c, y, rfl⟩ : ∃ c y, r = c :: y := by
      cases r with
      | nil => simp at h2
      | cons c y => exact ⟨c, y, rfl⟩
    refine ⟨by decide, c, rfl, (ref_special_spec c).mono ?_⟩
    rintro _ w17 ⟨rfl, rfl⟩
    refine .inl ⟨_, rfl, rfl, ?_⟩
    simp only [specN]
    refine ⟨fun e => ⟨h, by rw [if_pos e]; decide⟩, fun e => ?_⟩
    have := e.2
    split at this
    · assumption
    · omega
  · have h2 : ¬ 1 < (36 :: r).length := by have := of_decide_eq_false h2; omega
    have : r = [] := by
      cases r with
      | nil => rfl
      | cons c y => simp at h2
    subst this
    exact ⟨rfl, fun e => (by cases e), fun e => absurd e.2 (by decide)⟩
  · have h : ¬ nameN r = 0 := by have := of_decide_eq_false h; omega
    exact ⟨rfl, fun e => (by cases e), fun e => absurd e.1 h⟩
  · rintro b _ w18 ⟨rfl, hb⟩
    refine bsel_of (fun h => ⟨rfl, ?_⟩) (fun h => ⟨rfl, ?_⟩)
    · have hh := hb.1 h
      rw [if_neg (by omega), show specN r = 1 by omega]
      rfl
    · by_cases h0 : 0 < nameN r
      · rw [if_pos h0]
      · have : ¬ 0 < specN r := fun e => by rw [hb.2 ⟨by omega, e⟩] at h; cases h
        rw [if_neg h0]
        omega
  rintro _ _ w19 ⟨rfl, rfl⟩
  have hm1 : (if 0 < nameN r then nameN r else specN r) ≤ r.length := by split <;> omega
  have hd1 : dollarF (wpL L) q (36 :: r) = if (if 0 < nameN r then nameN r else specN r) = 0 then .ok (.mk 0 q [36] [] [] [], 1) else .ok (.mk 1 q [] (r.take (if 0 < nameN r then nameN r else specN r)) [] [], (if 0 < nameN r then nameN r else specN r) + 1) := by
    rw [hd0]
    by_cases h0 : 0 < nameN r
    · simp only [if_pos h0]
      rw [if_neg (by omega)]
    · simp only [if_neg h0]
      by_cases h6 : 0 < specN r
      · rw [if_pos h6, if_neg (by omega), show specN r = 1 by omega]
      · rw [if_neg h6, if_pos (by omega)]
  generalize (if 0 < nameN r then nameN r else specN r) = m at hm1 hd1
  refine bsel_of (fun h5 => ?_) (fun h5 => ?_)
  · have h5 : m = 0 := by have := of_decide_eq_true h5; omega
    rw [if_pos h5] at hd1
    exact fin (.mk 0 q [36] [] [] []) 1 _ r1 s1 rfl hd1
  · have h5 : ¬ m = 0 := by have := of_decide_eq_false h5; omega
    rw [if_neg h5] at hd1
    have e2 : IntKind.i64.wrap ((m : Int) + 1) = ((m + 1 : Nat) : Int) := by rw [wrap_i64 (by omega) (by omega)]; omega
    rw [e2]
    have ht : r.take (Int.toNat ((m + 1 : Nat) : Int) - Int.toNat 1) = r.take m := by
      rw [Int.toNat_natCast]
      rfl
    rw [ht]
    exact ⟨by decide, by omega, by simp only [List.length_cons]; omega, fin (.mk 1 q [] (r.take m) [] []) (m + 1) _ r1 s1 rfl hd1⟩
def RQPost (w : World) (L : Nat) (s : Txt) (e : Ending) (w' : World) : Prop := (match dblF (wpL L) s with
  | .ok l => ∃ v, e = .returned (.tuple #[v, .int .i64 0]) ∧ SlAt w' (fun k => w.heap.size ≤ k) l v
  | .bad k => e = .returned (.tuple #[.slice none 0 0, .int .i64 (k : Int)])) ∧ Still w w'
set_option maxHeartbeats 1000000 in
theorem ref_double_of {L : Nat} (hL : L ≤ 30) (ih : RPartsS L) (s : Txt) (hl : s.length < 1000000) : Calls Tryz.prog fn_ref08_double #[.string (S s), .int .i64 (30 - (L : Int))] w (RQPost w L s) := by
  refine ref08_double_calls _ _ _ _ ?_
  refine bsel_of (fun h => ?_) (fun h => ?_)
  · have h : s = [] := of_decide_eq_true h
    subst h
    refine allocK fun w1 r1 s1 z1 => ?_
    have r1 : Row w1 w.heap.size 63 ⟨pcell (tx true []) (.slice none 0 0)⟩ := r1
    refine ⟨⟨_, rfl, some ⟨w.heap.size, 0, none⟩, 1, rfl, Nat.le_refl _, fun _ => ⟨_, rfl, Nat.le_refl _, ?_⟩⟩, s1⟩
    refine PsAt.of fun i x hx => ?_
    have hi : i = 0 := by
      cases i with
      | zero => rfl
      | succ i => simp at hx
    subst hi
    obtain rfl := Option.some.inj hx
    refine PtAt.of (fun j u hu => ?_) (SlAt.nil _ _ none 0)
    rw [adds, add_row, show 0 + (0 * 6 + j) = j by omega]
    exact r1.lget hu
  have h : s ≠ [] := of_decide_eq_false h
  have hdbl : dblF (wpL L) s = loopF (dblOne (wpL L)) (s.length + 1) [] s := by unfold dblF; rw [if_neg h]
  refine ⟨fun s1 out n c w2 => ∃ acc, SlAt w2 (fun k => w.heap.size ≤ k) acc (.slice out n c) ∧ Still w w2 ∧ s1.length ≤ s.length ∧ loopF (dblOne (wpL L)) (s1.length + 1) acc s1 = loopF (dblOne (wpL L)) (s.length + 1) [] s ∧ wtL acc + 12 * s1.length ≤ 12 * s.length, fun s1 _ _ _ _ => s1.length, ⟨[], SlAt.nil _ _ _ _, Still.refl _, Nat.le_refl _, rfl, by simp [wtL]⟩, ?_⟩
  rintro s1 out n c _ w2 ⟨acc, hacc, s2, hle, hlp, hwt⟩
  obtain ⟨rfl, hcap⟩ := hacc.len
  refine bsel_of (fun hx => ?_) (fun hx => ?_)
  rotate_left
  · have hx : s1 = [] := List.eq_nil_of_length_eq_zero (by have := of_decide_eq_false hx; omega)
    subst hx
    refine ⟨?_, s2⟩
    rw [hdbl, ← hlp]
    exact ⟨_, rfl, hacc⟩
  obtain ⟨b, y, rfl⟩ : ∃ b y, s1 = b :: y := by
    cases s1 with
    | nil => exact absurd (of_decide_eq_true hx) (by decide)
    | cons b y => exact ⟨b, y, rfl⟩
  rw [loop_step (dblOne_takes _)] at hlp
  have hlc : (b :: y).length < 1000000 := by omega
  have hz := s2.size
  refine ⟨by decide, by simp only [List.length_cons]; omega, boxK rfl (by simp [Value.oneCell']) fun w4 r4 s4 z4 => ?_⟩
  have r4 : Row w4 w2.heap.size 63 ⟨pcell (tx true [b]) (.slice none 0 0)⟩ := r4
  refine ⟨fun n ex w7 => ∃ (x : Pt) (wp : Option Addr) (wc : Nat), Row w7 w2.heap.size 63 ⟨pcell x (.slice wp x.w.length wc)⟩ ∧ SlAt w7 (fun k => w2.heap.size < k) x.w (.slice wp x.w.length wc) ∧ Still w2 w7 ∧ (b = 36 → match dollarF (wpL L) true (b :: y) with
      | .ok p => ex = 0 ∧ p.1 = x ∧ n = (p.2 : Int)
      | .bad k => ex = (k : Int)) ∧ (b ≠ 36 → ex = 0 ∧ n = 1 ∧ x = tx true [b]), ⟨by decide, b, rfl, bsel_of (fun h36 => ?_) (fun h36 => ?_)⟩, ?_⟩
  · have h36 : b = 36 := byte_eq.1 (of_decide_eq_true h36)
    subst h36
    refine (ref_dollar_of hL ih y true hlc).mono ?_
    rintro e5 w5 ⟨⟨x, vw, n, hsl, hm⟩, s5⟩
    obtain ⟨wp, wc, rfl⟩ := hsl.form
    have z5 := s5.size
    have key : ∃ k : Nat, e5 = .returned (.tuple #[pagg x (.slice wp x.w.length wc), .int .i64 (n : Int), .int .i64 (k : Int)]) ∧ (match dollarF (wpL L) true (36 :: y) with
        | .ok p => k = 0 ∧ p = (x, n)
        | .bad j => k = j) := by
      cases hb : dollarF (wpL L) true (36 :: y) with
      | ok p =>
        rw [hb] at hm
        exact ⟨0, hm.1, rfl, hm.2⟩
      | bad j =>
        rw [hb] at hm
        exact ⟨j, hm, rfl⟩
    obtain ⟨k, he, hk⟩ := key
    refine .inl ⟨x.k, x.q, x.t, x.n, x.o, wp, x.w.length, wc, (n : Int), (k : Int), he, stK (r4.still s5) (by simp [pcell]) one6 fun w6 r6 m6 z6 => ⟨x, wp, wc, r6, (hsl.mod m6 fun j hj e => by omega).mono fun j hj => by omega, (s4.trans s5).box (Nat.le_refl _) m6, fun _ => ?_, fun e => absurd rfl e⟩⟩
    cases hb : dollarF (wpL L) true (36 :: y) with
    | ok p =>
      rw [hb] at hk
      obtain ⟨rfl, rfl⟩ := hk
      exact ⟨rfl, rfl, rfl⟩
    | bad j =>
      rw [hb] at hk
      have hk : k = j := hk
      subst hk
      rfl
  · have h36 : ¬ b = 36 := fun e => of_decide_eq_false h36 (byte_eq.2 e)
    exact ⟨tx true [b], none, 0, r4, SlAt.nil _ _ _ _, s4, fun e => absurd e h36, fun _ => ⟨rfl, rfl, rfl⟩⟩
  rintro n ex _ w7 ⟨x, wp, wc, r7, hsl7, s7, hx1, hx2⟩
  have z7 : w2.heap.size < w7.heap.size := r7.lt
  -- the one that is taken
  refine ⟨fun n1 w10 => ∃ (x : Pt) (wp : Option Addr) (wc : Nat), Row w10 w2.heap.size 63 ⟨pcell x (.slice wp x.w.length wc)⟩ ∧ SlAt w10 (fun k => w2.heap.size < k) x.w (.slice wp x.w.length wc) ∧ Still w2 w10 ∧ match dblOne (wpL L) (b :: y) with
      | .ok p => ex = 0 ∧ p.1 = [x] ∧ n1 = (p.2 : Int)
      | .bad k => ex = (k : Int), ⟨fun t w8 => w8 = w7 ∧ (t = true ↔ (b = 92 ∧ (y.head? = some 36 ∨ y.head? = some 96 ∨ y.head? = some 34 ∨ y.head? = some 92))), ⟨by decide, b, rfl, bsel_of (fun h92 => bsel_of (fun h1 => ?_) (fun h1 => ⟨rfl, fun e => (by cases e), fun e => ?_⟩)) (fun h92 => ⟨rfl, fun e => (by cases e), fun e => absurd e.1 fun e => of_decide_eq_false h92 (byte_eq.2 e)⟩)⟩, ?_⟩, ?_⟩
  · have h92 : b = 92 := byte_eq.1 (of_decide_eq_true h92)
    have h1 : 1 < (b :: y).length := by have := of_decide_eq_true h1; omega
    obtain ⟨a, z, rfl⟩ : ∃ a z, y = a :: z := by
      cases y with
      | nil => simp at h1
      | cons a z => exact ⟨a, z, rfl⟩
    have ba : ∀ k : UInt8, decide ((a.toNat : Int) = (k.toNat : Int)) = true ↔ (a :: z : Txt).head? = some k := by
      intro k
      rw [decide_eq_true_eq, List.head?_cons, Option.some.injEq]
      exact byte_eq
    have na : ∀ k : UInt8, decide ((a.toNat : Int) = (k.toNat : Int)) = false → ¬ (a :: z : Txt).head? = some k := by
      intro k hk e
      rw [(ba k).2 e] at hk
      cases hk
    refine ⟨by decide, a, rfl, bsel_of (fun g1 => ⟨rfl, fun _ => ⟨h92, .inl ((ba 36).1 g1)⟩, fun _ => rfl⟩) (fun g1 => ⟨by decide, a, rfl, bsel_of (fun g2 => ⟨rfl, fun _ => ⟨h92, .inr (.inl ((ba 96).1 g2))⟩, fun _ => rfl⟩) (fun g2 => ⟨by decide, a, rfl, bsel_of (fun g3 => ⟨rfl, fun _ => ⟨h92, .inr (.inr (.inl ((ba 34).1 g3)))⟩, fun _ => rfl⟩) (fun g3 => ⟨by decide, a, rfl, rfl, fun e => ⟨h92, .inr (.inr (.inr ((ba 92).1 e)))⟩, fun e => (ba 92).2 (((e.2.resolve_left (na 36 g1)).resolve_left (na 96 g2)).resolve_left (na 34 g3))⟩)⟩)⟩)⟩
  · have h1 : ¬ 1 < (b :: y).length := by have := of_decide_eq_false h1; omega
    have : y = [] := by
      cases y with
      | nil => rfl
      | cons c y => simp at h1
    subst this
    rcases e.2 with e | e | e | e <;> cases e
  · rintro t _ w8 ⟨rfl, ht⟩
    refine bsel_of (fun g => ?_) (fun g => ?_)
    · have hh := ht.1 g
      have h36 : b ≠ 36 := by rw [hh.1]; decide
      obtain ⟨a, z, rfl⟩ : ∃ a z, y = a :: z := by
        cases y with
        | nil => rcases hh.2 with e | e | e | e <;> cases e
        | cons a z => exact ⟨a, z, rfl⟩
      refine ⟨by decide, by decide, by simp only [List.length_cons]; omega, stK r7 (by simp [pcell]) (by simp [Value.oneCell']) fun w9 r9 m9 z9 => ⟨tx true [a], none, 0, r9, SlAt.nil _ _ _ _, s7.box (Nat.le_refl _) m9, ?_⟩⟩
      simp only [dblOne]
      rw [if_neg h36, if_pos hh]
      exact ⟨(hx2 h36).1, rfl, rfl⟩
    · refine ⟨x, wp, wc, r7, hsl7, s7, ?_⟩
      simp only [dblOne]
      by_cases h36 : b = 36
      · rw [if_pos h36]
        have := hx1 h36
        cases hb : dollarF (wpL L) true (b :: y) with
        | ok p =>
          rw [hb] at this
          exact ⟨this.1, by rw [this.2.1], this.2.2⟩
        | bad j =>
          rw [hb] at this
          exact this
      · rw [if_neg h36, if_neg fun e => by rw [ht.2 e] at g; cases g]
        obtain ⟨e1, e2, e3⟩ := hx2 h36
        exact ⟨e1, by rw [e3], e2⟩
  rintro n1 _ w10 ⟨x, wp, wc, r10, hsl10, s10, hx⟩
  cases ho : dblOne (wpL L) (b :: y) with
  | bad k =>
    rw [ho] at hx hlp
    have hk : k ≠ 0 := fun e => dblOne_nz (wpL_nz L) b y (by rw [ho, e])
    have hx : ex = (k : Int) := hx
    subst hx
    refine bsel_of (fun _ => ⟨?_, s2.trans s10⟩) (fun hh => absurd (nf hh) (by omega))
    rw [hdbl, ← hlp]
    rfl
  | ok p =>
    rw [ho] at hx hlp
    obtain ⟨rfl, hp1, rfl⟩ := hx
    have hbe := dblOne_bears (wpL_wt L) _ _ ho
    have hta := dblOne_takes _ _ _ ho
    rw [hp1, wtL_one] at hbe
    have hs12 := s2.trans s10
    have z10 : w2.heap.size < w10.heap.size := r10.lt
    refine bsel_of (fun hh => absurd rfl (nt hh)) (fun _ => ⟨_, _, _, _, _, _, _, _, r10.lget rfl, r10.lget rfl, r10.lget rfl, r10.lget rfl, r10.lget rfl, r10.lget rfl, (ref_Add_spec (x := x) (N := w.heap.size) (hacc.still s10) (by omega) (hsl10.mono fun k hk => by omega) (by omega)).mono ?_⟩)
    rintro _ w11 ⟨v11, rfl, hsl11, s11⟩
    obtain ⟨p11, c11, rfl⟩ := hsl11.form
    have hdl : ((b :: y).drop p.2).length = (b :: y).length - p.2 := List.length_drop
    have hwa := wt_add acc x
    refine .inl ⟨_, _, _, rfl, by omega, by omega, ?_⟩
    rw [Int.toNat_natCast]
    refine ⟨⟨addP acc x, hsl11, hs12.trans s11, by omega, ?_, by omega⟩, by dsimp only; omega⟩
    simp only [Rs.and, hp1, List.foldl_cons, List.foldl_nil] at hlp
    exact hlp
end Go.Proofs.YthommfjiaalecaaGreatDoor
