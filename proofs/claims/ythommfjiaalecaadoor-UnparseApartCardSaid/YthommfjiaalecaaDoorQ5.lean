/- Texts of one proof, one behind the other. Conditions: as each theorem names them. -/
import Derived.Test.YthommfjiaalecaaDoorQ4
import Derived.Tactics
import Derived.Tactics2
import Derived.Defers
import Derived.Recover
import Derived.Laws.Pointers
import Derived.Shelf.Strings.Builder1
import Derived.Shelf.Strings.Builder2
import Derived.Shelf.Strings.OnBuilder
import Derived.Shelf.Strings.BuilderF
import Derived.Shelf.Strings.BuilderK
import Derived.Shelf.Utf8.RuneCount
import Derived.Shelf.Strings.Builder2Cap
import Derived.Shelf.Strings.Search1
import Derived.Shelf.Strings.Search2
import Derived.Shelf.Strings.Search3
import Derived.Shelf.Strings.Count
import Derived.Shelf.LaysM
import Derived.Shelf.Strings.Shaped
import Derived.Shelf.Strings.Split
import Derived.Shelf.Strings.Replace
import Derived.Shelf.Strings.SplitShaped
import Derived.Shelf.Unicode.Decode
import Derived.Shelf.Strings.RuneCount
import Derived.Shelf.Unicode.DecodeSlow
import Derived.Shelf.Unicode.DecodeAny
import Derived.Shelf.Strings.BuilderCap
import Derived.Test.YthommfjiaalecaaDoorProg
import Derived.Laws.RangeString
import Derived.Shelf.Strings.SlTrimAscii
namespace Go.Proofs.YthommfjiaalecaaDoor
open Go.RowKit Vc
variable {w : World}
theorem getD_some {α : Type} {p : List α} {i : Nat} (h : i < p.length) : p[i]? = some p[i] := List.getElem?_eq_getElem h
theorem take_snoc {α : Type} {l : List α} {k : Nat} (h : k < l.length) : l.take (k + 1) = l.take k ++ [l[k]] := by rw [List.take_add_one, getD_some h]; rfl
theorem byte_eq {a b : UInt8} : (a.toNat : Int) = (b.toNat : Int) ↔ a = b := ⟨fun h => UInt8.toNat_inj.1 (by omega), fun h => by rw [h]⟩
theorem tmod_nat (k m : Nat) : Int.tmod (k : Int) (m : Int) = ((k % m : Nat) : Int) := (Int.ofNat_tmod k m).symm
def strs (l : List Txt) : List Value := l.map fun x => .string (S x)
theorem strs_append (l m : List Txt) : strs (l ++ m) = strs l ++ strs m := by simp [strs]
theorem strs_length (l : List Txt) : (strs l).length = l.length := by simp [strs]
theorem strs_one (l : List Txt) : ∀ u ∈ strs l, u.oneCell' = true := by
  intro u hu
  simp only [strs, List.mem_map] at hu
  obtain ⟨x, _, rfl⟩ := hu
  rfl
def StrsAt (w : World) (p : Option Addr) (n : Nat) (l : List Txt) : Prop := l.length = n ∧ At w p n (strs l)
theorem StrsAt.still {p : Option Addr} {n : Nat} {l : List Txt} {w' : World} (h : StrsAt w p n l) (hm : Still w w') : StrsAt w' p n l := ⟨h.1, h.2.still hm⟩
theorem StrsAt.of {B : Nat} {p : Option Addr} {n C : Nat} {l : List Txt} (h : Owns w B 9 1 (.slice p n C) n (strs l)) : StrsAt w p n l := ⟨by have := h.length; rw [strs_length] at this; omega, At.own h⟩
theorem StrsAt.row {g : Nat} {t : TypeId} {l : List Txt} (h : Row w g t ⟨strs l⟩) : StrsAt w (some ⟨g, 0, none⟩) l.length l := ⟨rfl, At.row h⟩
theorem StrsAt.nil (w : World) : StrsAt w none 0 [] := ⟨rfl, fun h => absurd h (Nat.lt_irrefl _)⟩
theorem StrsAt.get {p : Option Addr} {n : Nat} {l : List Txt} (h : StrsAt w p n l) {k : Nat} (hk : k < n) : ∃ a, p = some a ∧ w.cell? (a.add k) = some (.string (S (l[k]'(by have := h.1; omega)))) := by
  obtain ⟨a, h1, h2⟩ := h.2 (by omega)
  refine ⟨a, h1, h2 k _ ?_⟩
  have := h.1
  simp [strs, show k < l.length by omega]
def u8s (vs : List Nat) : List Value := vs.map fun v : Nat => .int .u8 (v : Int)
def U8At (w : World) (p : Option Addr) (n : Nat) (vs : List Nat) : Prop := vs.length = n ∧ (∀ v ∈ vs, v < 256) ∧ At w p n (u8s vs)
theorem U8At.still {p : Option Addr} {n : Nat} {vs : List Nat} {w' : World} (h : U8At w p n vs) (hm : Still w w') : U8At w' p n vs := ⟨h.1, h.2.1, h.2.2.still hm⟩
theorem U8At.get {p : Option Addr} {n : Nat} {vs : List Nat} (h : U8At w p n vs) {k : Nat} (hk : k < n) : ∃ a v, p = some a ∧ vs[k]? = some v ∧ v < 256 ∧ w.cell? (a.add k) = some (.int .u8 (v : Int)) := by
  obtain ⟨h1, h2, h3⟩ := h
  obtain ⟨a, h4, h5⟩ := h3 (by omega)
  refine ⟨a, vs[k]'(by omega), h4, getD_some _, h2 _ (List.getElem_mem _), h5 k _ ?_⟩
  simp [u8s, show k < vs.length by omega]
def piecesR (sg : List Txt) (vs : List Nat) : Txt := (vs.take 14).flatMap fun v => sg.getD (v % sg.length) []
theorem pieces_spec {l q : Option Addr} {lL lC qC : Nat} {vs : List Nat} {sg : List Txt} (hl : U8At w l lL vs) (hr : StrsAt w q sg.length sg) (h0 : 0 < sg.length) (h1 : sg.length < 1000) (h8 : ∀ x ∈ sg, x.length ≤ 1000) :
    Calls Tryd.prog fn_law07_Pieces #[.slice l lL lC, .slice q sg.length qC] w (fun e w' => e = .returned (.string (S (piecesR sg vs))) ∧ w' = w) := by
  refine law07_Pieces_calls _ _ _ _ _ _ _ _ ?_
  have hlen := hl.1
  refine ⟨fun s i w1 => ∃ n : Nat, i = (n : Int) ∧ n ≤ 14 ∧ n ≤ lL ∧ s.length ≤ n * 1000 ∧ s = piecesR sg (vs.take n) ∧ w1 = w, fun _ i _ => 14 - i.toNat, ⟨0, rfl, by omega, Nat.zero_le _, by simp, rfl, rfl⟩, ?_⟩
  rintro s _ _ w1 ⟨n, rfl, hn, hnl, hs, he, rfl⟩
  have e1 : IntKind.i64.wrap ((n : Int) + 1) = ((n + 1 : Nat) : Int) := by rw [wrap_i64 (by omega) (by omega)]; omega
  refine bsel_of (fun hx => bsel_of (fun hy => ?_) (fun hy => ⟨?_, rfl⟩)) (fun hx => ⟨?_, rfl⟩)
  · have hx : n < lL := by have := of_decide_eq_true hx; omega
    have hy : n < 14 := by have := of_decide_eq_true hy; omega
    obtain ⟨a, v, rfl, hg, hv, hc⟩ := hl.get hx
    have ev : IntKind.i64.wrap (v : Int) = (v : Int) := wrap_i64 (by omega) (by omega)
    have hlt : v % sg.length < sg.length := Nat.mod_lt _ h0
    have hl8 := h8 _ (List.getElem_mem hlt)
    obtain ⟨b, rfl, cb⟩ := hr.get hlt
    refine ⟨by omega, by omega, (v : Int), by rw [Int.toNat_natCast, Nat.mul_one]; exact hc, by omega, ?_⟩
    rw [ev, tmod_nat, e1, Int.toNat_natCast]
    refine ⟨by omega, by omega, sg[v % sg.length], ?_, by omega, ⟨n + 1, rfl, hy, hx, by simp; omega, ?_, rfl⟩, by dsimp only; omega⟩
    · rw [Nat.mul_one]
      exact cb
    · rw [he, piecesR, piecesR, List.take_take, List.take_take, Nat.min_eq_right (by omega), Nat.min_eq_right (by omega), List.take_add_one, hg, List.flatMap_append]
      simp [List.getD, hlt]
  · have hy : n = 14 := by have := of_decide_eq_false hy; omega
    rw [he, piecesR, piecesR, List.take_take, hy, Nat.min_self]
  · have hx : n = lL := by have := of_decide_eq_false hx; omega
    rw [he, List.take_of_length_le (by omega)]
end Go.Proofs.YthommfjiaalecaaDoor
namespace Go.Proofs.YthommfjiaalecaaDoor
open Go.RowKit Vc
end Go.Proofs.YthommfjiaalecaaDoor
namespace Go.Proofs.YthommfjiaalecaaDoor
open Go.RowKit Vc
variable {w : World}
theorem begins_spec (s t : Txt) (n : Nat) (hn : n ≤ s.length) (hs : s.length < 1000000) (ht : t.length < 1000000) : Calls Tryd.prog fn_ref07_begins #[.string (S s), .int .i64 (n : Int), .string (S t)] w
    (fun e w' => e = .returned (.bool (pf t (s.drop n))) ∧ w' = w) := by
  refine ref07_begins_calls _ _ _ _ _ ?_
  have e1 : IntKind.i64.wrap ((n : Int) + (t.length : Int)) = ((n + t.length : Nat) : Int) := by rw [wrap_i64 (by omega) (by omega)]; omega
  unfold vc_ref07_begins
  rw [e1, Int.toNat_natCast, Int.toNat_natCast]
  refine bsel_of (fun h => ⟨by omega, by omega, by have := of_decide_eq_true h; omega, ?_, rfl⟩) (fun h => ⟨?_, rfl⟩)
  · have h := of_decide_eq_true h
    rw [show n + t.length - n = t.length by omega]
    unfold pf
    congr 2
    apply decide_eq_decide.2
    rw [List.length_drop]
    exact ⟨fun e => ⟨by omega, e⟩, fun e => e.2⟩
  · have h := of_decide_eq_false h
    unfold pf
    rw [decide_eq_false]
    rw [List.length_drop]
    intro e
    omega
def SkipR (d : Nat) : Prop := ∀ (w : World) (s : Txt) (n : Nat), n < s.length → s.length < 1000000 → Calls Tryd.prog fn_ref07_Skip #[.string (S s), .int .i64 (n : Int), .int .i64 (31 - (d : Int))] w (fun e w' => e = .returned (.int .i64 (ix s (unitD d (s.drop n)))) ∧ w' = w)
def UntilR (d : Nat) : Prop := ∀ (w : World) (s : Txt) (n : Nat) (c : UInt8), n ≤ s.length → s.length < 1000000 → Calls Tryd.prog fn_ref07_until #[.string (S s), .int .i64 (n : Int), .int .u8 (c.toNat : Int), .int .i64 (31 - (d : Int))] w (fun e w' => e = .returned (.int .i64 (ix s (untilD d c (s.drop n)))) ∧ w' = w)
theorem skip_of {d : Nat} (hd : d ≤ 31) (ih : d ≠ 0 → UntilR (d - 1)) : SkipR d := by
  intro w s n hn hs
  refine ref07_Skip_calls _ _ _ _ _ ?_
  refine bsel_of (fun h30 => ?_) (fun h30 => ?_)
  · have hd0 : d = 0 := by have := of_decide_eq_true h30; omega
    subst hd0
    exact ⟨rfl, rfl⟩
  have hd0 : d ≠ 0 := by have := of_decide_eq_false h30; omega
  obtain ⟨k, rfl⟩ : ∃ k, d = k + 1 := ⟨d - 1, by omega⟩
  have ih := ih hd0
  rw [Nat.add_sub_cancel] at ih
  have ed : IntKind.i64.wrap (31 - ((k + 1 : Nat) : Int) + 1) = 31 - (k : Int) := by rw [wrap_i64 (by omega) (by omega)]; omega
  have e1 : IntKind.i64.wrap ((n : Int) + 1) = ((n + 1 : Nat) : Int) := by rw [wrap_i64 (by omega) (by omega)]; omega
  have e2 : IntKind.i64.wrap ((n : Int) + 2) = ((n + 2 : Nat) : Int) := by rw [wrap_i64 (by omega) (by omega)]; omega
  have hdr : s.drop n = s[n] :: s.drop (n + 1) := List.drop_eq_getElem_cons hn
  have hu : unitD (k + 1) (s.drop n) = unitF (untilD k) (s[n] :: s.drop (n + 1)) := by rw [hdr]; rfl
  have hg : s[Int.toNat (n : Int)]? = some s[n] := by rw [Int.toNat_natCast]; exact getD_some hn
  rw [hu, ed, e1, e2]
  have unt : ∀ (m : Nat) (c : UInt8) (o : Option Txt), m ≤ s.length → untilD k c (s.drop m) = o → ∀ w0 : World, Calls Tryd.prog fn_ref07_until #[(.string (S s)), (.int .i64 (m : Int)), (.int .u8 (c.toNat : Int)), (.int .i64 (31 - (k : Int)))] w0 (fun ed w2 => (∃ r : Int, ed = .returned (.int .i64 r) ∧ Ending.returned (.int .i64 r) = .returned (.int .i64 (ix s o)) ∧ w2 = w0) ∨ (∃ ch, ed = .panicked ch ∧ Ending.panicked ch = .returned (.int .i64 (ix s o)) ∧ w2 = w0)) := by
    intro m c o hm ho w0
    refine (ih w0 s m c hm hs).mono ?_
    rintro _ w2 ⟨rfl, rfl⟩
    exact .inl ⟨_, rfl, by rw [ho], rfl⟩
  refine ⟨by omega, s[n], hg, bsel_of (fun h92 => ?_) (fun h92 => ⟨by omega, s[n], hg, bsel_of (fun h39 => ?_) (fun h39 => ⟨by omega, s[n], hg, bsel_of (fun h34 => ?_) (fun h34 => ?_)⟩)⟩)⟩
  · have h92 : s[n] = 92 := byte_eq.1 (of_decide_eq_true h92)
    simp only [unitF, if_pos h92]
    refine bsel_of (fun h => ?_) (fun h => ?_)
    · have h : n + 1 = s.length := by have := of_decide_eq_true h; omega
      rw [List.drop_of_length_le (by omega)]
      exact ⟨rfl, trivial⟩
    · have h : n + 1 < s.length := by have := of_decide_eq_false h; omega
      rw [List.drop_eq_getElem_cons h]
      exact ⟨by rw [ix_drop (by omega)], trivial⟩
  · have h92 : ¬ s[n] = 92 := fun e => of_decide_eq_false h92 (byte_eq.2 e)
    have h39 : s[n] = 39 := byte_eq.1 (of_decide_eq_true h39)
    simp only [unitF, if_neg h92, if_pos h39]
    refine ⟨fun i w1 => ∃ m : Nat, i = (m : Int) ∧ m ≤ s.length ∧ quoteEnd (s.drop m) = quoteEnd (s.drop (n + 1)) ∧ w1 = w, fun i _ => s.length - i.toNat, ⟨n + 1, rfl, hn, rfl, rfl⟩, ?_⟩
    rintro _ _ w1 ⟨m, rfl, hm, hq, rfl⟩
    rw [← hq]
    have em : IntKind.i64.wrap ((m : Int) + 1) = ((m + 1 : Nat) : Int) := by rw [wrap_i64 (by omega) (by omega)]; omega
    rw [em]
    refine bsel_of (fun hx => ?_) (fun hx => ?_)
    · have hx : m < s.length := by have := of_decide_eq_true hx; omega
      have hdm : s.drop m = s[m] :: s.drop (m + 1) := List.drop_eq_getElem_cons hx
      refine ⟨by omega, s[m], by rw [Int.toNat_natCast]; exact getD_some hx, bsel_of (fun h => ?_) (fun h => ⟨⟨m + 1, rfl, hx, ?_, rfl⟩, by dsimp only; omega⟩)⟩
      · have h : s[m] = 39 := byte_eq.1 (of_decide_eq_true h)
        rw [hdm]
        simp only [quoteEnd, if_pos h]
        exact ⟨by rw [ix_drop (by omega)], trivial⟩
      · have h : ¬ s[m] = 39 := fun e => of_decide_eq_false h (byte_eq.2 e)
        rw [hdm]
        simp only [quoteEnd, if_neg h]
    · have hx : m = s.length := by have := of_decide_eq_false hx; omega
      rw [List.drop_of_length_le (by omega)]
      exact ⟨rfl, rfl⟩
  · have h92 : ¬ s[n] = 92 := fun e => of_decide_eq_false h92 (byte_eq.2 e)
    have h39 : ¬ s[n] = 39 := fun e => of_decide_eq_false h39 (byte_eq.2 e)
    have h34 : s[n] = 34 := byte_eq.1 (of_decide_eq_true h34)
    simp only [unitF, if_neg h92, if_neg h39, if_pos h34]
    exact unt (n + 1) 34 _ hn rfl w
  · have h92 : ¬ s[n] = 92 := fun e => of_decide_eq_false h92 (byte_eq.2 e)
    have h39 : ¬ s[n] = 39 := fun e => of_decide_eq_false h39 (byte_eq.2 e)
    have h34 : ¬ s[n] = 34 := fun e => of_decide_eq_false h34 (byte_eq.2 e)
    simp only [unitF, if_neg h92, if_neg h39, if_neg h34]
    refine (begins_spec s [36, 40] n (by omega) hs (by decide)).mono ?_
    rintro _ w3 ⟨rfl, rfl⟩
    rw [hdr, pf_two]
    refine .inl ⟨_, rfl, ?_⟩
    rcases Nat.lt_or_ge (n + 1) s.length with h1 | h1
    · have hd2 : s.drop (n + 1) = s[n + 1] :: s.drop (n + 2) := List.drop_eq_getElem_cons h1
      rw [hd2]
      dsimp only [dollar]
      refine bsel_of (fun h40 => ?_) (fun h40 => (begins_spec s [36, 123] n (by omega) hs (by decide)).mono ?_)
      · rw [if_pos (of_decide_eq_true h40)]
        exact unt (n + 2) 41 _ h1 rfl w3
      · rintro _ w4 ⟨rfl, rfl⟩
        rw [hdr, pf_two, hd2]
        dsimp only
        rw [if_neg (of_decide_eq_false h40)]
        refine .inl ⟨_, rfl, bsel_of (fun h123 => ?_) (fun h123 => ?_)⟩
        · rw [if_pos (of_decide_eq_true h123)]
          exact unt (n + 2) 125 _ h1 rfl w4
        · rw [if_neg (of_decide_eq_false h123), ← hd2]
          exact ⟨by rw [ix_drop (by omega)], rfl⟩
    · have hd2 : s.drop (n + 1) = [] := List.drop_of_length_le h1
      rw [hd2]
      dsimp only [dollar]
      refine bsel_of (fun h40 => by cases h40) (fun h40 => (begins_spec s [36, 123] n (by omega) hs (by decide)).mono ?_)
      rintro _ w4 ⟨rfl, rfl⟩
      rw [hdr, pf_two, hd2]
      refine .inl ⟨_, rfl, bsel_of (fun h123 => by cases h123) (fun h123 => ?_)⟩
      rw [← hd2]
      exact ⟨by rw [ix_drop (by omega)], rfl⟩
theorem untilr_of {d : Nat} (hd : d ≤ 31) (hu : SkipR d) (ih : d ≠ 0 → UntilR (d - 1)) : UntilR d := by
  intro w s n c hn hs
  refine ref07_until_calls _ _ _ _ _ _ ?_
  refine ⟨fun i w1 => ∃ m : Nat, i = (m : Int) ∧ m ≤ s.length ∧ untilD d c (s.drop m) = untilD d c (s.drop n) ∧ w1 = w, fun i _ => s.length - i.toNat, ⟨n, rfl, hn, rfl, rfl⟩, ?_⟩
  rintro _ _ w1 ⟨m, rfl, hm, hq, rfl⟩
  rw [← hq]
  have em : IntKind.i64.wrap ((m : Int) + 1) = ((m + 1 : Nat) : Int) := by rw [wrap_i64 (by omega) (by omega)]; omega
  rw [em]
  refine bsel_of (fun hx => ?_) (fun hx => ?_)
  case _ =>
    have hx : m < s.length := by have := of_decide_eq_true hx; omega
    have hdm : s.drop m = s[m] :: s.drop (m + 1) := List.drop_eq_getElem_cons hx
    have hg : s[Int.toNat (m : Int)]? = some s[m] := by rw [Int.toNat_natCast]; exact getD_some hx
    rw [hdm, untilD_cons]
    have hq' := hq
    rw [hdm, untilD_cons] at hq'
    refine ⟨by omega, s[m], hg, bsel_of (fun hb => ?_) (fun hb => ?_)⟩
    · have hb : s[m] = c := byte_eq.1 (of_decide_eq_true hb)
      rw [if_pos hb]
      exact ⟨by rw [ix_drop (by omega)], rfl⟩
    · have hb : ¬ s[m] = c := fun e => of_decide_eq_false hb (byte_eq.2 e)
      rw [if_neg hb] at hq' ⊢
      -- next: where it goes on
      refine ⟨fun nx w6 => ∃ o : Option Txt, nx = ix s o ∧ (∀ t, o = some t → t <:+ s ∧ t.length < s.length - m) ∧ o.bind (untilD d c) = untilD d c (s.drop n) ∧ w6 = w1, ⟨fun x w2 => x = decide (c = 34 ∧ s[m] = 39) ∧ w2 = w1, bsel_of (fun hc => ⟨by omega, s[m], hg, ?_, rfl⟩) (fun hc => ⟨?_, rfl⟩), ?_⟩, ?_⟩
      · have hc : c = 34 := byte_eq.1 (of_decide_eq_true hc)
        apply decide_eq_decide.2
        exact ⟨fun h => ⟨hc, byte_eq.1 h⟩, fun h => byte_eq.2 h.2⟩
      · rw [decide_eq_false (fun h => of_decide_eq_false hc (byte_eq.2 h.1))]
      · rintro _ _ w2 ⟨rfl, rfl⟩
        have unit : (unitD d (s[m] :: s.drop (m + 1))).bind (untilD d c) = untilD d c (s.drop n) → Calls Tryd.prog fn_ref07_Skip #[(.string (S s)), (.int .i64 (m : Int)), (.int .i64 (31 - (d : Int)))] w2 (fun ed1 w4 => (∃ r1 : Int, ed1 = .returned (.int .i64 r1) ∧ ∃ o : Option Txt, r1 = ix s o ∧ (∀ t, o = some t → t <:+ s ∧ t.length < s.length - m) ∧ o.bind (untilD d c) = untilD d c (s.drop n) ∧ w4 = w2) ∨ (∃ ch1, ed1 = .panicked ch1 ∧ Ending.panicked ch1 = .returned (.int .i64 (ix s (if c = 34 ∧ s[m] = 39 then if d = 0 then none else untilD d c (s.drop (m + 1)) else if c = 41 ∧ s[m] = 40 then if d = 0 then none else (untilD (d - 1) 41 (s.drop (m + 1))).bind (untilD d c) else (unitD d (s[m] :: s.drop (m + 1))).bind (untilD d c)))) ∧ w4 = w2)) := by
          intro ho
          refine (hu w2 s m hx hs).mono ?_
          rintro _ w4 ⟨rfl, rfl⟩
          refine .inl ⟨_, rfl, unitD d (s.drop m), rfl, fun t ht => ⟨(unitD_ends d _ _ ht).trans (drop_suf s m), ?_⟩, by rw [hdm]; exact ho, rfl⟩
          have := unitD_takes d _ _ ht
          rw [List.length_drop] at this
          exact this
        refine bsel_of (fun hqq => ?_) (fun hqq => ?_)
        · have hqq := of_decide_eq_true hqq
          rw [if_pos hqq] at hq' ⊢
          refine bsel_of (fun h30 => ?_) (fun h30 => ?_)
          · have hd0 : d = 0 := by have := of_decide_eq_true h30; omega
            rw [if_pos hd0]
            exact ⟨rfl, rfl⟩
          · have hd0 : ¬ d = 0 := by have := of_decide_eq_false h30; omega
            rw [if_neg hd0] at hq'
            refine ⟨some (s.drop (m + 1)), by rw [ix_drop (by omega)], fun t ht => ?_, hq', rfl⟩
            obtain rfl := Option.some.inj ht
            refine ⟨drop_suf _ _, ?_⟩
            rw [List.length_drop]
            omega
        · have hqq := of_decide_eq_false hqq
          rw [if_neg hqq] at hq'
          refine bsel_of (fun hc => ⟨by omega, s[m], hg, bsel_of (fun hb40 => ?_) (fun hb40 => ?_)⟩) (fun hc => ?_)
          · have hc : c = 41 := byte_eq.1 (of_decide_eq_true hc)
            have hb40 : s[m] = 40 := byte_eq.1 (of_decide_eq_true hb40)
            rw [if_pos ⟨hc, hb40⟩] at hq'
            refine bsel_of (fun h30 => ?_) (fun h30 => ?_)
            · have hd0 : ¬ d = 0 := by have := of_decide_eq_true h30; omega
              rw [if_neg hd0] at hq'
              have e1 : IntKind.i64.wrap (31 - (d : Int) + 1) = 31 - ((d - 1 : Nat) : Int) := by rw [wrap_i64 (by omega) (by omega)]; omega
              rw [e1]
              refine (ih hd0 w2 s (m + 1) 41 hx hs).mono ?_
              rintro _ w3 ⟨rfl, rfl⟩
              refine .inl ⟨_, rfl, untilD (d - 1) 41 (s.drop (m + 1)), rfl, fun t ht => ⟨(untilD_ends (d - 1) 41 _ _ ht).trans (drop_suf s (m + 1)), ?_⟩, hq', rfl⟩
              have := untilD_takes (d - 1) 41 _ _ ht
              rw [List.length_drop] at this
              omega
            · have hd0 : d = 0 := by have := of_decide_eq_false h30; omega
              rw [if_pos hd0] at hq'
              exact ⟨none, rfl, (fun t ht => by cases ht), hq', rfl⟩
          · have hb40 : ¬ s[m] = 40 := fun e => of_decide_eq_false hb40 (byte_eq.2 e)
            rw [if_neg (fun h => hb40 h.2)] at hq'
            exact unit hq'
          · have hc : ¬ c = 41 := fun e => of_decide_eq_false hc (byte_eq.2 e)
            rw [if_neg (fun h => hc h.1)] at hq'
            exact unit hq'
      · rintro _ _ w6 ⟨o, rfl, ho1, ho2, rfl⟩
        rw [hq']
        cases o with
        | none =>
          refine bsel_of (fun _ => ⟨?_, rfl⟩) (fun h => by have := of_decide_eq_false h; simp [ix] at this)
          rw [← ho2]
          rfl
        | some t =>
          obtain ⟨h1, h2⟩ := ho1 t rfl
          have hle := h1.length_le
          refine bsel_of (fun h => ?_) (fun _ => ⟨⟨s.length - t.length, rfl, by omega, ?_, rfl⟩, ?_⟩)
          · have h := of_decide_eq_true h
            simp only [ix] at h
            omega
          · rw [← suf_drop h1]
            exact ho2
          · simp only [ix]
            omega
  · have hx : m = s.length := by have := of_decide_eq_false hx; omega
    rw [List.drop_of_length_le (by omega), untilD_nil]
    exact ⟨rfl, rfl⟩
theorem levelsR : ∀ d, d ≤ 31 → SkipR d ∧ UntilR d
  | 0, h => ⟨skip_of h (fun h => absurd rfl h), untilr_of h (skip_of h (fun h => absurd rfl h)) (fun h => absurd rfl h)⟩
  | d + 1, h => by
    have ih := (levelsR d (by omega)).2
    have hu : SkipR (d + 1) := skip_of h (fun _ => ih)
    exact ⟨hu, untilr_of h hu (fun _ => ih)⟩
theorem ref_skip_spec (s : Txt) (n : Nat) (hn : n < s.length) (hs : s.length < 1000000) : Calls Tryd.prog fn_ref07_Skip #[.string (S s), .int .i64 (n : Int), .int .i64 1] w (fun e w' => e = .returned (.int .i64 (ix s (unitD 30 (s.drop n)))) ∧ w' = w) :=
  (levelsR 30 (by decide)).1 w s n hn hs
structure BldAt0 (w : World) (T g o B : Nat) (cs : List Value) (v : Value) (bs : List UInt8) : Prop where
  row : Row w g T ⟨cs⟩
  addr : cs[o]? = some (.pointer none) ∨ cs[o]? = some (.pointer (some ⟨g, o, none⟩))
  buf : cs[o + 1]? = some v
  own : Owns w B 5 1 v bs.length (bc bs)
  ne : v.ownBlock ≠ some g
def Roomy (v : Value) (bs : List UInt8) : Prop := ∀ p c, v = .slice p bs.length c → p = none ∨ c ≠ 0
structure BldAt (w : World) (T g o B : Nat) (cs : List Value) (v : Value) (bs : List UInt8) : Prop extends BldAt0 w T g o B cs v bs where
  room : Roomy v bs
def LiesB (T n o : Nat) : Prop := liesAt Tryd.prog Tryd.prog.depth T (n / Tryd.prog.cellsOf T) o 73 1 = true
theorem Row.shape {g : Nat} {t : TypeId} {cs : List Value} (h : Row w g t ⟨cs⟩) : w.shape? g = some (t, cs.length) := by
  obtain ⟨fz, h, _⟩ := h
  simp [World.shape?, h]
theorem noEscape : ExtSame Tryd.prog fn_internal_abi_NoEscape := ⟨_, Tryd.func59, by kernel_rfl, by kernel_rfl, by kernel_rfl, by kernel_rfl⟩
theorem set_same {α : Type} {l : List α} {i : Nat} {a : α} (h : l[i]? = some a) : l.set i a = l := by
  apply List.ext_getElem?
  intro j
  by_cases hj : i = j
  · subst hj
    rw [List.getElem?_set_self (List.getElem?_eq_some_iff.1 h).1, h]
  · rw [List.getElem?_set_ne hj]
section
variable {T g o B : Nat} {cs : List Value} {v : Value} {bs : List UInt8}
theorem BldAt0.roomy (h : BldAt0 w T g o B cs v bs) (hb : bs ≠ []) : BldAt w T g o B cs v bs := by
  refine ⟨h, fun p c e => ?_⟩
  have hpos : 0 < bs.length := List.length_pos_iff.2 hb
  obtain ⟨g', cap, cur, hv, _, _, hcap, _⟩ := h.own.row hpos
  rw [e] at hv
  injection hv with _ _ hv2
  exact .inr (by omega)
theorem BldAt0.lt (h : BldAt0 w T g o B cs v bs) : o + 1 < cs.length := (List.getElem?_eq_some_iff.1 h.buf).1
theorem BldAt.lt (h : BldAt w T g o B cs v bs) : o + 1 < cs.length := h.toBldAt0.lt
theorem BldAt.mod {S : Nat → Prop} {w' : World} (h : BldAt w T g o B cs v bs) (hm : Mod S w w') (hg : ¬ S g) (hv : ∀ k, v.ownBlock = some k → ¬ S k) : BldAt w' T g o B cs v bs :=
  ⟨⟨h.row.mod hm hg, h.addr, h.buf, h.own.mod hm hv, h.ne⟩, h.room⟩
theorem BldAt.still {w' : World} (h : BldAt w T g o B cs v bs) (hm : Still w w') : BldAt w' T g o B cs v bs := h.mod hm (fun h => h) (fun _ _ h => h)
theorem BldAt.fresh (h : Row w g T ⟨cs⟩) (h0 : cs[o]? = some (.pointer none)) (h1 : cs[o + 1]? = some (.slice none 0 0)) : BldAt w T g o B cs (.slice none 0 0) [] :=
  ⟨⟨h, .inl h0, h1, Owns.nil _ _ _ _, by simp [Value.ownBlock]⟩, fun p c e => by injection e with e1 _ _; exact .inl e1.symm⟩
theorem copyCheck_spec (h : BldAt0 w T g o B cs v bs) (hl : LiesB T cs.length o) : Calls Tryd.prog fn_strings_Builder_copyCheck #[.pointer (some ⟨g, o, none⟩)] w
    (fun e w' => e = .returned (.tuple #[]) ∧ BldAt0 w' T g o B (cs.set o (.pointer (some ⟨g, o, none⟩))) v bs ∧ Mod (fun k => k = g) w w' ∧ w'.heap.size = w.heap.size) := by
  refine strings_Builder_copyCheck_calls _ _ _ ?_
  have hlt := h.lt
  have hsh := h.row.shape
  rcases h.addr with h0 | h0
  · refine ⟨none, h.row.lget h0, bsel_of (fun _ => ?_) (fun h => by cases h)⟩
    refine ⟨⟨_, _, hsh, by show o < _; omega⟩, noEscape, ⟨_, _, hsh, hl⟩, stK h.row (by simp; omega) (by simp [Value.oneCell']) fun w1 hr1 hm1 hz1 => ⟨rfl, ?_, hm1, hz1⟩⟩
    exact ⟨hr1, .inr (List.getElem?_set_self (by omega)), by show (cs.set o _)[o + 1]? = _; rw [List.getElem?_set_ne (by omega)]; exact h.buf, h.own.mod hm1 (fun k hk e => h.ne (by rw [hk, e])), h.ne⟩
  · refine ⟨_, h.row.lget h0, bsel_of (fun h => by cases h) (fun _ => ⟨_, h.row.lget h0, by kernel_rfl, rfl, rfl, ?_, Mod.refl _ _, rfl⟩)⟩
    rw [set_same h0]
    exact h
theorem room_blk {p p' : Option Addr} {n n' m c c' s : Nat} (hb : Blk p p' n' c c' s) (hn' : n' = n + m) (h : ∀ q d, (Value.slice p n c) = .slice q n d → q = none ∨ d ≠ 0) {xs : List Value} {e : TypeId} {sz : Nat} (ho : Owns w B e sz (.slice p' n' c') n' xs) :
    ∀ q d, (Value.slice p' n' c') = .slice q n' d → q = none ∨ d ≠ 0 := by
  intro q d hq
  injection hq with q1 _ q2
  subst q1
  subst q2
  rcases hb with ⟨rfl, rfl⟩ | ⟨_, h0⟩
  · exact h _ _ rfl
  · rcases ho.2 with ⟨hv, h1⟩ | ⟨_, cap, _, hv, _, _, hc, _⟩
    · omega
    · injection hv with _ _ hv
      exact .inr (by omega)
theorem writeString_spec0 (h : BldAt0 w T g o B cs v bs) (hl : LiesB T cs.length o) (s : List UInt8) (hB : B ≤ w.heap.size) (hs : bs.length + s.length ≤ 140737488355328) :
    Calls Tryd.prog fn_strings_Builder_WriteString #[.pointer (some ⟨g, o, none⟩), .string (S s)] w (fun e w' => e = .returned (.tuple #[.int .i64 (s.length : Int), .nilIface]) ∧
      ∃ v', BldAt0 w' T g o B ((cs.set o (.pointer (some ⟨g, o, none⟩))).set (o + 1) v') v' (bs ++ s) ∧ (Roomy v bs → Roomy v' (bs ++ s)) ∧ Mod (fun k => k = g ∨ v.ownBlock = some k) w w') := by
  refine strings_Builder_WriteString_calls _ _ _ _ ?_
  refine (copyCheck_spec h hl).mono ?_
  rintro _ w1 ⟨rfl, h1, hm1, hz1⟩
  obtain ⟨p, c, rfl⟩ := h1.own.form
  have hlt := h.lt
  refine .inl ⟨rfl, _, _, _, by rw [add_row]; exact h1.row.lget h1.buf, ?_⟩
  refine appS_push h1.own (by omega) (by omega) (by omega) fun p' c' w2 ho2 hm2 hb2 => ?_
  have hr2 := h1.row.mod hm2 (fun e => h1.ne e)
  show stCells (Addr.add _ 1) _ _ _ _
  rw [add_row]
  refine stK hr2 (by simp; omega) (by simp [Value.oneCell']) fun w3 hr3 hm3 hz3 => ⟨rfl, _, ⟨hr3, ?_, ?_, ?_, ?_⟩, ?_, ?_⟩
  · exact .inr (by show ((cs.set o _).set (o + 1) _)[o]? = _; rw [List.getElem?_set_ne (by omega), List.getElem?_set_self (by omega)])
  · exact List.getElem?_set_self (by simp; omega)
  · have hne : (Value.slice p' (bs.length + s.length) c').ownBlock ≠ some g := by
      rcases hb2.own (n := bs.length) with e | e
      · rw [e]; exact h1.ne
      · rw [e]; have := h1.row.lt; exact fun e => by injection e with e; omega
    have := ho2.mod hm3 (fun k hk e => hne (by rw [hk, e]))
    rw [← bc_append] at this
    rw [List.length_append]
    exact this
  · rcases hb2.own (n := bs.length) with e | e
    · rw [e]; exact h1.ne
    · rw [e]; have := h1.row.lt; exact fun e => by injection e with e; omega
  · intro hroom
    rw [Roomy, List.length_append]
    exact room_blk hb2 rfl hroom ho2
  · exact Mod.trans hm1 (Mod.trans hm2 hm3 (U := fun k => k = g ∨ (Value.slice p bs.length c).ownBlock = some k) (fun _ h => .inr h) (fun _ _ h => .inl h)) (fun _ h => .inl h) (fun _ _ h => h)
theorem writeString_spec (h : BldAt w T g o B cs v bs) (hl : LiesB T cs.length o) (s : List UInt8) (hB : B ≤ w.heap.size) (hs : bs.length + s.length ≤ 140737488355328) :
    Calls Tryd.prog fn_strings_Builder_WriteString #[.pointer (some ⟨g, o, none⟩), .string (S s)] w (fun e w' => e = .returned (.tuple #[.int .i64 (s.length : Int), .nilIface]) ∧
      ∃ v', BldAt w' T g o B ((cs.set o (.pointer (some ⟨g, o, none⟩))).set (o + 1) v') v' (bs ++ s) ∧ Mod (fun k => k = g ∨ v.ownBlock = some k) w w') := by
  refine (writeString_spec0 h.toBldAt0 hl s hB hs).mono ?_
  rintro _ w' ⟨rfl, v', h1, h2, h3⟩
  exact ⟨rfl, v', ⟨h1, h2 h.room⟩, h3⟩
theorem string_spec (h : BldAt w T g o B cs v bs) (hs : bs.length ≤ 140737488355328) :
    Calls Tryd.prog fn_strings_Builder_String #[.pointer (some ⟨g, o, none⟩)] w (fun e w' => e = .returned (.string (S bs)) ∧ Mod (fun k => v.ownBlock = some k) w w') := by
  refine strings_Builder_String_calls _ _ _ ?_
  obtain ⟨p, c, rfl⟩ := h.own.form
  refine ⟨_, _, _, by rw [add_row]; exact h.row.lget h.buf, h.room _ _ rfl, _, _, _, by rw [add_row]; exact h.row.lget h.buf, ?_⟩
  refine ⟨bs, rfl, by omega, ?_⟩
  rcases Decidable.em (bs = []) with rfl | h0
  · exact .inl ⟨rfl, rfl, (Mod.refl _ _).drew⟩
  · have hpos : 0 < bs.length := List.length_pos_iff.2 h0
    obtain ⟨g', cap, cur, hv, _, hrow, hcap, hsz, _⟩ := h.own.row hpos
    injection hv with hv1 _ hv2
    subst hv1
    subst hv2
    refine .inr ⟨h0, g', cur.size, rfl, by obtain ⟨fz, hh, _⟩ := hrow; exact (show World.shape? w g' = _ by simp [World.shape?, hh]), by omega, fun j x hx => ?_, rfl, ?_⟩
    · rw [add_row, Nat.zero_add]
      exact h.own.cells rfl j _ (bc_get hx)
    · unfold World.freeze
      split
      · exact (Mod.refl _ _).drew
      · exact ⟨rfl, rfl, rfl, by simp, fun k hk hn => by
          simp only [Array.getElem?_modify]
          rw [if_neg (fun e => hn (by rw [← e]; rfl))]
          rfl⟩
end
end Go.Proofs.YthommfjiaalecaaDoor
namespace Go.Proofs.YthommfjiaalecaaDoor
def NoD (r : Txt) : Prop := ∀ c y, r = c :: y → isLet c = false ∧ isSpec c = false ∧ c ≠ 40 ∧ c ≠ 123
def Bare (b : Bool) : Txt → Prop
  | [] => True
  | c :: r => (c ≠ 92 ∧ c ≠ 39 ∧ c ≠ 34 ∧ (b = true → c ≠ 125)) ∧ (c = 36 → NoD r) ∧ Bare b r
def hd : List Pt → Option UInt8
  | p :: _ => if p.k = 0 ∧ p.q = false then p.t.head? else none
  | [] => none
def NmOk (n : Txt) : Prop := n ≠ [] ∧ paramN n = n.length
def OpOk (n o : Txt) (w : List Pt) : Prop := o ∈ opsL ∧ (o = [37] → hd w ≠ some 37) ∧ (o = [35] → hd w ≠ some 35) ∧ (n = [35] → o = [63] ∨ o = [35] → w ≠ []) ∧ (o = [61] ∨ o = [58, 61] → nameN n ≠ 0)
def VP (O : Nat → List Pt → Prop) (b : Bool) (M : Nat) (p : Pt) : Prop :=
  (p.k = 0 ∧ p.n = [] ∧ p.o = [] ∧ p.w = [] ∧ 1 ≤ M ∧ (p.q = false → p.t ≠ [] ∧ Bare b p.t)) ∨
  (p.k = 1 ∧ p.t = [] ∧ NmOk p.n ∧ 3 ≤ M ∧ (p.w = [] ∧ (p.o = [] ∨ p.o = lenO) ∨ OpOk p.n p.o p.w ∧ O (M - 2) p.w ∧ hasL p.w = false ∧ (p.q = true → qdL [] p.w = p.w))) ∨
  (p.k = 2 ∧ p.n = [] ∧ p.o = [] ∧ p.w = [] ∧ (∀ x, untilD 29 41 (p.t ++ 41 :: x) = some x) ∧ p.t.length + 4 ≤ 2 * M ∧ ¬ (1 < p.t.length ∧ (36 :: 40 :: p.t ++ [41])[2]? = some 40 ∧ (36 :: 40 :: p.t ++ [41])[p.t.length + 1]? = some 41)) ∨
  (p.k = 3 ∧ p.n = [] ∧ p.o = [] ∧ p.w = [] ∧ (∀ x, untilD 29 41 (40 :: p.t ++ 41 :: 41 :: x) = some x) ∧ p.t.length + 6 ≤ 2 * M)
def OkL : Nat → Bool → Nat → List Pt → Prop
  | 0, _, _, _ => False
  | L + 1, b, M, l => Norm l ∧ ∀ p ∈ l, VP (OkL L true) b M p
def body (p : Pt) : Txt := if p.k = 2 then [36, 40] ++ p.t ++ [41] else if p.k = 3 then [36, 40, 40] ++ p.t ++ [41, 41] else if p.k = 1 then (if p.o = lenO then [36, 123, 35] ++ p.n ++ [125] else [36, 123] ++ p.n ++ p.o ++ prL p.w ++ [125]) else []
theorem pr_body (p : Pt) (h : p.k ≠ 0) : p.pr = wrapQ p.q (body p) := by
  cases p with
  | mk k q t n o w =>
    have h : k ≠ 0 := h
    simp only [Pt.pr, if_neg h, body, Pt.k, Pt.q, Pt.t, Pt.n, Pt.o, Pt.w]
    rfl
theorem pr_text (p : Pt) (h : p.k = 0) : p.pr = if p.q = true then single p.t else p.t := by
  cases p with
  | mk k q t n o w =>
    have h : k = 0 := h
    simp only [Pt.pr, if_pos h, Pt.q, Pt.t]
    rfl
theorem head_app {a b : Txt} (h : a ≠ []) : (a ++ b).head? = a.head? := by
  cases a with
  | nil => exact absurd rfl h
  | cons c r => rfl
theorem unit_byte {d : Nat} {c : UInt8} {r : Txt} (h1 : c ≠ 92) (h2 : c ≠ 39) (h3 : c ≠ 34) (h4 : c = 36 → ∀ a y, r = a :: y → a ≠ 40 ∧ a ≠ 123) : unitD (d + 1) (c :: r) = some r := by
  show unitF (untilD d) (c :: r) = some r
  simp only [unitF]
  rw [if_neg h1, if_neg h2, if_neg h3]
  cases r with
  | nil => rfl
  | cons a y =>
    simp only [dollar]
    by_cases h : c = 36
    · have := h4 h a y rfl
      rw [if_neg (fun e => this.1 e.2), if_neg (fun e => this.2 e.2)]
    · rw [if_neg (fun e => h e.1), if_neg (fun e => h e.1)]
def Pl (c : UInt8) : Prop := c ≠ 92 ∧ c ≠ 39 ∧ c ≠ 34 ∧ c ≠ 36 ∧ c ≠ 125
theorem until_step {d : Nat} {c : UInt8} {r t : Txt} (h : c ≠ 125) (hu : unitD d (c :: r) = some t) : untilD d 125 (c :: r) = untilD d 125 t := by
  rw [untilD_cons, if_neg h, if_neg (fun e => absurd e.1 (by decide)), if_neg (fun e => absurd e.1 (by decide)), hu]
  rfl
theorem plain_skip {d : Nat} (hd : 1 ≤ d) : ∀ (y x : Txt), (∀ c ∈ y, Pl c) → untilD d 125 (y ++ x) = untilD d 125 x
  | [], x, _ => rfl
  | c :: y, x, h => by
    obtain ⟨d, rfl⟩ : ∃ k, d = k + 1 := ⟨d - 1, by omega⟩
    have hc := h c (by simp)
    rw [List.cons_append, until_step hc.2.2.2.2 (unit_byte hc.1 hc.2.1 hc.2.2.1 fun e => absurd e hc.2.2.2.1)]
    exact plain_skip hd y x fun c hc => h c (by simp [hc])
theorem nam_pl {c : UInt8} (h : isNam c = true ∨ isSpec c = true) : Pl c := by
  have : ∀ n : Nat, n < 256 → (isNam (UInt8.ofNat n) = true ∨ isSpec (UInt8.ofNat n) = true) → Pl (UInt8.ofNat n) := by
    unfold Pl
    decide +kernel
  have h2 := this c.toNat c.toNat_lt
  rw [UInt8.ofNat_toNat] at h2
  exact h2 h
theorem takeWhile_all {p : UInt8 → Bool} : ∀ {l : Txt}, (l.takeWhile p).length = l.length → ∀ c ∈ l, p c = true
  | [], _, c, h => by cases h
  | a :: l, h, c, hc => by
    by_cases ha : p a = true
    · rw [List.takeWhile_cons, if_pos ha] at h
      rcases List.mem_cons.1 hc with rfl | hc
      · exact ha
      · exact takeWhile_all (by simpa using h) c hc
    · rw [List.takeWhile_cons, if_neg ha] at h
      simp at h
theorem let_nam {c : UInt8} (h : isLet c = true) : isNam c = true := by simp [isNam, h]
theorem dig_spec {c : UInt8} (h : isDig c = true) : isSpec c = true := by simp [isSpec, h]
theorem name_forms {n : Txt} (h : NmOk n) : (∃ c r, n = c :: r ∧ isLet c = true ∧ ∀ a ∈ r, isNam a = true) ∨ (∃ c r, n = c :: r ∧ isLet c = false ∧ ∀ a ∈ c :: r, isDig a = true) ∨ (∃ c, n = [c] ∧ isLet c = false ∧ isDig c = false ∧ isSpec c = true) := by
  obtain ⟨h1, h2⟩ := h
  obtain ⟨c, r, rfl⟩ := List.exists_cons_of_ne_nil h1
  unfold paramN at h2
  by_cases hn : 0 < nameN (c :: r)
  · rw [if_pos hn] at h2
    simp only [nameN] at h2 hn
    by_cases hl : isLet c = true
    · rw [if_pos hl] at h2
      exact .inl ⟨c, r, rfl, hl, takeWhile_all (by simpa using h2)⟩
    · rw [if_neg hl] at hn
      omega
  · rw [if_neg hn] at h2
    have hl : isLet c = false := by
      simp only [nameN] at hn
      by_cases hl : isLet c = true
      · rw [if_pos hl] at hn; omega
      · simpa using hl
    by_cases hd : 0 < digN (c :: r)
    · rw [if_pos hd] at h2
      exact .inr (.inl ⟨c, r, rfl, hl, takeWhile_all h2⟩)
    · rw [if_neg hd] at h2
      simp only [specN] at h2
      split at h2
      · rename_i hs
        simp only [List.length_cons] at h2
        have : r = [] := List.eq_nil_of_length_eq_zero (by omega)
        subst this
        refine .inr (.inr ⟨c, rfl, hl, ?_, hs⟩)
        by_cases hdc : isDig c = true
        · exfalso
          apply hd
          unfold digN
          rw [List.takeWhile_cons, if_pos hdc]
          simp
        · simpa using hdc
      · simp at h2
theorem name_pl {n : Txt} (h : NmOk n) : ∀ c ∈ n, Pl c := by
  rcases name_forms h with ⟨c, r, rfl, h1, h2⟩ | ⟨c, r, rfl, h1, h2⟩ | ⟨c, rfl, h1, h2, h3⟩
  · intro a ha
    rcases List.mem_cons.1 ha with rfl | ha
    · exact nam_pl (.inl (let_nam h1))
    · exact nam_pl (.inl (h2 a ha))
  · exact fun a ha => nam_pl (.inr (dig_spec (h2 a ha)))
  · intro a ha
    obtain rfl := List.mem_singleton.1 ha
    exact nam_pl (.inr h3)
theorem takeWhile_stop {p : UInt8 → Bool} : ∀ {l : Txt} {r : Txt}, (∀ a ∈ l, p a = true) → (∀ c y, r = c :: y → p c = false) → ((l ++ r).takeWhile p).length = l.length
  | [], r, _, h => by
    cases r with
    | nil => rfl
    | cons c y => simp [h c y rfl]
  | a :: l, r, h, h2 => by
    rw [List.cons_append, List.takeWhile_cons, if_pos (h a (by simp)), List.length_cons, List.length_cons, takeWhile_stop (fun a ha => h a (by simp [ha])) h2]
theorem param_app {n r : Txt} (h : NmOk n) (hr : ∀ c y, r = c :: y → isNam c = false) : paramN (n ++ r) = n.length := by
  have hdig : ∀ c y, r = c :: y → isDig c = false := fun c y e => by
    have := hr c y e
    simp only [isNam, Bool.or_eq_false_iff] at this
    exact this.2
  rcases name_forms h with ⟨c, y, rfl, h1, h2⟩ | ⟨c, y, rfl, h1, h2⟩ | ⟨c, rfl, h1, h2, h3⟩
  · have e : nameN (c :: y ++ r) = (c :: y).length := by
      show nameN (c :: (y ++ r)) = _
      simp only [nameN, h1, if_true, List.length_cons]
      rw [takeWhile_stop h2 hr]
    unfold paramN
    rw [e, if_pos (by simp)]
  · have e0 : nameN (c :: y ++ r) = 0 := by
      show nameN (c :: (y ++ r)) = _
      simp only [nameN, h1, Bool.false_eq_true, if_false]
    have e : digN (c :: y ++ r) = (c :: y).length := takeWhile_stop h2 hdig
    unfold paramN
    rw [e0, e, if_neg (by omega), if_pos (by simp)]
  · have e0 : nameN ([c] ++ r) = 0 := by
      show nameN (c :: r) = _
      simp only [nameN, h1, Bool.false_eq_true, if_false]
    have e1 : digN ([c] ++ r) = 0 := by
      show ((c :: r).takeWhile isDig).length = 0
      rw [List.takeWhile_cons, if_neg (by simp [h2])]
      rfl
    have e : specN ([c] ++ r) = 1 := by
      show specN (c :: r) = 1
      simp only [specN, h3, if_true]
    unfold paramN
    rw [e0, e1, e, if_neg (by omega), if_neg (by omega)]
    rfl
theorem ops_head {o : Txt} (h : o ∈ opsL) : ∃ c y, o = c :: y ∧ isNam c = false ∧ ∀ a ∈ o, Pl a := by
  have : ∀ o ∈ opsL, ∃ c y, o = c :: y ∧ isNam c = false ∧ ∀ a ∈ o, Pl a := by
    unfold Pl
    intro o ho
    simp only [opsL, List.mem_cons, List.not_mem_nil, or_false] at ho
    rcases ho with rfl | rfl | rfl | rfl | rfl | rfl | rfl | rfl | rfl | rfl | rfl | rfl <;> exact ⟨_, _, rfl, by decide, by decide⟩
  exact this o h
theorem len_no : lenO ∉ opsL := by decide
theorem quote_ind {C : Txt → Prop} (h1 : ∀ t : Txt, 39 ∉ t → C t) (h2 : ∀ y t : Txt, 39 ∉ y → C t → C (y ++ 39 :: t)) : ∀ (n : Nat) (t : Txt), t.length < n → C t
  | 0, _, h => by omega
  | n + 1, t, h => by
    by_cases hm : (39 : UInt8) ∈ t
    · obtain ⟨y, z, rfl, hy⟩ := List.eq_append_cons_of_mem hm
      exact h2 y z hy (quote_ind h1 h2 n z (by simp only [List.length_append, List.length_cons] at h; omega))
    · exact h1 t hm
theorem flat_plain : ∀ {t : Txt}, (39 : UInt8) ∉ t → (t.flatMap fun b => if b = 39 then [39, 92, 39, 39] else [b]) = t
  | [], _ => rfl
  | c :: t, h => by
    simp only [List.mem_cons, not_or] at h
    rw [List.flatMap_cons, if_neg (fun e => h.1 e.symm), flat_plain h.2]
    rfl
theorem single_plain {t : Txt} (h : (39 : UInt8) ∉ t) : single t = 39 :: t ++ [39] := by
  unfold single
  rw [flat_plain h]
theorem single_cut {y t : Txt} (h : (39 : UInt8) ∉ y) : single (y ++ 39 :: t) = 39 :: y ++ 39 :: 92 :: 39 :: single t := by
  unfold single
  rw [List.flatMap_append, flat_plain h, List.flatMap_cons, if_pos rfl]
  simp
theorem quoteEnd_at : ∀ {y x : Txt}, (39 : UInt8) ∉ y → quoteEnd (y ++ 39 :: x) = some x
  | [], x, _ => by simp [quoteEnd]
  | c :: y, x, h => by
    simp only [List.mem_cons, not_or] at h
    simp only [List.cons_append, quoteEnd]
    rw [if_neg (fun e => h.1 e.symm)]
    exact quoteEnd_at h.2
theorem unit_quote {d : Nat} {y x : Txt} (h : (39 : UInt8) ∉ y) : unitD (d + 1) (39 :: (y ++ 39 :: x)) = some x := by
  show unitF (untilD d) (39 :: (y ++ 39 :: x)) = some x
  simp only [unitF]
  rw [if_neg (by decide), if_pos trivial]
  exact quoteEnd_at h
theorem unit_back {d : Nat} {c : UInt8} {x : Txt} : unitD (d + 1) (92 :: c :: x) = some x := rfl
theorem single_skip {d : Nat} (hd : 1 ≤ d) (x t : Txt) : untilD d 125 (single t ++ x) = untilD d 125 x := by
  obtain ⟨d, rfl⟩ : ∃ k, d = k + 1 := ⟨d - 1, by omega⟩
  refine quote_ind (C := fun t => untilD (d + 1) 125 (single t ++ x) = untilD (d + 1) 125 x) (fun t ht => ?_) (fun y t hy ih => ?_) _ t (Nat.lt_succ_self _)
  · rw [single_plain ht]
    simp only [List.cons_append, List.append_assoc, List.nil_append]
    exact until_step (by decide) (unit_quote ht)
  · rw [single_cut hy]
    simp only [List.cons_append, List.append_assoc]
    rw [until_step (by decide) (unit_quote hy), until_step (by decide) unit_back]
    exact ih
theorem bare_skip {d : Nat} (hd : 1 ≤ d) : ∀ (t x : Txt), Bare true t → NoD x → untilD d 125 (t ++ x) = untilD d 125 x
  | [], x, _, _ => rfl
  | c :: t, x, h, hx => by
    obtain ⟨d, rfl⟩ : ∃ k, d = k + 1 := ⟨d - 1, by omega⟩
    obtain ⟨⟨h1, h2, h3, h4⟩, h5, h6⟩ := h
    rw [List.cons_append, until_step (h4 rfl) (unit_byte h1 h2 h3 fun e a y hay => ?_)]
    · exact bare_skip hd t x h6 hx
    · cases t with
      | nil => exact (hx a y hay).2.2
      | cons b t =>
        injection hay with e1 _
        rw [← e1]
        exact (h5 e b t rfl).2.2
theorem noD_of {c : UInt8} {r : Txt} (h : c = 39 ∨ c = 34 ∨ c = 36 ∨ c = 125) : NoD (c :: r) := by
  intro a y e
  injection e with e1 _
  rw [← e1]
  rcases h with rfl | rfl | rfl | rfl <;> decide
theorem noD_nil : NoD [] := fun c y e => by cases e
theorem body_head {O : Nat → List Pt → Prop} {b : Bool} {M : Nat} {p : Pt} (h : VP O b M p) (hk : p.k ≠ 0) : ∃ r, body p = 36 :: r := by
  rcases h with h | h | h | h
  · exact absurd h.1 hk
  · unfold body
    rw [if_neg (by rw [h.1]; decide), if_neg (by rw [h.1]; decide), if_pos h.1]
    split <;> exact ⟨_, rfl⟩
  · unfold body
    rw [if_pos h.1]
    exact ⟨_, rfl⟩
  · unfold body
    rw [if_neg (by rw [h.1]; decide), if_pos h.1]
    exact ⟨_, rfl⟩
theorem pr_head {O : Nat → List Pt → Prop} {b : Bool} {M : Nat} {p : Pt} (h : VP O b M p) (hk : p.k ≠ 0 ∨ p.q = true) : ∃ c r, p.pr = c :: r ∧ (c = 39 ∨ c = 34 ∨ c = 36 ∨ c = 125) := by
  by_cases h0 : p.k = 0
  · have hq := hk.resolve_left (fun e => e h0)
    rw [pr_text p h0, if_pos hq]
    exact ⟨39, _, rfl, .inl rfl⟩
  · obtain ⟨r, hr⟩ := body_head h h0
    rw [pr_body p h0, wrapQ, hr]
    split
    · exact ⟨34, _, rfl, .inr (.inl rfl)⟩
    · exact ⟨36, _, rfl, .inr (.inr (.inl rfl))⟩
theorem pr_ne {O : Nat → List Pt → Prop} {b : Bool} {M : Nat} {p : Pt} (h : VP O b M p) : p.pr ≠ [] := by
  by_cases hk : p.k ≠ 0 ∨ p.q = true
  · obtain ⟨c, r, e, _⟩ := pr_head h hk
    rw [e]
    simp
  · simp only [not_or, Decidable.not_not, Bool.not_eq_true] at hk
    rw [pr_text p hk.1, hk.2, if_neg (by decide)]
    rcases h with h | h | h | h
    · exact (h.2.2.2.2.2 hk.2).1
    · rw [hk.1] at h; exact absurd h.1 (by decide)
    · rw [hk.1] at h; exact absurd h.1 (by decide)
    · rw [hk.1] at h; exact absurd h.1 (by decide)
theorem after {O : Nat → List Pt → Prop} {b : Bool} {M : Nat} {p : Pt} {r : List Pt} {z : Txt} (hn : Norm (p :: r)) (hr : ∀ x ∈ r, VP O b M x) (h0 : p.k = 0) (hq : p.q = false) (hz : NoD z) : NoD (prL r ++ z) := by
  cases r with
  | nil => exact hz
  | cons a r =>
    have h1 : ¬ Mg p a := hn.1
    have h2 : a.k ≠ 0 ∨ a.q = true := by
      by_cases ha : a.k = 0
      · right
        by_cases haq : a.q = true
        · exact haq
        · exact absurd ⟨ha, h0, by rw [hq]; simpa using haq⟩ h1
      · exact .inl ha
    obtain ⟨c, y, e, hc⟩ := pr_head (hr a (by simp)) h2
    simp only [prL, e, List.cons_append]
    exact noD_of hc
def LS (L : Nat) : Prop := ∀ (M : Nat) (l : List Pt) (z : Txt), OkL L true M l → ∀ d, M ≤ d → untilD d 125 (prL l ++ 125 :: z) = some z
theorem body_unit {L : Nat} (hL : LS L) {b : Bool} {M : Nat} {p : Pt} (h : VP (OkL L true) b M p) (hk : p.k ≠ 0) {d : Nat} (hd : M ≤ d + 1) (x : Txt) : unitD d (body p ++ x) = some x := by
  have two : ∀ {e : Nat} {r : Txt}, unitD (e + 1) (36 :: 123 :: r) = untilD e 125 r := fun {e r} => rfl
  have par : ∀ {e : Nat} {r : Txt}, unitD (e + 1) (36 :: 40 :: r) = untilD e 41 r := fun {e r} => rfl
  rcases h with h | h | h | h
  · exact absurd h.1 hk
  · obtain ⟨h1, h2, h3, h4, h5⟩ := h
    obtain ⟨d, rfl⟩ : ∃ k, d = k + 1 := ⟨d - 1, by omega⟩
    have hpl := name_pl h3
    unfold body
    rw [if_neg (by rw [h1]; decide), if_neg (by rw [h1]; decide), if_pos h1]
    have e125 : ∀ z : Txt, untilD d 125 (125 :: z) = some z := fun z => by rw [untilD_cons, if_pos rfl]
    have no : ∀ {o : Txt}, o ∈ opsL → o ≠ lenO := fun ho e => len_no (e ▸ ho)
    rcases h5 with ⟨hw, ho⟩ | ⟨ho, hw, _, _⟩
    · rcases ho with ho | ho
      · rw [ho, if_neg (by decide), hw]
        simp only [prL, List.append_nil, List.cons_append, List.nil_append, List.append_assoc]
        rw [two, plain_skip (by omega) _ _ hpl, e125]
      · rw [ho, if_pos rfl]
        simp only [List.cons_append, List.nil_append, List.append_assoc]
        rw [two]
        have := plain_skip (d := d) (by omega) (35 :: p.n) (125 :: x) (fun c hc => by
          rcases List.mem_cons.1 hc with rfl | hc
          · unfold Pl; decide
          · exact hpl c hc)
        rw [List.cons_append] at this
        rw [this, e125]
    · obtain ⟨c, y, e, _, hop⟩ := ops_head ho.1
      rw [if_neg (no ho.1)]
      simp only [List.cons_append, List.nil_append, List.append_assoc]
      rw [two, plain_skip (by omega) _ _ hpl, plain_skip (by omega) _ _ hop]
      exact hL (M - 2) p.w x hw d (by omega)
  · obtain ⟨h1, h2, h3, h4, h5, h6, h7⟩ := h
    obtain ⟨d, rfl⟩ : ∃ k, d = k + 1 := ⟨d - 1, by omega⟩
    unfold body
    rw [if_pos h1]
    simp only [List.cons_append, List.nil_append, List.append_assoc]
    rw [par]
    refine untilD_few (h5 x) ?_
    simp only [List.length_append, List.length_cons]
    omega
  · obtain ⟨h1, h2, h3, h4, h5, h6⟩ := h
    obtain ⟨d, rfl⟩ : ∃ k, d = k + 1 := ⟨d - 1, by omega⟩
    unfold body
    rw [if_neg (by rw [h1]; decide), if_pos h1]
    simp only [List.cons_append, List.nil_append, List.append_assoc]
    rw [par]
    refine untilD_few (h5 x) ?_
    simp only [List.length_append, List.length_cons]
    omega
theorem quoted_unit {L : Nat} (hL : LS L) {b : Bool} {M : Nat} {p : Pt} (h : VP (OkL L true) b M p) (hk : p.k ≠ 0) {d : Nat} (hd : M ≤ d) (x : Txt) : unitD d (34 :: (body p ++ 34 :: x)) = some x := by
  obtain ⟨r, hr⟩ := body_head h hk
  have hd1 : 1 ≤ d := by
    rcases h with h | h | h | h
    · exact absurd h.1 hk
    · have := h.2.2.2.1; omega
    · have := h.2.2.2.2.2.1; omega
    · have := h.2.2.2.2.2; omega
  obtain ⟨d, rfl⟩ : ∃ k, d = k + 1 := ⟨d - 1, by omega⟩
  show untilD d 34 (body p ++ 34 :: x) = some x
  have hu := body_unit hL h hk (d := d) (by omega) (34 :: x)
  rw [hr, List.cons_append] at hu ⊢
  rw [untilD_cons, if_neg (by decide), if_neg (fun e => absurd e.2 (by decide)), if_neg (fun e => absurd e.1 (by decide)), hu]
  show untilD d 34 (34 :: x) = some x
  rw [untilD_cons, if_pos rfl]
theorem part_skip {L : Nat} (hL : LS L) {M : Nat} {p : Pt} (h : VP (OkL L true) true M p) {d : Nat} (hd : M ≤ d) {x : Txt} (hx : p.k = 0 → p.q = false → NoD x) : untilD d 125 (p.pr ++ x) = untilD d 125 x := by
  by_cases h0 : p.k = 0
  · have hv : 1 ≤ M ∧ (p.q = false → p.t ≠ [] ∧ Bare true p.t) := by
      rcases h with h | h | h | h
      · exact h.2.2.2.2
      · rw [h0] at h; exact absurd h.1 (by decide)
      · rw [h0] at h; exact absurd h.1 (by decide)
      · rw [h0] at h; exact absurd h.1 (by decide)
    rw [pr_text p h0]
    by_cases hq : p.q = true
    · rw [if_pos hq]
      exact single_skip (by omega) _ _
    · have hq : p.q = false := by simpa using hq
      rw [hq, if_neg (by decide)]
      exact bare_skip (by omega) _ _ (hv.2 hq).2 (hx h0 hq)
  · rw [pr_body p h0, wrapQ]
    by_cases hq : p.q = true
    · rw [if_pos hq]
      simp only [List.cons_append, List.append_assoc, List.nil_append]
      exact until_step (by decide) (quoted_unit hL h h0 hd x)
    · rw [if_neg hq]
      have hu := body_unit hL h h0 (d := d) (by omega) x
      obtain ⟨r, hr⟩ := body_head h h0
      rw [hr, List.cons_append] at hu ⊢
      exact until_step (by decide) hu
theorem parts_skip {L : Nat} (hL : LS L) {M d : Nat} (hd : M ≤ d) {z : Txt} : ∀ {l : List Pt}, Norm l → (∀ p ∈ l, VP (OkL L true) true M p) → untilD d 125 (prL l ++ 125 :: z) = some z
  | [], _, _ => by
    show untilD d 125 (125 :: z) = some z
    rw [untilD_cons, if_pos rfl]
  | p :: l, hn, h => by
    have hl : ∀ x ∈ l, VP (OkL L true) true M x := fun x hx => h x (by simp [hx])
    simp only [prL, List.append_assoc]
    rw [part_skip hL (h p (by simp)) hd (fun h0 hq => after hn hl h0 hq (noD_of (.inr (.inr (.inr rfl)))))]
    exact parts_skip hL hd hn.tail hl
theorem skips : ∀ L, LS L
  | 0 => fun M l z h => by cases h
  | L + 1 => fun M l z h d hd => parts_skip (skips L) hd h.1 h.2
def run (P : Txt → Rs (List Pt)) (acc : List Pt) (s : Txt) : Rs (List Pt) := loopF (outOne P) (s.length + 1) acc s
theorem run_cons {P : Txt → Rs (List Pt)} {acc : List Pt} {c : UInt8} {r : Txt} {ps : List Pt} {n : Nat} (h : outOne P (c :: r) = .ok (ps, n)) : run P acc (c :: r) = run P (ps.foldl addP acc) ((c :: r).drop n) := by
  have h2 := outOne_takes P _ _ h
  show (outOne P (c :: r)).and (fun x => loopF (outOne P) (c :: r).length (x.1.foldl addP acc) ((c :: r).drop x.2)) = _
  rw [h]
  simp only [Rs.and]
  refine loopF_more (outOne_takes P) _ _ _ _ ?_ (Nat.lt_succ_self _)
  rw [List.length_drop]
  dsimp only at h2
  omega
theorem out_dollar (P : Txt → Rs (List Pt)) {r : Txt} (h : NoD r) : outOne P (36 :: r) = .ok ([tx false [36]], 1) := by
  have h1 : ¬ (r.head? = some 40 ∨ r.head? = some 123) := by
    cases r with
    | nil => simp
    | cons c y =>
      have := h c y rfl
      simp only [List.head?_cons, Option.some.injEq, not_or]
      exact this.2.2
  have h2 : nameN r = 0 ∧ specN r = 0 := by
    cases r with
    | nil => exact ⟨rfl, rfl⟩
    | cons c y =>
      have := h c y rfl
      simp [nameN, specN, this.1, this.2.1]
  simp only [outOne, if_true, dollarF, List.drop_succ_cons, List.drop_zero]
  rw [if_neg h1, h2.1, h2.2]
  rfl
theorem bare_run {P : Txt → Rs (List Pt)} {b : Bool} {x : Txt} (hx : NoD x) : ∀ (t a : Txt) (acc : List Pt), Bare b t → run P (addP acc (tx false a)) (t ++ x) = run P (addP acc (tx false (a ++ t))) x
  | [], a, acc, _ => by rw [List.append_nil, List.nil_append]
  | c :: t, a, acc, h => by
    obtain ⟨⟨h1, h2, h3, _⟩, h5, h6⟩ := h
    have one : outOne P (c :: (t ++ x)) = .ok ([tx false [c]], 1) := by
      by_cases hc : c = 36
      · subst hc
        refine out_dollar P ?_
        cases t with
        | nil => exact hx
        | cons b t =>
          intro d y e
          injection e with e1 _
          rw [← e1]
          exact h5 rfl b t rfl
      · simp only [outOne]
        rw [if_neg hc, if_neg (by simp [h1, h2, h3])]
    rw [List.cons_append, run_cons one]
    simp only [List.foldl_cons, List.foldl_nil, List.drop_succ_cons, List.drop_zero, addP_tx]
    rw [bare_run hx t (a ++ [c]) acc h6]
    simp
theorem bare_run0 {P : Txt → Rs (List Pt)} {b : Bool} {x : Txt} (hx : NoD x) {t : Txt} (acc : List Pt) (ht : t ≠ []) (h : Bare b t) : run P acc (t ++ x) = run P (addP acc (tx false t)) x := by
  obtain ⟨c, y, rfl⟩ := List.exists_cons_of_ne_nil ht
  obtain ⟨⟨h1, h2, h3, _⟩, h5, h6⟩ := h
  have one : outOne P (c :: (y ++ x)) = .ok ([tx false [c]], 1) := by
    by_cases hc : c = 36
    · subst hc
      refine out_dollar P ?_
      cases y with
      | nil => exact hx
      | cons b y =>
        intro d z e
        injection e with e1 _
        rw [← e1]
        exact h5 rfl b y rfl
    · simp only [outOne]
      rw [if_neg hc, if_neg (by simp [h1, h2, h3])]
  rw [List.cons_append, run_cons one]
  simp only [List.foldl_cons, List.foldl_nil, List.drop_succ_cons, List.drop_zero]
  rw [bare_run hx y [c] acc h6]
  rfl
theorem out_single {P : Txt → Rs (List Pt)} {y x : Txt} (h : (39 : UInt8) ∉ y) : outOne P (39 :: (y ++ 39 :: x)) = .ok ([tx true y], y.length + 2) := by
  simp only [outOne]
  rw [if_neg (by decide), if_pos (by decide), unit_quote h]
  simp only [List.length_append, List.length_cons]
  rw [if_neg (by decide), if_neg (by decide), show y.length + (x.length + 1) - x.length - 1 = y.length by omega, List.take_left, show y.length + (x.length + 1) + 1 - x.length = y.length + 2 by omega]
theorem single_run {P : Txt → Rs (List Pt)} {x : Txt} (t : Txt) : ∀ acc : List Pt, run P acc (single t ++ x) = run P (addP acc (tx true t)) x := by
  refine quote_ind (C := fun t => ∀ acc : List Pt, run P acc (single t ++ x) = run P (addP acc (tx true t)) x) (fun t ht acc => ?_) (fun y t hy ih acc => ?_) _ t (Nat.lt_succ_self _)
  · rw [single_plain ht]
    simp only [List.cons_append, List.append_assoc, List.nil_append]
    rw [run_cons (out_single ht)]
    have e : (39 :: (t ++ 39 :: x)).drop (t.length + 2) = x := by
      simp
    rw [e]
    rfl
  · rw [single_cut hy]
    simp only [List.cons_append, List.append_assoc]
    rw [run_cons (out_single hy)]
    have e : (39 :: (y ++ 39 :: 92 :: 39 :: (single t ++ x))).drop (y.length + 2) = 92 :: 39 :: (single t ++ x) := by
      simp
    rw [e]
    have h2 : outOne P (92 :: 39 :: (single t ++ x)) = .ok ([tx true [39]], 2) := by
      simp only [outOne]
      rw [if_neg (by decide), if_pos (by decide), show unitD 30 (92 :: 39 :: (single t ++ x)) = some (single t ++ x) from unit_back]
      rfl
    rw [run_cons h2]
    simp only [List.foldl_cons, List.foldl_nil, List.drop_succ_cons, List.drop_zero, addP_tx]
    rw [ih, addP_tx]
    simp
theorem op_back {n o y : Txt} {w : List Pt} (h : OpOk n o w) (hy : y.head? = some 37 → hd w = some 37) (hy2 : y.head? = some 35 → hd w = some 35) : opOf (o ++ y) = o := by
  obtain ⟨h1, h2, h3, _, _⟩ := h
  simp only [opsL, List.mem_cons, List.not_mem_nil, or_false] at h1
  have pfc : ∀ (a : UInt8) (r : Txt), pf [a] (a :: r) = true := fun a r => by simp [pf]
  have pfo : ∀ (a c : UInt8) (r : Txt), a ≠ c → pf [a] (c :: r) = false := fun a c r h => by simp [pf, Ne.symm h]
  have pff : ∀ (a b c : UInt8) (r : Txt), a ≠ c → pf [a, b] (c :: r) = false := fun a b c r h => by
    simp only [pf, decide_eq_false_iff_not]
    rintro ⟨_, e⟩
    simp only [List.length_cons, List.take_succ_cons] at e
    injection e with e _
    exact h e.symm
  have pft : ∀ (a b : UInt8) (r : Txt), pf [a, b] (a :: b :: r) = true := fun a b r => by simp [pf]
  have pfn : ∀ (a b : UInt8) (r : Txt), r.head? ≠ some b → pf [a, b] (a :: r) = false := fun a b r h => by
    cases r with
    | nil => simp [pf]
    | cons c r =>
      simp only [pf, decide_eq_false_iff_not]
      rintro ⟨_, e⟩
      simp only [List.length_cons, List.length_nil, List.take_succ_cons, List.take_zero] at e
      injection e with _ e
      injection e with e _
      exact h (by rw [e]; rfl)
  have pfs : ∀ (a b c : UInt8) (r : Txt), b ≠ c → pf [a, b] (a :: c :: r) = false := fun a b c r h => pfn a b (c :: r) (by simp [Ne.symm h])
  unfold opOf
  rcases h1 with rfl | rfl | rfl | rfl | rfl | rfl | rfl | rfl | rfl | rfl | rfl | rfl
  · simp [opsL, pft]
  · simp [opsL, List.find?_cons, pft, pfs]
  · simp [opsL, List.find?_cons, pft, pfs]
  · simp [opsL, List.find?_cons, pft, pfs]
  · simp [opsL, List.find?_cons, pft, pff]
  · simp [opsL, List.find?_cons, pft, pff]
  · simp [opsL, List.find?_cons, pfc, pff, pfo]
  · simp [opsL, List.find?_cons, pfc, pff, pfo]
  · simp [opsL, List.find?_cons, pfc, pff, pfo]
  · simp [opsL, List.find?_cons, pfc, pff, pfo]
  · have := pfn 37 37 y (fun e => h2 rfl (hy e))
    simp [opsL, List.find?_cons, pfc, pff, pfo, this]
  · have := pfn 35 35 y (fun e => h3 rfl (hy2 e))
    simp [opsL, List.find?_cons, pfc, pff, pfo, this]
theorem prL_head {O : Nat → List Pt → Prop} {b : Bool} {M : Nat} {w : List Pt} (h : ∀ p ∈ w, VP O b M p) {c : UInt8} (hc : c = 37 ∨ c = 35) (hh : (prL w).head? = some c) : hd w = some c := by
  cases w with
  | nil => cases hh
  | cons p r =>
    by_cases hk : p.k ≠ 0 ∨ p.q = true
    · obtain ⟨a, y, e, ha⟩ := pr_head (h p (by simp)) hk
      simp only [prL, e, List.cons_append, List.head?_cons, Option.some.injEq] at hh
      subst hh
      rcases hc with rfl | rfl <;> (exfalso; revert ha; decide)
    · have hne := pr_ne (h p (by simp))
      simp only [not_or, Decidable.not_not, Bool.not_eq_true] at hk
      rw [pr_text p hk.1, hk.2, if_neg (by decide)] at hne
      simp only [prL, pr_text p hk.1, hk.2, Bool.false_eq_true, if_false, head_app hne] at hh
      simp only [hd, hk, and_self, if_true]
      exact hh
def inn (p : Pt) : Txt := if p.o = lenO then 35 :: p.n else p.n ++ (p.o ++ prL p.w)
theorem body1 {p : Pt} (h : p.k = 1) : body p = 36 :: 123 :: (inn p ++ [125]) := by
  unfold body inn
  rw [if_neg (by rw [h]; decide), if_neg (by rw [h]; decide), if_pos h]
  split <;> simp
theorem param_one {c : UInt8} {r : Txt} (h1 : isLet c = false) (h2 : isDig c = false) : paramN (c :: r) = if isSpec c = true then 1 else 0 := by
  have e0 : nameN (c :: r) = 0 := by simp only [nameN, h1, Bool.false_eq_true, if_false]
  have e1 : digN (c :: r) = 0 := by
    show ((c :: r).takeWhile isDig).length = 0
    rw [List.takeWhile_cons, if_neg (by simp [h2])]
    rfl
  unfold paramN
  rw [e0, e1, if_neg (by omega), if_neg (by omega)]
  rfl
theorem name_hash {n : Txt} (h : NmOk n) (hh : n.head? = some 35) : n = [35] := by
  rcases name_forms h with ⟨c, r, rfl, h1, h2⟩ | ⟨c, r, rfl, h1, h2⟩ | ⟨c, rfl, h1, h2, h3⟩
  · obtain rfl : c = 35 := by simpa using hh
    exact absurd h1 (by decide)
  · obtain rfl : c = 35 := by simpa using hh
    exact absurd (h2 35 (by simp)) (by decide)
  · obtain rfl : c = 35 := by simpa using hh
    rfl
theorem braces_back {L : Nat} {P : Txt → Rs (List Pt)} (hP : ∀ m w, OkL L true m w → m ≤ 30 → P (prL w) = .ok w) {b : Bool} {M : Nat} {p : Pt} (h : VP (OkL L true) b M p) (hk : p.k = 1) (hM : M ≤ 32) : bracesF P p.q (inn p) = .ok p := by
  rcases h with h | h | h | h
  · rw [h.1] at hk; exact absurd hk (by decide)
  rotate_left
  · rw [h.1] at hk; exact absurd hk (by decide)
  · rw [h.1] at hk; exact absurd hk (by decide)
  obtain ⟨h1, h2, h3, h4, h5⟩ := h
  have hne := h3.1
  have hlen : 0 < p.n.length := List.length_pos_iff.2 hne
  have hp : p = .mk 1 p.q [] p.n p.o p.w := by
    rw [← h1, ← h2]
    exact (Pt.eta p).symm
  have no1 : ¬ (1 < p.n.length ∧ p.n.head? = some 35 ∧ paramN (p.n.drop 1) = p.n.length - 1) := by
    rintro ⟨e1, e2, _⟩
    rw [name_hash h3 e2] at e1
    exact absurd e1 (by decide)
  rcases h5 with ⟨hw, ho | ho⟩ | ⟨ho, hw, hh, hqd⟩
  · have hi : inn p = p.n := by
      unfold inn
      rw [ho, if_neg (by decide), hw]
      simp [prL]
    rw [hi]
    unfold bracesF
    rw [if_neg no1, h3.2, if_neg (by omega), List.drop_length, if_pos rfl, List.take_length]
    rw [hw, ho] at hp
    exact congrArg Rs.ok hp.symm
  · have hi : inn p = 35 :: p.n := by
      unfold inn
      rw [ho, if_pos rfl]
    rw [hi]
    unfold bracesF
    rw [if_pos ⟨by simp only [List.length_cons]; omega, rfl, by rw [List.drop_succ_cons, List.drop_zero, h3.2, List.length_cons]; omega⟩, List.drop_succ_cons, List.drop_zero]
    rw [hw, ho] at hp
    exact congrArg Rs.ok hp.symm
  · obtain ⟨L, rfl⟩ : ∃ k, L = k + 1 := by
      cases L with
      | zero => cases hw
      | succ k => exact ⟨k, rfl⟩
    obtain ⟨c, y, eo, hc, _⟩ := ops_head ho.1
    have hi : inn p = p.n ++ (p.o ++ prL p.w) := by
      unfold inn
      rw [if_neg (show ¬ p.o = lenO from fun e => len_no (e ▸ ho.1))]
    have hpar : paramN (p.n ++ (p.o ++ prL p.w)) = p.n.length := param_app h3 fun a z e => by
      rw [eo] at e
      injection e with e _
      rw [← e]
      exact hc
    have hop : opOf (p.o ++ prL p.w) = p.o := op_back ho (fun e => prL_head hw.2 (.inl rfl) e) (fun e => prL_head hw.2 (.inr rfl) e)
    have no2 : ¬ (1 < (p.n ++ (p.o ++ prL p.w)).length ∧ (p.n ++ (p.o ++ prL p.w)).head? = some 35 ∧ paramN ((p.n ++ (p.o ++ prL p.w)).drop 1) = (p.n ++ (p.o ++ prL p.w)).length - 1) := by
      rintro ⟨_, e2, e3⟩
      rw [head_app hne] at e2
      have en := name_hash h3 e2
      rw [en] at e3
      simp only [List.cons_append, List.nil_append, List.drop_succ_cons, List.drop_zero, List.length_cons, Nat.add_sub_cancel] at e3
      have hin := ho.1
      have h4' := ho.2.2.2.1 en
      simp only [opsL, List.mem_cons, List.not_mem_nil, or_false] at hin
      have wne : (o : Txt) → p.o = o → o = [63] ∨ o = [35] → (p.o ++ prL p.w).length = 1 → False := by
        intro o e1 e2 e4
        have hw0 := h4' (e1 ▸ e2)
        obtain ⟨a, r, er⟩ := List.exists_cons_of_ne_nil hw0
        have := pr_ne (hw.2 a (by rw [er]; simp))
        have hl : 0 < a.pr.length := List.length_pos_iff.2 this
        rw [er] at e4
        have ol : p.o.length = 1 := by rw [e1]; rcases e2 with rfl | rfl <;> rfl
        simp only [prL, List.length_append] at e4
        omega
      rcases hin with e | e | e | e | e | e | e | e | e | e | e | e
      all_goals (rw [e] at e3; rw [List.cons_append, param_one (by decide) (by decide)] at e3)
      all_goals first
        | (rw [if_neg (by decide)] at e3; simp at e3)
        | (rw [if_pos (by decide)] at e3; simp only [List.cons_append, List.nil_append, List.length_cons] at e3; omega)
        | exact wne _ e (by decide) (by rw [e]; rw [if_pos (by decide)] at e3; exact e3.symm)
    have ne1 : ¬ (p.o ++ prL p.w) = [] := by rw [eo]; simp
    have ne2 : ¬ (p.o = [] ∨ ((p.o = [61] ∨ p.o = [58, 61]) ∧ nameN p.n = 0)) := by
      rintro (e | ⟨e, e2⟩)
      · rw [eo] at e; cases e
      · exact ho.2.2.2.2 e e2
    rw [hi]
    unfold bracesF
    rw [if_neg no2, hpar, if_neg (by omega), List.drop_left, if_neg ne1, List.take_left, hop, if_neg ne2, List.drop_left, hP _ _ hw (by omega)]
    simp only [Rs.and]
    rw [if_neg (by rw [hh]; decide)]
    have e : (if p.q = true then qdL [] p.w else p.w) = p.w := by
      split
      · rename_i hq
        exact hqd hq
      · rfl
    rw [e]
    exact congrArg Rs.ok hp.symm
theorem dollar_back {L : Nat} {P : Txt → Rs (List Pt)} (hP : ∀ m w, OkL L true m w → m ≤ 30 → P (prL w) = .ok w) {b : Bool} {M : Nat} {p : Pt} (h : VP (OkL L true) b M p) (hk : p.k ≠ 0) (hM : M ≤ 30) (x : Txt) : dollarF P p.q (body p ++ x) = .ok (p, (body p).length) := by
  have hu := body_unit (skips L) h hk (d := 30) (by omega) x
  have h' := h
  rcases h with h | h | h | h
  · exact absurd h.1 hk
  · rw [body1 h.1] at hu ⊢
    simp only [List.cons_append, List.append_assoc, List.nil_append] at hu ⊢
    unfold dollarF
    simp only [List.drop_succ_cons, List.drop_zero, List.head?_cons]
    rw [if_pos (.inr trivial), hu]
    simp only [if_true, List.length_cons, List.length_append, List.length_nil]
    rw [show (inn p).length + (x.length + 1) + 1 + 1 - x.length - 3 = (inn p).length by omega, List.take_left, braces_back hP h' h.1 (by omega)]
    simp only [Rs.and]
    rw [show (inn p).length + (x.length + 1) + 1 + 1 - x.length = (inn p).length + (0 + 1) + 1 + 1 by omega]
  · obtain ⟨h1, h2, h3, h4, h5, h6, h7⟩ := h
    have eb : body p = 36 :: 40 :: (p.t ++ [41]) := by
      unfold body
      rw [if_pos h1]
      simp
    have hp : p = .mk 2 p.q p.t [] [] [] := by
      conv => lhs; rw [← Pt.eta p, h1, h2, h3, h4]
    rw [eb] at hu ⊢
    simp only [List.cons_append, List.append_assoc, List.nil_append] at hu ⊢
    unfold dollarF
    simp only [List.drop_succ_cons, List.drop_zero, List.head?_cons]
    rw [if_pos (.inl trivial), hu]
    simp only [List.length_cons, List.length_append, List.length_nil]
    rw [if_neg (by decide), show p.t.length + (x.length + 1) + 1 + 1 - x.length = p.t.length + 3 by omega, if_neg ?_]
    · rw [show p.t.length + 3 - 3 = p.t.length by omega, List.take_left]
      rw [show p.t.length + 3 = p.t.length + (0 + 1) + 1 + 1 by omega]
      conv => rhs; rw [hp]
      rfl
    · rintro ⟨e1, e2, e3⟩
      refine h7 ⟨by omega, ?_, ?_⟩
      · have : (36 :: 40 :: p.t ++ [41])[2]? = (36 :: 40 :: (p.t ++ 41 :: x))[2]? := by
          show (36 :: 40 :: p.t ++ [41])[2]? = (36 :: 40 :: p.t ++ ([41] ++ x))[2]?
          rw [← List.append_assoc, List.getElem?_append_left (l₂ := x)]
          simp only [List.length_append, List.length_cons, List.length_nil]
          omega
        rw [this]
        exact e2
      · have : (36 :: 40 :: p.t ++ [41])[p.t.length + 1]? = (36 :: 40 :: (p.t ++ 41 :: x))[p.t.length + 1]? := by
          show (36 :: 40 :: p.t ++ [41])[p.t.length + 1]? = (36 :: 40 :: p.t ++ ([41] ++ x))[p.t.length + 1]?
          rw [← List.append_assoc, List.getElem?_append_left (l₂ := x)]
          simp only [List.length_append, List.length_cons, List.length_nil]
          omega
        rw [this]
        exact e3
  · obtain ⟨h1, h2, h3, h4, h5, h6⟩ := h
    have eb : body p = 36 :: 40 :: 40 :: (p.t ++ [41, 41]) := by
      unfold body
      rw [if_neg (by rw [h1]; decide), if_pos h1]
      simp
    have hp : p = .mk 3 p.q p.t [] [] [] := by
      conv => lhs; rw [← Pt.eta p, h1, h2, h3, h4]
    rw [eb] at hu ⊢
    simp only [List.cons_append, List.append_assoc, List.nil_append] at hu ⊢
    unfold dollarF
    simp only [List.drop_succ_cons, List.drop_zero, List.head?_cons]
    rw [if_pos (.inl trivial), hu]
    simp only [List.length_cons, List.length_append, List.length_nil]
    rw [if_neg (by decide), show p.t.length + (x.length + 1 + 1) + 1 + 1 + 1 - x.length = p.t.length + 5 by omega, if_pos ?_]
    · rw [show p.t.length + 5 - 5 = p.t.length by omega, List.take_left]
      rw [show p.t.length + 5 = p.t.length + (0 + 1 + 1) + 1 + 1 + 1 by omega]
      conv => rhs; rw [hp]
      rfl
    · refine ⟨by omega, rfl, ?_⟩
      rw [show p.t.length + 5 - 2 = (36 :: 40 :: 40 :: p.t).length by simp only [List.length_cons]; omega]
      show (36 :: 40 :: 40 :: p.t ++ 41 :: 41 :: x)[_]? = _
      rw [List.getElem?_append_right (Nat.le_refl _), Nat.sub_self]
      rfl
theorem dbl_back {L : Nat} {P : Txt → Rs (List Pt)} (hP : ∀ m w, OkL L true m w → m ≤ 30 → P (prL w) = .ok w) {b : Bool} {M : Nat} {p : Pt} (h : VP (OkL L true) b M p) (hk : p.k ≠ 0) (hq : p.q = true) (hM : M ≤ 30) : dblF P (body p) = .ok [p] := by
  have hd := dollar_back hP h hk hM []
  rw [List.append_nil, hq] at hd
  obtain ⟨r, hr⟩ := body_head h hk
  rw [hr] at hd ⊢
  unfold dblF
  rw [if_neg (by simp)]
  show (dblOne P (36 :: r)).and (fun x => loopF (dblOne P) (36 :: r).length (x.1.foldl addP []) ((36 :: r).drop x.2)) = _
  simp only [dblOne, if_true, hd, Rs.and, List.foldl_cons, List.foldl_nil]
  rw [List.drop_length]
  rfl
theorem part_run {L : Nat} {P : Txt → Rs (List Pt)} (hP : ∀ m w, OkL L true m w → m ≤ 30 → P (prL w) = .ok w) {b : Bool} {M : Nat} {p : Pt} (h : VP (OkL L true) b M p) (hM : M ≤ 30) (acc : List Pt) {x : Txt} (hx : p.k = 0 → p.q = false → NoD x) : run P acc (p.pr ++ x) = run P (addP acc p) x := by
  by_cases h0 : p.k = 0
  · have hv : p.n = [] ∧ p.o = [] ∧ p.w = [] ∧ 1 ≤ M ∧ (p.q = false → p.t ≠ [] ∧ Bare b p.t) := by
      rcases h with h | h | h | h
      · exact h.2
      · rw [h0] at h; exact absurd h.1 (by decide)
      · rw [h0] at h; exact absurd h.1 (by decide)
      · rw [h0] at h; exact absurd h.1 (by decide)
    have hp : p = tx p.q p.t := by
      unfold tx
      conv => lhs; rw [← Pt.eta p, h0, hv.1, hv.2.1, hv.2.2.1]
    rw [pr_text p h0]
    by_cases hq : p.q = true
    · rw [if_pos hq, single_run]
      rw [hq] at hp
      rw [← hp]
    · have hq : p.q = false := by simpa using hq
      rw [hq, if_neg (by decide), bare_run0 (hx h0 hq) acc (hv.2.2.2.2 hq).1 (hv.2.2.2.2 hq).2]
      rw [hq] at hp
      rw [← hp]
  · obtain ⟨r, hr⟩ := body_head h h0
    rw [pr_body p h0, wrapQ]
    by_cases hq : p.q = true
    · rw [if_pos hq]
      simp only [List.cons_append, List.append_assoc, List.nil_append]
      have hu := quoted_unit (skips L) h h0 (d := 30) (by omega) x
      have hone : outOne P (34 :: (body p ++ 34 :: x)) = .ok ([p], (body p).length + 2) := by
        simp only [outOne]
        rw [if_neg (by decide), if_pos (by decide), hu]
        simp only [List.length_append, List.length_cons]
        rw [if_neg (by decide), if_pos trivial, show (body p).length + (x.length + 1) - x.length - 1 = (body p).length by omega, List.take_left, dbl_back hP h h0 hq hM]
        simp only [Rs.and]
        rw [show (body p).length + (x.length + 1) + 1 - x.length = (body p).length + 2 by omega]
      rw [run_cons hone]
      have e : (34 :: (body p ++ 34 :: x)).drop ((body p).length + 2) = x := by
        simp
      rw [e]
      rfl
    · have hq : p.q = false := by simpa using hq
      rw [hq, if_neg (by decide)]
      have hd := dollar_back hP h h0 hM x
      rw [hq] at hd
      have e : (body p ++ x).drop (body p).length = x := List.drop_left
      rw [hr] at hd e ⊢
      rw [List.cons_append] at hd e ⊢
      have hone : outOne P (36 :: (r ++ x)) = .ok ([p], (36 :: r).length) := by
        simp only [outOne, if_true, hd, Rs.and]
      rw [run_cons hone, e]
      rfl
theorem parts_run {L : Nat} {P : Txt → Rs (List Pt)} (hP : ∀ m w, OkL L true m w → m ≤ 30 → P (prL w) = .ok w) {b : Bool} {M : Nat} (hM : M ≤ 30) : ∀ {l : List Pt} (acc : List Pt), Norm l → (∀ p ∈ l, VP (OkL L true) b M p) → run P acc (prL l) = .ok (l.foldl addP acc)
  | [], acc, _, _ => rfl
  | p :: l, acc, hn, h => by
    have hl : ∀ x ∈ l, VP (OkL L true) b M x := fun x hx => h x (by simp [hx])
    have ha := fun h0 hq => after (z := []) hn hl h0 hq noD_nil
    rw [List.append_nil] at ha
    simp only [prL]
    rw [part_run hP (h p (by simp)) hM acc ha]
    exact parts_run hP hM _ hn.tail hl
theorem back_ok : ∀ (L : Nat) {b : Bool} {M : Nat} {l : List Pt}, OkL L b M l → M ≤ 30 → wpL L (prL l) = .ok l
  | 0, _, _, _, h, _ => by cases h
  | L + 1, b, M, l, h, hM => by
    have := parts_run (P := wpL L) (fun m w hw hm => back_ok L hw hm) hM [] h.1 h.2
    rw [fold_norm (by simpa using h.1)] at this
    exact this
theorem tw_twice {p : UInt8 → Bool} (l : Txt) : (l.takeWhile p).takeWhile p = l.takeWhile p := by
  induction l with
  | nil => rfl
  | cons a l ih =>
    by_cases h : p a = true
    · rw [List.takeWhile_cons, if_pos h, List.takeWhile_cons, if_pos h, ih]
    · rw [List.takeWhile_cons, if_neg h]
      rfl
theorem tw_take {p : UInt8 → Bool} (l : Txt) : l.take (l.takeWhile p).length = l.takeWhile p := (List.prefix_iff_eq_take.1 (List.takeWhile_prefix _)).symm
theorem param_name {s : Txt} (h : 0 < nameN s) : NmOk (s.take (nameN s)) := by
  cases s with
  | nil => simp [nameN] at h
  | cons c r =>
    simp only [nameN] at h ⊢
    by_cases hl : isLet c = true
    · rw [if_pos hl, List.take_succ_cons, tw_take]
      refine ⟨by simp, ?_⟩
      have : nameN (c :: r.takeWhile isNam) = (r.takeWhile isNam).length + 1 := by
        simp only [nameN, hl, if_true, tw_twice]
      unfold paramN
      rw [this, if_pos (by omega)]
      rfl
    · rw [if_neg hl] at h
      omega
theorem param_spec1 {c : UInt8} (h1 : isLet c = false) (h2 : isSpec c = true) : NmOk [c] := by
  refine ⟨by simp, ?_⟩
  have e0 : nameN [c] = 0 := by simp only [nameN, h1, Bool.false_eq_true, if_false]
  unfold paramN
  rw [e0, if_neg (by omega)]
  by_cases hd : isDig c = true
  · have : digN [c] = 1 := by simp [digN, hd]
    rw [this]
    rfl
  · have : digN [c] = 0 := by simp [digN, hd]
    rw [this, if_neg (by omega)]
    simp only [specN, h2, if_true]
    rfl
theorem param_take {s : Txt} (h : paramN s ≠ 0) : NmOk (s.take (paramN s)) := by
  by_cases hn : 0 < nameN s
  · have e : paramN s = nameN s := by unfold paramN; rw [if_pos hn]
    rw [e]
    exact param_name hn
  · cases s with
    | nil => exact absurd rfl h
    | cons c r =>
      have hl : isLet c = false := by
        simp only [nameN] at hn
        by_cases hl : isLet c = true
        · rw [if_pos hl] at hn; omega
        · simpa using hl
      by_cases hd : 0 < digN (c :: r)
      · have e : paramN (c :: r) = digN (c :: r) := by unfold paramN; rw [if_neg hn, if_pos hd]
        rw [e]
        have et : (c :: r).take (digN (c :: r)) = (c :: r).takeWhile isDig := tw_take _
        rw [et]
        have hne : (c :: r).takeWhile isDig ≠ [] := List.length_pos_iff.1 hd
        refine ⟨hne, ?_⟩
        have e1 : digN ((c :: r).takeWhile isDig) = ((c :: r).takeWhile isDig).length := by unfold digN; rw [tw_twice]
        have e0 : nameN ((c :: r).takeWhile isDig) = 0 := by
          rw [List.takeWhile_cons]
          split
          · simp only [nameN, hl, Bool.false_eq_true, if_false]
          · rfl
        unfold paramN
        rw [e0, e1, if_neg (by omega), if_pos (List.length_pos_iff.2 hne)]
      · have e : paramN (c :: r) = specN (c :: r) := by unfold paramN; rw [if_neg hn, if_neg hd]
        rw [e] at h ⊢
        simp only [specN] at h ⊢
        by_cases hs : isSpec c = true
        · rw [if_pos hs]
          exact param_spec1 hl hs
        · rw [if_neg hs] at h
          exact absurd rfl h
theorem until_split {d : Nat} {e : UInt8} : ∀ (n : Nat) (s t : Txt), s.length < n → untilD d e s = some t → ∃ y, s = y ++ e :: t
  | 0, s, _, h, _ => by omega
  | n + 1, [], t, _, h => by rw [untilD_nil] at h; cases h
  | n + 1, c :: r, t, hn, h => by
    simp only [List.length_cons] at hn
    rw [untilD_cons] at h
    by_cases hc : c = e
    · rw [if_pos hc] at h
      obtain rfl := Option.some.inj h
      exact ⟨[], by rw [hc]; rfl⟩
    · rw [if_neg hc] at h
      have go : ∀ (u : Txt), u <:+ (c :: r) → u.length < n → untilD d e u = some t → ∃ y, c :: r = y ++ e :: t := by
        intro u hu hl h
        obtain ⟨y, rfl⟩ := until_split n u t hl h
        obtain ⟨z, hz⟩ := hu
        exact ⟨z ++ y, by rw [← hz, List.append_assoc]⟩
      split at h
      · split at h
        · cases h
        · exact go r (List.suffix_cons _ _) (by omega) h
      · split at h
        · split at h
          · cases h
          · obtain ⟨u, h1, h2⟩ := Option.bind_eq_some_iff.1 h
            have := untilD_takes _ _ _ _ h1
            exact go u ((untilD_ends _ _ _ _ h1).trans (List.suffix_cons _ _)) (by omega) h2
        · obtain ⟨u, h1, h2⟩ := Option.bind_eq_some_iff.1 h
          have := unitD_takes _ _ _ h1
          simp only [List.length_cons] at this
          exact go u (unitD_ends _ _ _ h1) (by omega) h2
theorem inside {D : Nat} {c : UInt8} {r x : Txt} (h : untilD D 125 (c :: r ++ 125 :: x) = some x) : c ≠ 125 ∧ ∃ u, unitD D (c :: r) = some u ∧ untilD D 125 (u ++ 125 :: x) = some x := by
  rw [List.cons_append, untilD_cons] at h
  by_cases hc : c = 125
  · exfalso
    rw [if_pos hc] at h
    have := congrArg List.length (Option.some.inj h)
    simp only [List.length_append, List.length_cons] at this
    omega
  · rw [if_neg hc, if_neg (fun e => absurd e.1 (by decide)), if_neg (fun e => absurd e.1 (by decide))] at h
    refine ⟨hc, ?_⟩
    obtain ⟨u0, h1, h2⟩ := Option.bind_eq_some_iff.1 h
    have hl := untilD_takes _ _ _ _ h2
    have hs := unitD_ends _ _ _ h1
    have hs2 : 125 :: x <:+ u0 := List.suffix_of_suffix_length_le (l₃ := c :: (r ++ 125 :: x)) ⟨c :: r, rfl⟩ hs (by simp only [List.length_cons]; omega)
    obtain ⟨u, rfl⟩ := hs2
    obtain ⟨z, hz⟩ := hs
    have hz2 : z ++ u = c :: r := by
      have e : (z ++ u) ++ 125 :: x = (c :: r) ++ 125 :: x := by rw [List.append_assoc]; exact hz
      exact List.append_cancel_right e
    refine ⟨u, ?_, h2⟩
    rw [← hz] at h1
    rw [← hz2]
    exact (lev_loc D).1 z (u ++ 125 :: x) u (fun c' r' e _ => ⟨r' ++ 125 :: x, by rw [e]; rfl⟩) h1
theorem addP_ne (l : List Pt) (p : Pt) : addP l p ≠ [] := by
  by_cases h : l = []
  · subst h; simp [addP_nil]
  · obtain ⟨m, x, rfl⟩ := snoc_of h
    rw [addP_snoc]
    split <;> simp
theorem fold_ne : ∀ (ps l : List Pt), l ≠ [] → ps.foldl addP l ≠ []
  | [], l, h => h
  | p :: ps, l, _ => fold_ne ps _ (addP_ne l p)
theorem fold_ne' {ps l : List Pt} (h : ps ≠ []) : ps.foldl addP l ≠ [] := by
  cases ps with
  | nil => exact absurd rfl h
  | cons p ps => exact fold_ne ps _ (addP_ne l p)
theorem qdL_ne {w : List Pt} (h : w ≠ []) : qdL [] w ≠ [] := by
  rw [qdL_fold]
  exact fold_ne' (by simpa using h)
theorem qdL_q (w : List Pt) : ∀ p ∈ qdL [] w, p.q = true := by
  rw [qdL_fold]
  refine all_fold (V := fun p => p.q = true) (fun x p hx _ _ => hx) (by simp) fun p hp => ?_
  obtain ⟨x, _, rfl⟩ := List.mem_map.1 hp
  exact x.qd_q
theorem hd_quoted {w : List Pt} (h : ∀ p ∈ w, p.q = true) : hd w = none := by
  cases w with
  | nil => rfl
  | cons p w =>
    exact if_neg (fun (e : p.k = 0 ∧ p.q = false) => by rw [h p (by simp)] at e; exact absurd e.2 (by decide))
theorem hasL_none {l : List Pt} : hasL l = false ↔ ∀ p ∈ l, p.has = false := by
  rw [← Bool.not_eq_true, hasL_mem]
  constructor
  · intro h p hp
    by_cases hh : p.has = true
    · exact absurd ⟨p, hp, hh⟩ h
    · simpa using hh
  · rintro h ⟨p, hp, hh⟩
    rw [h p hp] at hh
    cases hh
theorem Pt.has_eq (p : Pt) : p.has = (decide (p.k = 2) || hasL p.w) := by
  cases p
  simp only [Pt.has, Pt.k, Pt.w]
  rfl
theorem hasL_qd : ∀ (n : Nat) (l : List Pt), SizeOf.sizeOf l < n → hasL l = false → hasL (qdL [] l) = false
  | 0, _, h, _ => by omega
  | n + 1, l, hn, h => by
    rw [hasL_none] at h ⊢
    rw [qdL_fold]
    refine all_fold (V := fun p => p.has = false) (fun x p hx _ _ => ?_) (by simp) fun p hp => ?_
    · rw [Pt.has_eq] at hx ⊢
      exact hx
    · obtain ⟨x, hx, rfl⟩ := List.mem_map.1 hp
      have h1 := h x hx
      have h2 := mem_size hx
      rw [Pt.has_eq, Bool.or_eq_false_iff] at h1
      have h3 := hasL_qd n x.w (by omega) h1.2
      cases x with
      | mk k q t a b c =>
        rw [Pt.has_eq]
        simp only [Pt.qd, Pt.k, Pt.w] at h1 h3 ⊢
        exact Bool.or_eq_false_iff.2 ⟨h1.1, h3⟩
theorem vp_merge {O : Nat → List Pt → Prop} {b : Bool} {M : Nat} {x p : Pt} (hx : VP O b M x ∧ x.q = true) (hk : x.k = 0) : VP O b M (.mk x.k x.q (x.t ++ p.t) x.n x.o x.w) ∧ (Pt.mk x.k x.q (x.t ++ p.t) x.n x.o x.w).q = true := by
  refine ⟨?_, hx.2⟩
  rcases hx.1 with h | h | h | h
  · exact .inl ⟨h.1, h.2.1, h.2.2.1, h.2.2.2.1, h.2.2.2.2.1, fun e => by rw [show (Pt.mk x.k x.q (x.t ++ p.t) x.n x.o x.w).q = x.q from rfl, hx.2] at e; cases e⟩
  · rw [hk] at h; exact absurd h.1 (by decide)
  · rw [hk] at h; exact absurd h.1 (by decide)
  · rw [hk] at h; exact absurd h.1 (by decide)
theorem qd_ok : ∀ (L : Nat) {b : Bool} {M : Nat} {l : List Pt}, OkL L b M l → OkL L b M (qdL [] l)
  | 0, _, _, _, h => by cases h
  | L + 1, b, M, l, h => by
    refine ⟨qdL_norm (l := l) (acc := []) trivial, ?_⟩
    have key : ∀ p ∈ qdL [] l, VP (OkL L true) b M p ∧ p.q = true := by
      rw [qdL_fold]
      refine all_fold (V := fun p => VP (OkL L true) b M p ∧ p.q = true) (fun x p hx _ hg => vp_merge hx hg.2.1) (by simp) fun p hp => ?_
      obtain ⟨x, hx, rfl⟩ := List.mem_map.1 hp
      refine ⟨?_, x.qd_q⟩
      have hv := h.2 x hx
      cases x with
      | mk k q t n o w =>
        simp only [Pt.qd]
        rcases hv with h | h | h | h
        · obtain ⟨h1, h2, h3, h4, h5, h6⟩ := h
          have h4 : w = [] := h4
          subst h4
          exact .inl ⟨h1, h2, h3, rfl, h5, fun e => (by cases e)⟩
        · obtain ⟨h1, h2, h3, h4, h5⟩ := h
          refine .inr (.inl ⟨h1, h2, h3, h4, ?_⟩)
          rcases h5 with ⟨hw, ho⟩ | ⟨ho, hw, hh, _⟩
          · have hw : w = [] := hw
            subst hw
            exact .inl ⟨rfl, ho⟩
          · have hq := hd_quoted (qdL_q w)
            refine .inr ⟨⟨ho.1, fun _ => ?_, fun _ => ?_, fun e e2 => qdL_ne (ho.2.2.2.1 e e2), ho.2.2.2.2⟩, qd_ok L hw, hasL_qd _ _ (Nat.lt_succ_self _) hh, fun _ => qd_again w⟩
            · show hd (qdL [] w) ≠ some 37
              rw [hq]
              simp
            · show hd (qdL [] w) ≠ some 35
              rw [hq]
              simp
        · obtain ⟨h1, h2, h3, h4, h5⟩ := h
          have h4 : w = [] := h4
          subst h4
          exact .inr (.inr (.inl ⟨h1, h2, h3, rfl, h5⟩))
        · obtain ⟨h1, h2, h3, h4, h5⟩ := h
          have h4 : w = [] := h4
          subst h4
          exact .inr (.inr (.inr ⟨h1, h2, h3, rfl, h5⟩))
    exact fun p hp => (key p hp).1
def In (b : Bool) (s : Txt) : Prop := b = true → ∃ x, untilD 29 125 (s ++ 125 :: x) = some x
def PGood (L : Nat) (P : Txt → Rs (List Pt)) : Prop := ∀ (s : Txt) (l : List Pt) (M : Nat), P s = .ok l → s.length + 4 ≤ 2 * M → M ≤ 30 → In true s → OkL L true M l ∧ (∀ c, hd l = some c → s.head? = some c) ∧ (l = [] → s = [])
theorem op_two (a : UInt8) (z : Txt) (h : a = 37 ∨ a = 35) : opOf (a :: a :: z) = [a, a] := by
  unfold opOf
  rcases h with rfl | rfl <;> simp [opsL, pf]
theorem braces_good {L : Nat} {P : Txt → Rs (List Pt)} (hP : PGood L P) {b q : Bool} {s : Txt} {p : Pt} {M : Nat} (h : bracesF P q s = .ok p) (hM : s.length + 7 ≤ 2 * M) (hM2 : M ≤ 30) (hin : In true s) : VP (OkL L true) b M p ∧ p.k = 1 ∧ p.q = q := by
  unfold bracesF at h
  have hpl := paramN_le s
  split at h
  · rename_i hc
    injection h with h
    subst h
    refine ⟨.inr (.inl ⟨rfl, rfl, ⟨?_, ?_⟩, ?_, .inl ⟨rfl, .inr rfl⟩⟩), rfl, rfl⟩
    · show s.drop 1 ≠ []
      intro e
      have := congrArg List.length e
      rw [List.length_drop, List.length_nil] at this
      omega
    · show paramN (s.drop 1) = (s.drop 1).length
      rw [List.length_drop]
      exact hc.2.2
    · omega
  · rename_i hno
    split at h
    · cases h
    · rename_i hp0
      have hn := param_take hp0
      have hs0 : 0 < s.length := by omega
      split at h
      · injection h with h
        subst h
        exact ⟨.inr (.inl ⟨rfl, rfl, hn, by omega, .inl ⟨rfl, .inl rfl⟩⟩), rfl, rfl⟩
      · split at h
        · cases h
        · rename_i hne hop
          obtain ⟨w0, hw0, h⟩ := Rs.and_ok h
          split at h
          · cases h
          · rename_i hh
            have hh : hasL w0 = false := by simpa using hh
            injection h with h
            subst h
            -- the text: name, operator, word
            have hop1 : opOf (s.drop (paramN s)) ≠ [] := fun e => hop (.inl e)
            obtain ⟨hmem, hpf⟩ := (opOf_in (s.drop (paramN s))).resolve_left hop1
            have hcut : s.drop (paramN s) = opOf (s.drop (paramN s)) ++ (s.drop (paramN s)).drop (opOf (s.drop (paramN s))).length := by
              have := (of_decide_eq_true hpf).2
              conv => lhs; rw [← List.take_append_drop (opOf (s.drop (paramN s))).length (s.drop (paramN s)), this]
            have hlen : (s.drop (paramN s)).length = s.length - paramN s := List.length_drop
            generalize hr : s.drop (paramN s) = r at *
            have htl : (s.take (paramN s)).length = paramN s := by rw [List.length_take]; omega
            have hsn : s = s.take (paramN s) ++ r := by rw [← hr, List.take_append_drop]
            generalize hg : s.take (paramN s) = n at *
            generalize ho : opOf r = o at *
            generalize hy : r.drop o.length = y at *
            obtain ⟨oc, oy, eo, _, hopl⟩ := ops_head hmem
            have hol : 1 ≤ o.length := by rw [eo]; simp
            have hyl : y.length + o.length = r.length := by rw [hcut]; simp only [List.length_append]; omega
            have hiny : In true y := by
              intro _
              obtain ⟨x, hx⟩ := hin rfl
              refine ⟨x, ?_⟩
              rw [hsn, hcut, List.append_assoc, List.append_assoc, plain_skip (by decide) _ _ (name_pl hn), plain_skip (by decide) _ _ hopl] at hx
              exact hx
            have hr0 : 0 < r.length := List.length_pos_iff.2 hne
            obtain ⟨g1, g2, g3⟩ := hP y w0 (M - 2) hw0 (by omega) (by omega) hiny
            have hOk : OpOk n o w0 := by
              refine ⟨hmem, fun e e2 => ?_, fun e e2 => ?_, fun e e2 e3 => ?_, fun e e2 => hop (.inr ⟨e, e2⟩)⟩
              · have hh := g2 _ e2
                obtain ⟨z, rfl⟩ : ∃ z, y = 37 :: z := by
                  cases y with
                  | nil => cases hh
                  | cons a z => exact ⟨z, by rw [Option.some.inj hh]⟩
                rw [hcut, e] at ho
                have := op_two 37 z (.inl rfl)
                rw [show [37] ++ 37 :: z = 37 :: 37 :: z from rfl, this] at ho
                cases ho
              · have hh := g2 _ e2
                obtain ⟨z, rfl⟩ : ∃ z, y = 35 :: z := by
                  cases y with
                  | nil => cases hh
                  | cons a z => exact ⟨z, by rw [Option.some.inj hh]⟩
                rw [hcut, e] at ho
                have := op_two 35 z (.inr rfl)
                rw [show [35] ++ 35 :: z = 35 :: 35 :: z from rfl, this] at ho
                cases ho
              · have hy0 := g3 e3
                rw [hsn, hcut, hy0, e] at hno
                refine hno ?_
                rcases e2 with e2 | e2 <;> (rw [e2]; decide)
            refine ⟨.inr (.inl ⟨rfl, rfl, hn, by omega, .inr ?_⟩), rfl, rfl⟩
            by_cases hq : q = true
            · have e : (Pt.mk 1 q [] n o (if q = true then qdL [] w0 else w0)).w = qdL [] w0 := by
                show (if q = true then qdL [] w0 else w0) = _
                rw [if_pos hq]
              rw [e]
              have hqn := hd_quoted (qdL_q w0)
              refine ⟨⟨hOk.1, fun _ => by rw [hqn]; simp, fun _ => by rw [hqn]; simp, fun e1 e2 => qdL_ne (hOk.2.2.2.1 e1 e2), hOk.2.2.2.2⟩, qd_ok L g1, hasL_qd _ _ (Nat.lt_succ_self _) hh, fun _ => qd_again w0⟩
            · have e : (Pt.mk 1 q [] n o (if q = true then qdL [] w0 else w0)).w = w0 := by
                show (if q = true then qdL [] w0 else w0) = _
                rw [if_neg hq]
              rw [e]
              exact ⟨hOk, g1, hh, fun e => absurd e hq⟩
theorem dollar_good {L : Nat} {P : Txt → Rs (List Pt)} (hP : PGood L P) {b q : Bool} {r : Txt} {p : Pt} {k M : Nat} (h : dollarF P q (36 :: r) = .ok (p, k)) (hM : k + 4 ≤ 2 * M) (hM2 : M ≤ 30) : (p = tx q [36] ∧ k = 1 ∧ NoD r) ∨ (VP (OkL L true) b M p ∧ p.k ≠ 0 ∧ p.q = q) := by
  unfold dollarF at h
  simp only [List.drop_succ_cons, List.drop_zero] at h
  split at h
  · rename_i hb
    obtain ⟨c, r, rfl⟩ : ∃ c z, r = c :: z := by
      cases r with
      | nil => rcases hb with h | h <;> cases h
      | cons c z => exact ⟨c, z, rfl⟩
    have hc : c = 40 ∨ c = 123 := by simpa using hb
    split at h
    · cases h
    · rename_i t ht
      simp only [List.drop_succ_cons, List.drop_zero, List.head?_cons, Option.some.injEq, List.length_cons] at h
      right
      rcases hc with rfl | rfl
      · rw [if_neg (by decide)] at h
        have ht : untilD 29 41 r = some t := ht
        obtain ⟨y, rfl⟩ := until_split _ _ _ (Nat.lt_succ_self _) ht
        have hloc : ∀ x, untilD 29 41 (y ++ 41 :: x) = some x := by
          intro x
          have := (lev_loc 29).2 41 (y ++ [41]) t x (by simpa using ht)
          simpa using this
        have hlen : (y ++ 41 :: t).length + 1 + 1 - t.length = y.length + 3 := by simp only [List.length_append, List.length_cons]; omega
        rw [hlen] at h
        split at h
        · rename_i ha
          injection h with h
          injection h with h1 h2
          subst h1 h2
          obtain ⟨h4, ha1, ha2⟩ := ha
          have hy2 : 2 ≤ y.length := by omega
          obtain ⟨a, z, rfl⟩ : ∃ a z, y = a :: z := by
            cases y with
            | nil => simp at hy2
            | cons a z => exact ⟨a, z, rfl⟩
          obtain rfl : a = 40 := by simpa using ha1
          simp only [List.length_cons] at hy2
          have hz : z ≠ [] := by rintro rfl; simp at hy2
          obtain ⟨m, e, rfl⟩ : ∃ m e, z = m ++ [e] := ⟨z.dropLast, z.getLast hz, (List.dropLast_concat_getLast hz).symm⟩
          have he : e = 41 := by
            have e1 : (40 :: (m ++ [e])).length + 3 - 2 = (36 :: 40 :: 40 :: m).length := by simp only [List.length_cons, List.length_append, List.length_nil]; omega
            rw [e1] at ha2
            have e2 : 36 :: 40 :: (40 :: (m ++ [e]) ++ 41 :: t) = (36 :: 40 :: 40 :: m) ++ e :: 41 :: t := by simp
            rw [e2, List.getElem?_append_right (Nat.le_refl _), Nat.sub_self] at ha2
            simpa using ha2
          subst he
          have et : ((40 :: (m ++ [41]) ++ 41 :: t).drop 1).take ((40 :: (m ++ [41])).length + 3 - 5) = m := by
            have e1 : (40 :: (m ++ [41])).length + 3 - 5 = m.length := by simp only [List.length_cons, List.length_append, List.length_nil]; omega
            rw [e1]
            show (m ++ [41] ++ 41 :: t).take m.length = m
            rw [List.append_assoc, List.take_left]
          rw [et]
          refine ⟨.inr (.inr (.inr ⟨rfl, rfl, rfl, rfl, fun x => ?_, ?_⟩)), (show (3 : Int) ≠ 0 by decide), rfl⟩
          · have := hloc x
            simpa [Pt.t] using this
          · simp only [List.length_cons, List.length_append, List.length_nil] at hM
            show m.length + 6 ≤ 2 * M
            omega
        · rename_i ha
          injection h with h
          injection h with h1 h2
          subst h1 h2
          rw [show y.length + 3 - 3 = y.length by omega, List.take_left] at *
          refine ⟨.inr (.inr (.inl ⟨rfl, rfl, rfl, rfl, hloc, ?_, ?_⟩)), (show (2 : Int) ≠ 0 by decide), rfl⟩
          · show y.length + 4 ≤ 2 * M
            omega
          · rintro ⟨a1, a2, a3⟩
            have a1 : 1 < y.length := a1
            have a2 : (36 :: 40 :: y ++ [41])[2]? = some 40 := a2
            have a3 : (36 :: 40 :: y ++ [41])[y.length + 1]? = some 41 := a3
            have grow : ∀ i, i < y.length + 3 → (36 :: 40 :: (y ++ 41 :: t))[i]? = (36 :: 40 :: y ++ [41])[i]? := by
              intro i hi
              have e : 36 :: 40 :: (y ++ 41 :: t) = (36 :: 40 :: y ++ [41]) ++ t := by simp
              rw [e, List.getElem?_append_left]
              simp only [List.length_append, List.length_cons, List.length_nil]
              omega
            exact ha ⟨by omega, by rw [grow 2 (by omega)]; exact a2, by rw [show y.length + 3 - 2 = y.length + 1 by omega, grow _ (by omega)]; exact a3⟩
      · rw [if_pos rfl] at h
        have ht : untilD 29 125 r = some t := ht
        obtain ⟨y, rfl⟩ := until_split _ _ _ (Nat.lt_succ_self _) ht
        obtain ⟨x, h1, h⟩ := Rs.and_ok h
        injection h with h
        injection h with h2 h3
        subst h2 h3
        have hlen : (y ++ 125 :: t).length + 1 + 1 - t.length = y.length + 3 := by simp only [List.length_append, List.length_cons]; omega
        rw [hlen] at hM h1
        rw [show y.length + 3 - 3 = y.length by omega, List.take_left] at h1
        obtain ⟨g1, g2, g3⟩ := braces_good (b := b) hP h1 (by omega) hM2 (fun _ => ⟨t, ht⟩)
        exact ⟨g1, by rw [g2]; decide, g3⟩
  · rename_i hb
    split at h
    · rename_i hn
      injection h with h
      injection h with h1 h2
      subst h1 h2
      exact .inr ⟨.inr (.inl ⟨rfl, rfl, param_name hn, by omega, .inl ⟨rfl, .inl rfl⟩⟩), (show (1 : Int) ≠ 0 by decide), rfl⟩
    · rename_i hn
      have hl : ∀ c z, r = c :: z → isLet c = false := by
        rintro c z rfl
        by_cases hl : isLet c = true
        · simp only [nameN, hl, if_true] at hn
          omega
        · simpa using hl
      split at h
      · rename_i hs
        injection h with h
        injection h with h1 h2
        subst h1 h2
        cases r with
        | nil => simp [specN] at hs
        | cons c z =>
          have hsp : isSpec c = true := by
            simp only [specN] at hs
            by_cases hsp : isSpec c = true
            · exact hsp
            · rw [if_neg hsp] at hs; omega
          exact .inr ⟨.inr (.inl ⟨rfl, rfl, param_spec1 (hl c z rfl) hsp, by omega, .inl ⟨rfl, .inl rfl⟩⟩), (show (1 : Int) ≠ 0 by decide), rfl⟩
      · rename_i hs
        injection h with h
        injection h with h1 h2
        subst h1 h2
        refine .inl ⟨rfl, rfl, ?_⟩
        rintro c z rfl
        refine ⟨hl c z rfl, ?_, ?_⟩
        · by_cases hsp : isSpec c = true
          · simp only [specN, hsp, if_true] at hs
            omega
          · simpa using hsp
        · simp only [List.head?_cons, Option.some.injEq, not_or] at hb
          exact hb
theorem dollar_in {P : Txt → Rs (List Pt)} {q : Bool} {r : Txt} {p : Pt} {k : Nat} (h : dollarF P q (36 :: r) = .ok (p, k)) (hl : r.length < 60) (hin : In true (36 :: r)) : In true ((36 :: r).drop k) := by
  intro _
  obtain ⟨x, hx⟩ := hin rfl
  obtain ⟨_, u, hu, hux⟩ := inside hx
  refine ⟨x, ?_⟩
  unfold dollarF at h
  simp only [List.drop_succ_cons, List.drop_zero] at h
  split at h
  · rename_i hb
    have hu30 : unitD 30 (36 :: r) = some u := unitD_few hu (by simp only [List.length_cons]; omega)
    rw [hu30] at h
    dsimp only at h
    have e : (36 :: r).drop ((36 :: r).length - u.length) = u := (suf_drop (unitD_ends _ _ _ hu)).symm
    have hk : k = (36 :: r).length - u.length := by
      split at h
      · obtain ⟨x, _, h⟩ := Rs.and_ok h
        injection h with h
        injection h with _ h
        exact h.symm
      · split at h <;> (injection h with h; injection h with _ h; exact h.symm)
    rw [hk, e]
    exact hux
  · rename_i hb
    have hur : u = r := by
      have : unitD 29 (36 :: r) = some r := unit_byte (by decide) (by decide) (by decide) fun _ a y e => by
        subst e
        simp only [List.head?_cons, Option.some.injEq, not_or] at hb
        exact hb
      rw [this] at hu
      exact (Option.some.inj hu).symm
    subst hur
    have skip : ∀ n : Nat, (∀ c ∈ u.take n, Pl c) → untilD 29 125 (u.drop n ++ 125 :: x) = some x := by
      intro n hn
      have := plain_skip (d := 29) (by decide) (u.take n) (u.drop n ++ 125 :: x) hn
      rw [← List.append_assoc, List.take_append_drop] at this
      rw [← this]
      exact hux
    split at h
    · rename_i hn
      injection h with h
      injection h with h1 h2
      subst h1 h2
      exact skip _ (name_pl (param_name hn))
    · rename_i hn
      split at h
      · rename_i hs
        injection h with h
        injection h with h1 h2
        subst h1 h2
        refine skip 1 fun c hc => ?_
        cases u with
        | nil => simp at hc
        | cons a z =>
          obtain rfl : c = a := by simpa using hc
          refine nam_pl (.inr ?_)
          simp only [specN] at hs
          by_cases hsp : isSpec c = true
          · exact hsp
          · rw [if_neg hsp] at hs; omega
      · injection h with h
        injection h with h1 h2
        subst h1 h2
        exact hux
theorem dbl_good {L : Nat} {P : Txt → Rs (List Pt)} (hP : PGood L P) {b : Bool} {M : Nat} (hM2 : M ≤ 30) : ∀ (n : Nat) (acc : List Pt) (s : Txt) (l : List Pt), loopF (dblOne P) n acc s = .ok l → s.length + 4 ≤ 2 * M → (∀ p ∈ acc, VP (OkL L true) b M p ∧ p.q = true) → (acc ≠ [] ∨ s ≠ []) → l ≠ [] ∧ ∀ p ∈ l, VP (OkL L true) b M p ∧ p.q = true
  | 0, _, _, _, h, _, _, _ => by cases h
  | n + 1, acc, [], l, h, _, ha, hne => by
    injection h with h
    subst h
    exact ⟨hne.resolve_right (fun h => h rfl), ha⟩
  | n + 1, acc, c :: r, l, h, hM, ha, _ => by
    simp only [loopF] at h
    obtain ⟨x, h1, h⟩ := Rs.and_ok h
    have ht := dblOne_takes P _ _ h1
    simp only [List.length_cons] at hM ht
    have key : x.1 ≠ [] ∧ ∀ p ∈ x.1, VP (OkL L true) b M p ∧ p.q = true := by
      have one : ∀ t : Txt, VP (OkL L true) b M (tx true t) ∧ (tx true t).q = true := fun t => ⟨.inl ⟨rfl, rfl, rfl, rfl, by omega, fun e => (by cases e)⟩, rfl⟩
      simp only [dblOne] at h1
      split at h1
      · rename_i hc
        subst hc
        obtain ⟨y, h2, h1⟩ := Rs.and_ok h1
        injection h1 with h1
        subst h1
        refine ⟨by simp, fun p hp => ?_⟩
        obtain rfl := List.mem_singleton.1 hp
        rcases dollar_good (b := b) (M := M) hP h2 (by omega) hM2 with ⟨e, _, _⟩ | ⟨e1, e2, e3⟩
        · rw [e]; exact one _
        · exact ⟨e1, e3⟩
      · split at h1
        · injection h1 with h1
          subst h1
          refine ⟨by simp, fun p hp => ?_⟩
          obtain rfl := List.mem_singleton.1 hp
          exact one _
        · injection h1 with h1
          subst h1
          refine ⟨by simp, fun p hp => ?_⟩
          obtain rfl := List.mem_singleton.1 hp
          exact one _
    refine dbl_good hP hM2 n _ _ l h (by rw [List.length_drop, List.length_cons]; omega) ?_ (.inl (fold_ne' key.1))
    exact all_fold (V := fun p => VP (OkL L true) b M p ∧ p.q = true) (fun x p hx _ hg => vp_merge hx hg.2.1) ha key.2
theorem out_good {L : Nat} {P : Txt → Rs (List Pt)} (hP : PGood L P) {b : Bool} {M : Nat} (hM2 : M ≤ 30) {c : UInt8} {r : Txt} {ps : List Pt} {k : Nat} (h : outOne P (c :: r) = .ok (ps, k)) (hM : r.length + 5 ≤ 2 * M) (hin : In b (c :: r)) :
    In b ((c :: r).drop k) ∧ ((ps = [tx false [c]] ∧ k = 1 ∧ c ≠ 92 ∧ c ≠ 39 ∧ c ≠ 34 ∧ (b = true → c ≠ 125) ∧ (c = 36 → NoD r)) ∨ (ps ≠ [] ∧ ∀ p ∈ ps, VP (OkL L true) b M p ∧ (p.k ≠ 0 ∨ p.q = true))) := by
  have htk := outOne_takes P _ _ h
  have hbr : b = true → c ≠ 125 := fun hb => by
    obtain ⟨x, hx⟩ := hin hb
    exact (inside hx).1
  simp only [outOne] at h
  simp only [List.length_cons] at htk
  split at h
  · rename_i hc
    subst hc
    obtain ⟨y, h2, h⟩ := Rs.and_ok h
    injection h with h
    injection h with h3 h4
    subst h3 h4
    refine ⟨fun hb => dollar_in h2 (by omega) (fun _ => hin hb) rfl, ?_⟩
    rcases dollar_good (b := b) (M := M) hP h2 (by omega) hM2 with ⟨e, e1, e2⟩ | ⟨e1, e2, e3⟩
    · exact .inl ⟨by rw [e], e1, by decide, by decide, by decide, hbr, fun _ => e2⟩
    · refine .inr ⟨by simp, fun p hp => ?_⟩
      obtain rfl := List.mem_singleton.1 hp
      exact ⟨e1, .inl e2⟩
  · rename_i h36
    have one : ∀ t : Txt, VP (OkL L true) b M (tx true t) ∧ ((tx true t).k ≠ 0 ∨ (tx true t).q = true) := fun t => ⟨.inl ⟨rfl, rfl, rfl, rfl, by omega, fun e => (by cases e)⟩, .inr rfl⟩
    split at h
    · rename_i hq
      split at h
      · cases h
      · rename_i t ht
        have hcont : k = r.length + 1 - t.length → In b ((c :: r).drop k) := by
          intro hk hb
          obtain ⟨x, hx⟩ := hin hb
          obtain ⟨_, u, hu, hux⟩ := inside hx
          have hu30 : unitD 30 (c :: r) = some u := unitD_few hu (by simp only [List.length_cons]; omega)
          rw [hu30] at ht
          obtain rfl := Option.some.inj ht
          refine ⟨x, ?_⟩
          have e : (c :: r).drop ((c :: r).length - u.length) = u := (suf_drop (unitD_ends _ _ _ hu)).symm
          rw [hk]
          rw [List.length_cons] at e
          rw [e]
          exact hux
        split at h
        · rename_i h92
          subst h92
          injection h with h
          injection h with h3 h4
          subst h3 h4
          have hk : 2 = r.length + 1 - t.length := by
            cases r with
            | nil => cases ht
            | cons a y =>
              obtain rfl := Option.some.inj (show some y = some t from ht)
              simp only [List.length_cons]
              omega
          refine ⟨hcont hk, .inr ⟨by simp, fun p hp => ?_⟩⟩
          obtain rfl := List.mem_singleton.1 hp
          exact one _
        · split at h
          · rename_i h34
            obtain ⟨l, h5, h⟩ := Rs.and_ok h
            injection h with h
            injection h with h3 h4
            subst h3 h4
            refine ⟨hcont rfl, .inr ?_⟩
            unfold dblF at h5
            split at h5
            · injection h5 with h5
              subst h5
              refine ⟨by simp, fun p hp => ?_⟩
              obtain rfl := List.mem_singleton.1 hp
              exact one _
            · rename_i hne
              obtain ⟨g1, g2⟩ := dbl_good (b := b) (M := M) hP hM2 _ _ _ _ h5 (by rw [List.length_take]; omega) (by simp) (.inr hne)
              exact ⟨g1, fun p hp => ⟨(g2 p hp).1, .inr (g2 p hp).2⟩⟩
          · injection h with h
            injection h with h3 h4
            subst h3 h4
            refine ⟨hcont rfl, .inr ⟨by simp, fun p hp => ?_⟩⟩
            obtain rfl := List.mem_singleton.1 hp
            exact one _
    · rename_i hq
      simp only [not_or] at hq
      injection h with h
      injection h with h3 h4
      subst h3 h4
      refine ⟨fun hb => ?_, .inl ⟨rfl, rfl, hq.1, hq.2.1, hq.2.2, hbr, fun e => absurd e h36⟩⟩
      obtain ⟨x, hx⟩ := hin hb
      obtain ⟨_, u, hu, hux⟩ := inside hx
      have : unitD 29 (c :: r) = some r := unit_byte hq.1 hq.2.1 hq.2.2 fun e => absurd e h36
      rw [this] at hu
      obtain rfl := Option.some.inj hu
      exact ⟨x, hux⟩
theorem bare_snoc {b : Bool} {c : UInt8} (h1 : c ≠ 92) (h2 : c ≠ 39) (h3 : c ≠ 34) (h4 : b = true → c ≠ 125) : ∀ {t : Txt}, Bare b t → (t.getLast? = some 36 → NoD [c]) → Bare b (t ++ [c])
  | [], _, _ => ⟨⟨h1, h2, h3, h4⟩, fun _ => noD_nil, trivial⟩
  | [a], h, hl => ⟨h.1, fun e => hl (by rw [e]; rfl), ⟨⟨h1, h2, h3, h4⟩, fun _ => noD_nil, trivial⟩⟩
  | a :: d :: t, h, hl => ⟨h.1, fun e x y hxy => by
      have := h.2.1 e d t rfl
      injection hxy with e1 _
      rw [← e1]
      exact this, bare_snoc h1 h2 h3 h4 (t := d :: t) h.2.2 (by simpa using hl)⟩
theorem all_add2 {V : Pt → Prop} {l : List Pt} {p : Pt} (hl : ∀ x ∈ l, V x) (hp : V p) (hm : ∀ x, l.getLast? = some x → Mg x p → V (.mk x.k x.q (x.t ++ p.t) x.n x.o x.w)) : ∀ x ∈ addP l p, V x := by
  by_cases h : l = []
  · subst h
    intro x hx
    rw [addP_nil] at hx
    obtain rfl := List.mem_singleton.1 hx
    exact hp
  · obtain ⟨m, y, rfl⟩ := snoc_of h
    rw [addP_snoc]
    intro x hx
    split at hx
    · rename_i hg
      rcases List.mem_append.1 hx with hx | hx
      · exact hl x (List.mem_append_left _ hx)
      · obtain rfl := List.mem_singleton.1 hx
        exact hm y (by simp) hg
    · rcases List.mem_append.1 hx with hx | hx
      · exact hl x hx
      · obtain rfl := List.mem_singleton.1 hx
        exact hp
theorem last_add {l : List Pt} {p z : Pt} (h : (addP l p).getLast? = some z) : z = p ∨ ∃ x, l.getLast? = some x ∧ Mg x p ∧ z = .mk x.k x.q (x.t ++ p.t) x.n x.o x.w := by
  by_cases hl : l = []
  · subst hl
    rw [addP_nil] at h
    exact .inl (by simpa using h.symm)
  · obtain ⟨m, y, rfl⟩ := snoc_of hl
    rw [addP_snoc] at h
    split at h
    · rename_i hg
      exact .inr ⟨y, by simp, hg, by simpa using h.symm⟩
    · exact .inl (by simpa using h.symm)
def Tail (l : List Pt) (s : Txt) : Prop := ∀ p, l.getLast? = some p → p.k = 0 → p.q = false → p.t.getLast? = some 36 → NoD s
theorem fold_hard {L : Nat} {b : Bool} {M : Nat} : ∀ {ps l : List Pt}, (∀ p ∈ l, VP (OkL L true) b M p) → (∀ p ∈ ps, VP (OkL L true) b M p ∧ (p.k ≠ 0 ∨ p.q = true)) → (∀ p ∈ ps.foldl addP l, VP (OkL L true) b M p) ∧ (ps ≠ [] → ∀ p, (ps.foldl addP l).getLast? = some p → p.k ≠ 0 ∨ p.q = true)
  | [], l, h, _ => ⟨h, fun e => absurd rfl e⟩
  | p :: ps, l, h, hp => by
    have hp0 := hp p (by simp)
    have h1 : ∀ x ∈ addP l p, VP (OkL L true) b M x := by
      refine all_add2 h hp0.1 fun x hx hg => (vp_merge ⟨h x (List.mem_of_getLast? hx), ?_⟩ hg.2.1).1
      have := hp0.2.resolve_left (fun e => e hg.1)
      rw [hg.2.2]
      exact this
    obtain ⟨g1, g2⟩ := fold_hard (ps := ps) h1 fun x hx => hp x (by simp [hx])
    refine ⟨g1, fun _ z hz => ?_⟩
    by_cases hps : ps = []
    · subst hps
      rcases last_add hz with rfl | ⟨x, hx, hg, rfl⟩
      · exact hp0.2
      · right
        have := hp0.2.resolve_left (fun e => e hg.1)
        show x.q = true
        rw [hg.2.2]
        exact this
    · exact g2 hps z hz
theorem hd_add {l : List Pt} {p : Pt} (hl : l ≠ []) (ht : ∀ x ∈ l, x.k = 0 → x.q = false → x.t ≠ []) : hd (addP l p) = hd l := by
  obtain ⟨m, y, rfl⟩ := snoc_of hl
  rw [addP_snoc]
  split
  · cases m with
    | nil =>
      show (if y.k = 0 ∧ y.q = false then (y.t ++ p.t).head? else none) = (if y.k = 0 ∧ y.q = false then y.t.head? else none)
      by_cases h : y.k = 0 ∧ y.q = false
      · rw [if_pos h, if_pos h, head_app (ht y (by simp) h.1 h.2)]
      · rw [if_neg h, if_neg h]
    | cons a m => rfl
  · cases m with
    | nil => rfl
    | cons a m => rfl
theorem hd_fold : ∀ {ps l : List Pt}, l ≠ [] → (∀ x ∈ l, x.k = 0 → x.q = false → x.t ≠ []) → (∀ x ∈ ps, x.k = 0 → x.q = false → x.t ≠ []) → hd (ps.foldl addP l) = hd l
  | [], _, _, _, _ => rfl
  | p :: ps, l, h, h1, h2 => by
    rw [List.foldl_cons, hd_fold (ps := ps) (addP_ne l p) ?_ fun x hx => h2 x (by simp [hx]), hd_add h h1]
    refine all_add (V := fun x => x.k = 0 → x.q = false → x.t ≠ []) (fun x p hx _ _ h0 hq e => ?_) h1 (h2 p (by simp))
    have e : x.t ++ p.t = [] := e
    exact hx h0 hq (List.append_eq_nil_iff.1 e).1
theorem vp_text {O : Nat → List Pt → Prop} {b : Bool} {M : Nat} {p : Pt} (h : VP O b M p) (h0 : p.k = 0) (hq : p.q = false) : p.n = [] ∧ p.o = [] ∧ p.w = [] ∧ p.t ≠ [] ∧ Bare b p.t := by
  rcases h with h | h | h | h
  · exact ⟨h.2.1, h.2.2.1, h.2.2.2.1, h.2.2.2.2.2 hq⟩
  · rw [h0] at h; exact absurd h.1 (by decide)
  · rw [h0] at h; exact absurd h.1 (by decide)
  · rw [h0] at h; exact absurd h.1 (by decide)
def HdOf (l : List Pt) (s0 s : Txt) : Prop := (l = [] ∧ s = s0) ∨ (l ≠ [] ∧ s0 ≠ [] ∧ ∀ c, hd l = some c → s0.head? = some c)
theorem loop_good {L : Nat} {P : Txt → Rs (List Pt)} (hP : PGood L P) {b : Bool} {M : Nat} (hM2 : M ≤ 30) {s0 : Txt} : ∀ (n : Nat) (acc : List Pt) (s : Txt) (l : List Pt), loopF (outOne P) n acc s = .ok l → s.length + 4 ≤ 2 * M → In b s → (∀ p ∈ acc, VP (OkL L true) b M p) → Tail acc s → HdOf acc s0 s → (∀ p ∈ l, VP (OkL L true) b M p) ∧ HdOf l s0 []
  | 0, _, _, _, h, _, _, _, _, _ => by cases h
  | n + 1, acc, [], l, h, _, _, ha, _, hh => by
    injection h with h
    subst h
    exact ⟨ha, hh⟩
  | n + 1, acc, c :: r, l, h, hM, hin, ha, htl, hh => by
    simp only [loopF] at h
    obtain ⟨x, h1, h⟩ := Rs.and_ok h
    obtain ⟨ps, k⟩ := x
    have ht := outOne_takes P _ _ h1
    simp only [List.length_cons] at hM ht
    obtain ⟨g1, g2⟩ := out_good (b := b) hP hM2 h1 (by omega) hin
    have hlen : ((c :: r).drop k).length + 4 ≤ 2 * M := by rw [List.length_drop, List.length_cons]; omega
    have hxt : ∀ x ∈ acc, x.k = 0 → x.q = false → x.t ≠ [] := fun x hx h0 hq => (vp_text (ha x hx) h0 hq).2.2.2.1
    have hps : ps ≠ [] ∧ ∀ p ∈ ps, p.k = 0 → p.q = false → p.t = [c] := by
      rcases g2 with ⟨rfl, _⟩ | ⟨e1, e2⟩
      · refine ⟨by simp, fun p hp _ _ => ?_⟩
        obtain rfl := List.mem_singleton.1 hp
        rfl
      · refine ⟨e1, fun p hp h0 hq => ?_⟩
        rcases (e2 p hp).2 with e | e
        · exact absurd h0 e
        · rw [hq] at e; cases e
    have hhd : HdOf (ps.foldl addP acc) s0 ((c :: r).drop k) := by
      right
      refine ⟨fold_ne' hps.1, ?_, ?_⟩
      · rcases hh with ⟨_, e⟩ | ⟨_, e, _⟩
        · rw [← e]; simp
        · exact e
      · intro a hd0
        rcases hh with ⟨rfl, e⟩ | ⟨e1, e2, e3⟩
        · obtain ⟨p, q, rfl⟩ := List.exists_cons_of_ne_nil hps.1
          rw [List.foldl_cons, addP_nil, hd_fold (by simp) ?_ fun x hx h0 hq => by rw [hps.2 x (by simp [hx]) h0 hq]; simp] at hd0
          · unfold hd at hd0
            dsimp only at hd0
            split at hd0
            · rename_i hpq
              rw [hps.2 p (by simp) hpq.1 hpq.2] at hd0
              rw [← e]
              exact hd0
            · cases hd0
          · intro x hx h0 hq
            obtain rfl := List.mem_singleton.1 hx
            rw [hps.2 x (by simp) h0 hq]
            simp
        · rw [hd_fold e1 hxt fun x hx h0 hq => by rw [hps.2 x hx h0 hq]; simp] at hd0
          exact e3 a hd0
    rcases g2 with ⟨rfl, rfl, c1, c2, c3, c4, c5⟩ | ⟨e1, e2⟩
    · have hv : ∀ y ∈ addP acc (tx false [c]), VP (OkL L true) b M y := by
        refine all_add2 ha (.inl ⟨rfl, rfl, rfl, rfl, by omega, fun _ => ⟨by simp [tx, Pt.t], ⟨⟨c1, c2, c3, c4⟩, fun _ => noD_nil, trivial⟩⟩⟩) fun x hx hg => ?_
        have hxq : x.q = false := hg.2.2
        obtain ⟨v1, v2, v3, v4, v5⟩ := vp_text (ha x (List.mem_of_getLast? hx)) hg.2.1 hxq
        refine .inl ⟨hg.2.1, v1, v2, v3, by omega, fun _ => ⟨?_, ?_⟩⟩
        · show x.t ++ [c] ≠ []
          simp
        · refine bare_snoc c1 c2 c3 c4 v5 fun e d y hd => ?_
          have := htl x hx hg.2.1 hxq e c r rfl
          injection hd with e1 _
          rw [← e1]
          exact this
      refine loop_good hP hM2 n _ _ l h hlen g1 hv ?_ hhd
      intro z hz h0 hq he
      have hc : c = 36 := by
        rcases last_add hz with rfl | ⟨x, hx, hg, rfl⟩
        · simpa [tx, Pt.t] using he
        · have he : (x.t ++ [c]).getLast? = some 36 := he
          simpa using he
      exact c5 hc
    · obtain ⟨g3, g4⟩ := fold_hard (ps := ps) ha e2
      refine loop_good hP hM2 n _ _ l h hlen g1 g3 ?_ hhd
      intro z hz h0 hq he
      rcases g4 e1 z hz with e | e
      · exact absurd h0 e
      · rw [hq] at e; cases e
theorem fold_loop_norm {one : Txt → Rs (List Pt × Nat)} : ∀ (n : Nat) (acc : List Pt) (s : Txt) (l : List Pt), loopF one n acc s = .ok l → Norm acc → Norm l
  | 0, _, _, _, h, _ => by cases h
  | n + 1, acc, [], l, h, ha => by
    injection h with h
    subst h
    exact ha
  | n + 1, acc, c :: r, l, h, ha => by
    simp only [loopF] at h
    obtain ⟨x, _, h⟩ := Rs.and_ok h
    exact fold_loop_norm n _ _ l h (Norm.fold ha)
theorem parsed : ∀ (L : Nat) {b : Bool} {M : Nat} {s : Txt} {l : List Pt}, wpL L s = .ok l → s.length + 4 ≤ 2 * M → M ≤ 30 → In b s → OkL L b M l ∧ (∀ c, hd l = some c → s.head? = some c) ∧ (l = [] → s = [])
  | 0, _, _, _, _, h, _, _, _ => by cases h
  | L + 1, b, M, s, l, h, hM, hM2, hin => by
    have hP : PGood L (wpL L) := fun s l M h hM hM2 hin => parsed L h hM hM2 hin
    obtain ⟨g1, g2⟩ := loop_good (s0 := s) hP hM2 _ _ _ _ h hM hin (by simp) (fun p hp => by simp at hp) (.inl ⟨rfl, rfl⟩)
    refine ⟨⟨fold_loop_norm _ _ _ _ h trivial, g1⟩, fun c hc => ?_, fun e => ?_⟩
    · rcases g2 with ⟨rfl, e⟩ | ⟨_, _, e⟩
      · cases hc
      · exact e c hc
    · rcases g2 with ⟨_, e⟩ | ⟨e2, _, _⟩
      · exact e.symm
      · exact absurd e e2
theorem wp_back {s : Txt} {l : List Pt} (hs : s.length ≤ 40) (h : wpL 30 s = .ok l) : wpL 30 (prL l) = .ok l :=
  back_ok 30 (b := false) (M := 22) (parsed 30 h (by omega) (by decide) (fun e => by cases e)).1 (by decide)
end Go.Proofs.YthommfjiaalecaaDoor
namespace Go.Proofs
open Go.Shelf
def Tryd.lays165_ren : Go.Shelf.Ren := ⟨fun | 165 => 54 | 240 => 55 | 241 => 58 | 276 => 59 | 277 => 74 | n => n, fun | 70 => 71 | 3 => 3 | 0 => 0 | 4 => 4 | 9 => 9 | 20 => 20 | 72 => 73 | 37 => 22 | 164 => 90 | 5 => 5 | n => n, fun | n => n⟩
theorem Tryd.lays165 : Go.Proofs.Lays.n165 Tryd.prog Tryd.lays165_ren := {
  mixed := by kernel_rfl
  f165 := Tryd.func54.trans (congrArg some (by kernel_rfl))
  f240 := Tryd.func55.trans (congrArg some (by kernel_rfl))
  f241 := Tryd.func58.trans (congrArg some (by kernel_rfl))
  f276 := Tryd.func59.trans (congrArg some (by kernel_rfl))
  f277 := Tryd.func74.trans (congrArg some (by kernel_rfl))
  t0 := Tryd.underlying0
  a0 := Tryd.isAgg0
  z0 := Tryd.sizeOf0
  v0 := Tryd.zeroValue0
  t3 := Tryd.underlying3
  a3 := Tryd.isAgg3
  z3 := Tryd.sizeOf3
  v3 := Tryd.zeroValue3
  t4 := Tryd.underlying4
  a4 := Tryd.isAgg4
  z4 := Tryd.sizeOf4
  v4 := Tryd.zeroValue4
  t9 := Tryd.underlying9
  a9 := Tryd.isAgg9
  z9 := Tryd.sizeOf9
  v9 := Tryd.zeroValue9
  t20 := Tryd.underlying20
  a20 := Tryd.isAgg20
  z20 := Tryd.sizeOf20
  v20 := Tryd.zeroValue20
  t37 := Tryd.underlying22
  a37 := Tryd.isAgg22
  z37 := Tryd.sizeOf22
  v37 := Tryd.zeroValue22
  t70 := Tryd.underlying71
  a70 := Tryd.isAgg71
  z70 := Tryd.sizeOf71
  v70 := Tryd.zeroValue71
  t72 := Tryd.underlying73
  a72 := Tryd.isAgg73
  z72 := Tryd.sizeOf73
  v72 := Tryd.zeroValue73
  t164 := Tryd.underlying90
  a164 := Tryd.isAgg90
  z164 := Tryd.sizeOf90
  v164 := Tryd.zeroValue90 }
theorem Tryd.Builder_Extra_165 : Builder.Extra Tryd.prog Tryd.lays165_ren := {
  sizeBuilder := by kernel_rfl
  liesBuilder := by kernel_rfl
  t5 := Tryd.underlying5
  a5 := Tryd.isAgg5
  z5 := Tryd.sizeOf5
  v5 := Tryd.zeroValue5
  infoByte := by kernel_rfl
  cellsByte := by kernel_rfl
  sizeByte := by kernel_rfl
  neB5 := by decide }
open Go.RowKit in
theorem Tryd.Builder_Grow_fresh (B b n : Nat) (w : World) (hB : B ≤ b) (hbk : w.heap[b]? = some (.cells #[.pointer none, .slice none 0 0] 73 (0, 0))) (hBw : B ≤ w.heap.size) (hn : n ≤ 281474976710656) :
    Calls Tryd.prog 54 #[.pointer (some ⟨b, 0, none⟩), .int .i64 n] w fun e w' => e = .returned (.tuple #[]) ∧ (Lib.BuilderAt 73 5 B b (.pointer (some ⟨b, 0, none⟩)) [] w' ∧ Below B w w') := Any.Builder_Grow_fresh Tryd.lays165 Tryd.Builder_Extra_165 B b n w hB hbk hBw hn
def Tryd.lays156_ren : Go.Shelf.Ren := ⟨fun | 156 => 43 | 165 => 54 | 166 => 45 | 169 => 46 | 240 => 55 | 241 => 58 | 276 => 59 | 277 => 74 | n => n, fun | 31 => 25 | 9 => 9 | 3 => 3 | 4 => 4 | 0 => 0 | 20 => 20 | 72 => 73 | 76 => 76 | 70 => 71 | 37 => 22 | 75 => 75 | 127 => 88 | 164 => 90 | 5 => 5 | 80 => 78 | n => n, fun | n => n⟩
theorem Tryd.lays156 : Go.Proofs.Lays.n156 Tryd.prog Tryd.lays156_ren := {
  mixed := by kernel_rfl
  f156 := Tryd.func43.trans (congrArg some (by kernel_rfl))
  f165 := Tryd.func54.trans (congrArg some (by kernel_rfl))
  f166 := Tryd.func45.trans (congrArg some (by kernel_rfl))
  f169 := Tryd.func46.trans (congrArg some (by kernel_rfl))
  f240 := Tryd.func55.trans (congrArg some (by kernel_rfl))
  f241 := Tryd.func58.trans (congrArg some (by kernel_rfl))
  f276 := Tryd.func59.trans (congrArg some (by kernel_rfl))
  f277 := Tryd.func74.trans (congrArg some (by kernel_rfl))
  t0 := Tryd.underlying0
  a0 := Tryd.isAgg0
  z0 := Tryd.sizeOf0
  v0 := Tryd.zeroValue0
  t3 := Tryd.underlying3
  a3 := Tryd.isAgg3
  z3 := Tryd.sizeOf3
  v3 := Tryd.zeroValue3
  t4 := Tryd.underlying4
  a4 := Tryd.isAgg4
  z4 := Tryd.sizeOf4
  v4 := Tryd.zeroValue4
  t9 := Tryd.underlying9
  a9 := Tryd.isAgg9
  z9 := Tryd.sizeOf9
  v9 := Tryd.zeroValue9
  t20 := Tryd.underlying20
  a20 := Tryd.isAgg20
  z20 := Tryd.sizeOf20
  v20 := Tryd.zeroValue20
  t31 := Tryd.underlying25
  a31 := Tryd.isAgg25
  z31 := Tryd.sizeOf25
  v31 := Tryd.zeroValue25
  t37 := Tryd.underlying22
  a37 := Tryd.isAgg22
  z37 := Tryd.sizeOf22
  v37 := Tryd.zeroValue22
  t70 := Tryd.underlying71
  a70 := Tryd.isAgg71
  z70 := Tryd.sizeOf71
  v70 := Tryd.zeroValue71
  t72 := Tryd.underlying73
  a72 := Tryd.isAgg73
  z72 := Tryd.sizeOf73
  v72 := Tryd.zeroValue73
  t75 := Tryd.underlying75
  a75 := Tryd.isAgg75
  z75 := Tryd.sizeOf75
  v75 := Tryd.zeroValue75
  t76 := Tryd.underlying76
  a76 := Tryd.isAgg76
  z76 := Tryd.sizeOf76
  v76 := Tryd.zeroValue76
  t127 := Tryd.underlying88
  a127 := Tryd.isAgg88
  z127 := Tryd.sizeOf88
  v127 := Tryd.zeroValue88
  t164 := Tryd.underlying90
  a164 := Tryd.isAgg90
  z164 := Tryd.sizeOf90
  v164 := Tryd.zeroValue90 }
theorem Tryd.Builder_Extra_156 : Builder.Extra Tryd.prog Tryd.lays156_ren := {
  sizeBuilder := by kernel_rfl
  liesBuilder := by kernel_rfl
  t5 := Tryd.underlying5
  a5 := Tryd.isAgg5
  z5 := Tryd.sizeOf5
  v5 := Tryd.zeroValue5
  infoByte := by kernel_rfl
  cellsByte := by kernel_rfl
  sizeByte := by kernel_rfl
  neB5 := by decide }
open Go.RowKit in
theorem Tryd.strings_Join_none (a : Option Addr) (c : Nat) (sep : ByteArray) (w : World) :
    Calls Tryd.prog 43 #[.slice a 0 c, .string sep] w fun e w' => e = .returned (.string ⟨#[]⟩) ∧ w' = w := Any.strings_Join_none Tryd.lays156 Tryd.Builder_Extra_156 a c sep w
open Go.RowKit in
theorem Tryd.strings_Join (bk o c : Nat) (xs : List ByteArray) (sep : ByteArray) (w : World) (hcells : ∀ (j : Nat) x, xs[j]? = some x → w.cell? ⟨bk, o + j, none⟩ = some (.string x)) (hbk : bk < w.heap.size) (hN : xs.length ≤ 140737488355328) (hcap : xs.length ≤ c) (hlen : (Lib.join (xs.map (·.data.toList)) sep.data.toList).length ≤ 140737488355328) :
    Calls Tryd.prog 43 #[.slice (some ⟨bk, o, none⟩) xs.length c, .string sep] w fun e w' => e = .returned (.string ⟨(Lib.join (xs.map (·.data.toList)) sep.data.toList).toArray⟩) ∧ Below w.heap.size w w' := Any.strings_Join Tryd.lays156 Tryd.Builder_Extra_156 bk o c xs sep w hcells hbk hN hcap hlen
def Tryd.lays143_ren : Go.Shelf.Ren := ⟨fun | 143 => 72 | 219 => 83 | 217 => 88 | 225 => 89 | 224 => 90 | 267 => 91 | 266 => 95 | 314 => 96 | n => n, fun | 9 => 9 | 3 => 3 | 4 => 4 | 5 => 5 | 46 => 108 | 146 => 117 | 51 => 116 | n => n, fun | 1 => 0 | n => n⟩
theorem Tryd.lays143 : Go.Proofs.Lays.n143 Tryd.prog Tryd.lays143_ren := {
  mixed := by kernel_rfl
  f143 := Tryd.func72.trans (congrArg some (by kernel_rfl))
  f217 := Tryd.func88.trans (congrArg some (by kernel_rfl))
  f219 := Tryd.func83.trans (congrArg some (by kernel_rfl))
  f224 := Tryd.func90.trans (congrArg some (by kernel_rfl))
  f225 := Tryd.func89.trans (congrArg some (by kernel_rfl))
  f266 := Tryd.func95.trans (congrArg some (by kernel_rfl))
  f267 := Tryd.func91.trans (congrArg some (by kernel_rfl))
  f314 := Tryd.func96.trans (congrArg some (by kernel_rfl))
  t3 := Tryd.underlying3
  a3 := Tryd.isAgg3
  z3 := Tryd.sizeOf3
  v3 := Tryd.zeroValue3
  t4 := Tryd.underlying4
  a4 := Tryd.isAgg4
  z4 := Tryd.sizeOf4
  v4 := Tryd.zeroValue4
  t5 := Tryd.underlying5
  a5 := Tryd.isAgg5
  z5 := Tryd.sizeOf5
  v5 := Tryd.zeroValue5
  t9 := Tryd.underlying9
  a9 := Tryd.isAgg9
  z9 := Tryd.sizeOf9
  v9 := Tryd.zeroValue9
  t46 := Tryd.underlying108
  a46 := Tryd.isAgg108
  z46 := Tryd.sizeOf108
  v46 := Tryd.zeroValue108
  t51 := Tryd.underlying116
  a51 := Tryd.isAgg116
  z51 := Tryd.sizeOf116
  v51 := Tryd.zeroValue116
  t146 := Tryd.underlying117
  a146 := Tryd.isAgg117
  z146 := Tryd.sizeOf117
  v146 := Tryd.zeroValue117
  g1 := by kernel_rfl }
open Go.RowKit Go.Lib in
theorem Tryd.strings_Index_one (s : ByteArray) (c : UInt8) (w : World) :
    Calls Tryd.prog 72 #[.string s, .string ⟨#[c]⟩] w fun e w' => e = .returned (.int .i64 (Lib.indexByte s.data.toList c)) ∧ w' = w := Any.strings_Index_one Tryd.lays143 s c w
def Tryd.lays138_ren : Go.Shelf.Ren := ⟨fun | 138 => 71 | 195 => 81 | 218 => 82 | 143 => 72 | 219 => 83 | 217 => 88 | 225 => 89 | 224 => 90 | 267 => 91 | 266 => 95 | 314 => 96 | n => n, fun | 9 => 9 | 3 => 3 | 4 => 4 | 5 => 5 | 0 => 0 | 46 => 108 | 146 => 117 | 51 => 116 | n => n, fun | 1 => 0 | n => n⟩
theorem Tryd.lays138 : Go.Proofs.Lays.n138 Tryd.prog Tryd.lays138_ren := {
  mixed := by kernel_rfl
  f138 := Tryd.func71.trans (congrArg some (by kernel_rfl))
  f143 := Tryd.func72.trans (congrArg some (by kernel_rfl))
  f195 := Tryd.func81.trans (congrArg some (by kernel_rfl))
  f217 := Tryd.func88.trans (congrArg some (by kernel_rfl))
  f218 := Tryd.func82.trans (congrArg some (by kernel_rfl))
  f219 := Tryd.func83.trans (congrArg some (by kernel_rfl))
  f224 := Tryd.func90.trans (congrArg some (by kernel_rfl))
  f225 := Tryd.func89.trans (congrArg some (by kernel_rfl))
  f266 := Tryd.func95.trans (congrArg some (by kernel_rfl))
  f267 := Tryd.func91.trans (congrArg some (by kernel_rfl))
  f314 := Tryd.func96.trans (congrArg some (by kernel_rfl))
  t0 := Tryd.underlying0
  a0 := Tryd.isAgg0
  z0 := Tryd.sizeOf0
  v0 := Tryd.zeroValue0
  t3 := Tryd.underlying3
  a3 := Tryd.isAgg3
  z3 := Tryd.sizeOf3
  v3 := Tryd.zeroValue3
  t4 := Tryd.underlying4
  a4 := Tryd.isAgg4
  z4 := Tryd.sizeOf4
  v4 := Tryd.zeroValue4
  t5 := Tryd.underlying5
  a5 := Tryd.isAgg5
  z5 := Tryd.sizeOf5
  v5 := Tryd.zeroValue5
  t9 := Tryd.underlying9
  a9 := Tryd.isAgg9
  z9 := Tryd.sizeOf9
  v9 := Tryd.zeroValue9
  t46 := Tryd.underlying108
  a46 := Tryd.isAgg108
  z46 := Tryd.sizeOf108
  v46 := Tryd.zeroValue108
  t51 := Tryd.underlying116
  a51 := Tryd.isAgg116
  z51 := Tryd.sizeOf116
  v51 := Tryd.zeroValue116
  t146 := Tryd.underlying117
  a146 := Tryd.isAgg117
  z146 := Tryd.sizeOf117
  v146 := Tryd.zeroValue117
  g1 := by kernel_rfl }
open Go.RowKit Go.Lib in
theorem Tryd.strings_Count_one (s : ByteArray) (c : UInt8) (w : World) :
    Calls Tryd.prog 71 #[.string s, .string ⟨#[c]⟩] w fun e w' => e = .returned (.int .i64 (Lib.countByte s.data.toList c)) ∧ w' = w := Any.strings_Count_one Tryd.lays138 s c w
end Go.Proofs
namespace Go.Proofs.YthommfjiaalecaaDoor
open Go.RowKit Vc
variable {w : World}
abbrev Only (g : Nat) (w w' : World) : Prop := Mod (fun i => i = g) w w'
theorem Only.trans {g : Nat} {a b c : World} (h : Only g a b) (k : Only g b c) : Only g a c := Mod.trans h k (fun _ h => h) (fun _ _ h => h)
theorem Only.put {g : Nat} (t : Value) : Only g w (w.setCell ⟨g, 0, none⟩ t) := (Mod.refl (fun i => i = g) w).setCell (p := ⟨g, 0, none⟩) (.inl rfl) _
def letR (r : Int) : Bool := decide ((97 ≤ r ∧ r ≤ 122) ∨ (65 ≤ r ∧ r ≤ 90) ∨ r = 95)
def digR (r : Int) : Bool := decide (48 ≤ r ∧ r ≤ 57)
theorem u8_le (a c : UInt8) : decide (a ≤ c) = decide ((a.toNat : Int) ≤ (c.toNat : Int)) := by
  apply decide_eq_decide.2
  rw [UInt8.le_iff_toNat_le]
  omega
theorem isLet_int (c : UInt8) : isLet c = letR (c.toNat : Int) := by
  unfold isLet letR
  rw [u8_le, u8_le, u8_le, u8_le, show (c == 95) = decide ((c.toNat : Int) = 95) by rw [Bool.eq_iff_iff]; simp [← UInt8.toNat_inj]; omega]
  rw [Bool.eq_iff_iff]
  simp
  omega
theorem isDig_int (c : UInt8) : isDig c = digR (c.toNat : Int) := by
  unfold isDig digR
  rw [u8_le, u8_le, Bool.eq_iff_iff]
  simp
theorem nt {p : Prop} [Decidable p] (h : (!decide p) = true) : ¬ p := by simpa using h
theorem nf {p : Prop} [Decidable p] (h : (!decide p) = false) : p := by simpa using h
theorem ret_bool {b b' : Bool} (h : b = b') : (Ending.returned (.bool b) = .returned (.bool b') ∧ w = w) := by rw [h]; exact ⟨rfl, rfl⟩
theorem ref_letter_spec (c : UInt8) : Calls Tryd.prog fn_ref08_letter #[.int .u8 (c.toNat : Int)] w (fun e w' => e = .returned (.bool (isLet c)) ∧ w' = w) := by
  refine ref08_letter_calls _ _ _ ?_
  rw [isLet_int]
  unfold letR
  repeat' refine bsel_of (fun h => ?_) (fun h => ?_)
  all_goals simp only [decide_eq_true_eq, decide_eq_false_iff_not] at *
  all_goals refine ⟨congrArg (fun b => Ending.returned (.bool b)) ?_, trivial⟩
  all_goals first | exact (decide_eq_true (by omega)).symm | exact decide_eq_decide.2 (by omega)
theorem ref_digit_spec (c : UInt8) : Calls Tryd.prog fn_ref08_digit #[.int .u8 (c.toNat : Int)] w (fun e w' => e = .returned (.bool (isDig c)) ∧ w' = w) := by
  refine ref08_digit_calls _ _ _ ?_
  rw [isDig_int]
  unfold digR
  repeat' refine bsel_of (fun h => ?_) (fun h => ?_)
  all_goals simp only [decide_eq_true_eq, decide_eq_false_iff_not] at *
  all_goals refine ⟨congrArg (fun b => Ending.returned (.bool b)) ?_, trivial⟩
  all_goals first | exact (decide_eq_false (by omega)).symm | exact decide_eq_decide.2 (by omega)
theorem spec_eq (c k : UInt8) : decide ((c.toNat : Int) = (k.toNat : Int)) = (c == k) := by
  rw [Bool.eq_iff_iff]
  simp only [decide_eq_true_eq, beq_iff_eq]
  exact byte_eq
theorem ref_special_spec (c : UInt8) : Calls Tryd.prog fn_ref08_special #[.int .u8 (c.toNat : Int)] w (fun e w' => e = .returned (.bool (isSpec c)) ∧ w' = w) := by
  refine ref08_special_calls _ _ _ ?_
  refine (ref_digit_spec c).mono ?_
  rintro _ w1 ⟨rfl, rfl⟩
  have e1 := spec_eq c 35
  have e2 := spec_eq c 63
  have e3 := spec_eq c 64
  have e4 := spec_eq c 42
  unfold isSpec
  rw [← e1, ← e2, ← e3, ← e4]
  refine .inl ⟨_, rfl, bsel_of (fun h => ret_bool (by rw [h]; rfl)) (fun h => bsel_of (fun h2 => ret_bool ?_) (fun h2 => bsel_of (fun h3 => ret_bool ?_) (fun h3 => bsel_of (fun h4 => ret_bool ?_) (fun h4 => ret_bool ?_))))⟩
  · have h2 : decide ((c.toNat : Int) = ((35 : UInt8).toNat : Int)) = true := h2
    rw [h2]; simp
  · have h3 : decide ((c.toNat : Int) = ((63 : UInt8).toNat : Int)) = true := h3
    rw [h3]; simp
  · have h4 : decide ((c.toNat : Int) = ((64 : UInt8).toNat : Int)) = true := h4
    rw [h4]; simp
  · have h2 : decide ((c.toNat : Int) = ((35 : UInt8).toNat : Int)) = false := h2
    have h3 : decide ((c.toNat : Int) = ((63 : UInt8).toNat : Int)) = false := h3
    have h4 : decide ((c.toNat : Int) = ((64 : UInt8).toNat : Int)) = false := h4
    rw [h, h2, h3, h4]
    rfl
theorem takeWhile_step {p : UInt8 → Bool} : ∀ {l : Txt} {k : Nat} (hk : k < l.length), k ≤ (l.takeWhile p).length → (p l[k] = true → k + 1 ≤ (l.takeWhile p).length) ∧ (p l[k] = false → (l.takeWhile p).length = k)
  | a :: l, 0, _, _ => by
    refine ⟨fun h => ?_, fun h => ?_⟩
    · have h : p a = true := h
      rw [List.takeWhile_cons, if_pos h]
      simp
    · have h : p a = false := h
      rw [List.takeWhile_cons, if_neg (by rw [h]; decide)]
      rfl
  | a :: l, k + 1, hk, h => by
    rw [List.takeWhile_cons] at h ⊢
    by_cases ha : p a = true
    · rw [if_pos ha] at h ⊢
      simp only [List.length_cons] at h hk ⊢
      have := takeWhile_step (p := p) (l := l) (k := k) (by omega) (by omega)
      refine ⟨fun hp => ?_, fun hp => ?_⟩
      · have := this.1 hp; omega
      · have := this.2 hp; omega
    · rw [if_neg ha] at h
      simp at h
theorem nameN_step {s : Txt} {k : Nat} (hk : k < s.length) (h : k ≤ nameN s) : ((isLet s[k] || (decide (0 < k) && isDig s[k])) = true → k + 1 ≤ nameN s) ∧ ((isLet s[k] || (decide (0 < k) && isDig s[k])) = false → nameN s = k) := by
  cases s with
  | nil => simp at hk
  | cons c r =>
    simp only [nameN] at h ⊢
    cases k with
    | zero =>
      have e : (c :: r)[0] = c := rfl
      rw [e]
      simp only [Nat.lt_irrefl, decide_false, Bool.false_and, Bool.or_false]
      refine ⟨fun hc => ?_, fun hc => ?_⟩
      · rw [if_pos hc]; omega
      · rw [if_neg (by rw [hc]; decide)]
    | succ k =>
      by_cases hc : isLet c = true
      · rw [if_pos hc] at h ⊢
        simp only [List.length_cons] at hk
        have := takeWhile_step (p := isNam) (l := r) (k := k) (by omega) (by omega)
        have e : (c :: r)[k + 1] = r[k]'(by omega) := rfl
        rw [e]
        simp only [Nat.zero_lt_succ, decide_true, Bool.true_and]
        refine ⟨fun hp => ?_, fun hp => ?_⟩
        · have := this.1 hp; omega
        · have := this.2 hp; omega
      · rw [if_neg hc] at h
        omega
theorem ref_Name_spec (s : Txt) (hl : s.length < 1000000) : Calls Tryd.prog fn_ref08_Name #[.string (S s)] w (fun e w' => e = .returned (.int .i64 (nameN s : Int)) ∧ w' = w) := by
  refine ref08_Name_calls _ _ _ ?_
  refine ⟨fun n w1 => ∃ k : Nat, n = (k : Int) ∧ k ≤ nameN s ∧ w1 = w, fun n _ => s.length - n.toNat, ⟨0, rfl, Nat.zero_le _, rfl⟩, ?_⟩
  rintro _ _ w1 ⟨k, rfl, hk, rfl⟩
  have hnl := nameN_le s
  refine bsel_of (fun hx => ?_) (fun hx => ?_)
  rotate_left
  · have hx := of_decide_eq_false hx
    have : k = nameN s := by omega
    rw [this]
    exact ⟨rfl, rfl⟩
  have hx : k < s.length := by have := of_decide_eq_true hx; omega
  obtain ⟨n1, n2⟩ := nameN_step hx hk
  have e1 : IntKind.i64.wrap ((k : Int) + 1) = ((k + 1 : Nat) : Int) := by rw [wrap_i64 (by omega) (by omega)]; omega
  rw [e1]
  refine ⟨by omega, s[k], by rw [Int.toNat_natCast]; exact getD_some hx, (ref_letter_spec _).mono ?_⟩
  rintro _ w2 ⟨rfl, rfl⟩
  refine .inl ⟨_, rfl, bsel_of (fun h => ?_) (fun h => ?_)⟩
  · exact ⟨⟨k + 1, rfl, n1 (by rw [h]; rfl), rfl⟩, by dsimp only; omega⟩
  · refine bsel_of (fun h0 => ?_) (fun h0 => ?_)
    · have h0 := of_decide_eq_true h0
      refine ⟨by omega, s[k], by rw [Int.toNat_natCast]; exact getD_some hx, (ref_digit_spec _).mono ?_⟩
      rintro _ w3 ⟨rfl, rfl⟩
      refine .inl ⟨_, rfl, bsel_of (fun h5 => ?_) (fun h5 => ?_)⟩
      · exact ⟨⟨k + 1, rfl, n1 (by rw [h, h5, decide_eq_true (by omega)]; rfl), rfl⟩, by dsimp only; omega⟩
      · rw [n2 (by rw [h, h5, Bool.and_false]; rfl)]
        exact ⟨rfl, rfl⟩
    · have h0 := of_decide_eq_false h0
      rw [n2 (by rw [h, decide_eq_false (by omega)]; rfl)]
      exact ⟨rfl, rfl⟩
theorem ref_param_spec (s : Txt) (hl : s.length < 1000000) : Calls Tryd.prog fn_ref08_param #[.string (S s)] w (fun e w' => e = .returned (.int .i64 (paramN s : Int)) ∧ w' = w) := by
  refine ref08_param_calls _ _ _ ?_
  refine (ref_Name_spec s hl).mono ?_
  rintro _ w1 ⟨rfl, rfl⟩
  refine .inl ⟨_, rfl, bsel_of (fun h => ?_) (fun h => ?_)⟩
  · have h : (0 : Int) < (nameN s : Int) := of_decide_eq_true h
    unfold paramN
    rw [if_pos (by omega)]
    exact ⟨rfl, rfl⟩
  have h : ¬ (0 : Int) < (nameN s : Int) := of_decide_eq_false h
  have hz : nameN s = 0 := by omega
  refine bsel_of (fun h0 => ?_) (fun h0 => ?_)
  · have h0 := of_decide_eq_true h0
    subst h0
    exact ⟨rfl, rfl⟩
  have h0 : s ≠ [] := of_decide_eq_false h0
  obtain ⟨c, r, rfl⟩ := List.exists_cons_of_ne_nil h0
  have hp : paramN (c :: r) = if 0 < digN (c :: r) then digN (c :: r) else specN (c :: r) := by
    unfold paramN
    rw [if_neg (by omega)]
  have hdl := digN_le (c :: r)
  -- where digits end
  have stop : ∀ k : Nat, digN (c :: r) = k → ∀ w2 : World, w2 = w1 → bsel (decide ((k : Int) = 0)) ((0 : Int) ≤ 0 ∧ ∃ b1 : UInt8, (c :: r)[Int.toNat 0]? = some b1 ∧ Calls Tryd.prog fn_ref08_special #[.int .u8 (b1.toNat : Int)] w2 (fun ed w4 => (∃ r2, ed = .returned (.bool r2) ∧ bsel r2 (Ending.returned (.int .i64 1) = .returned (.int .i64 (paramN (c :: r) : Int)) ∧ w4 = w1) (Ending.returned (.int .i64 (k : Int)) = .returned (.int .i64 (paramN (c :: r) : Int)) ∧ w4 = w1)) ∨ (∃ ch, ed = .panicked ch ∧ (Ending.panicked ch = .returned (.int .i64 (paramN (c :: r) : Int)) ∧ w4 = w1))))
      (Ending.returned (.int .i64 (k : Int)) = .returned (.int .i64 (paramN (c :: r) : Int)) ∧ w2 = w1) := by
    rintro k hk w2 rfl
    refine bsel_of (fun h1 => ?_) (fun h1 => ?_)
    · have h1 : (k : Int) = 0 := of_decide_eq_true h1
      refine ⟨by decide, c, rfl, (ref_special_spec c).mono ?_⟩
      rintro _ w4 ⟨rfl, rfl⟩
      rw [hp, if_neg (by omega)]
      rw [show specN (c :: r) = if isSpec c = true then 1 else 0 from rfl]
      refine .inl ⟨_, rfl, bsel_of (fun h2 => ?_) (fun h2 => ?_)⟩
      · rw [if_pos h2]; exact ⟨rfl, rfl⟩
      · rw [if_neg (by rw [h2]; decide), h1]; exact ⟨rfl, rfl⟩
    · have h1 : ¬ (k : Int) = 0 := of_decide_eq_false h1
      rw [hp, if_pos (by omega), hk]
      exact ⟨rfl, rfl⟩
  refine ⟨fun n w2 => ∃ k : Nat, n = (k : Int) ∧ k ≤ digN (c :: r) ∧ w2 = w1, fun n _ => (c :: r).length - n.toNat, ⟨0, by rw [hz], Nat.zero_le _, rfl⟩, ?_⟩
  rintro _ _ w2 ⟨k, rfl, hk, rfl⟩
  refine bsel_of (fun hx => ?_) (fun hx => ?_)
  · have hx : k < (c :: r).length := by have := of_decide_eq_true hx; omega
    obtain ⟨n1, n2⟩ := takeWhile_step (p := isDig) hx hk
    have e1 : IntKind.i64.wrap ((k : Int) + 1) = ((k + 1 : Nat) : Int) := by rw [wrap_i64 (by omega) (by omega)]; omega
    rw [e1]
    refine ⟨by omega, (c :: r)[k], by rw [Int.toNat_natCast]; exact getD_some hx, (ref_digit_spec _).mono ?_⟩
    rintro _ w3 ⟨rfl, rfl⟩
    refine .inl ⟨_, rfl, bsel_of (fun h5 => ?_) (fun h5 => ?_)⟩
    · exact ⟨⟨k + 1, rfl, n1 h5, rfl⟩, by dsimp only; omega⟩
    · exact stop k (n2 h5) _ rfl
  · have hx : ¬ (k : Int) < ((c :: r).length : Int) := of_decide_eq_false hx
    exact stop k (by omega) _ rfl
theorem pf_isPrefixOf (t s : Txt) : pf t s = t.isPrefixOf s := by
  unfold pf
  rw [Bool.eq_iff_iff, decide_eq_true_eq, List.isPrefixOf_iff_prefix]
  refine ⟨fun h => ?_, fun h => ⟨h.length_le, (List.prefix_iff_eq_take.1 h).symm⟩⟩
  rw [← h.2]
  exact List.take_prefix _ _
theorem find_step {l : List Txt} {f : Txt → Bool} {i : Nat} (h : i < l.length) : (l.drop i).find? f = if f l[i] = true then some l[i] else (l.drop (i + 1)).find? f := by
  rw [List.drop_eq_getElem_cons h, List.find?_cons]
  cases f l[i] <;> rfl
theorem ref_begins_spec (s t : Txt) (_hs : s.length < 1000000) (ht : t.length < 1000000) : Calls Tryd.prog fn_ref08_begins #[.string (S s), .string (S t)] w (fun e w' => e = .returned (.bool (pf t s)) ∧ w' = w) := by
  refine ref08_begins_calls _ _ _ _ ?_
  unfold pf
  refine bsel_of (fun h => ?_) (fun h => ?_)
  · have h := of_decide_eq_true h
    refine ⟨by omega, by omega, ?_, rfl⟩
    rw [Int.toNat_natCast]
    congr 2
    apply decide_eq_decide.2
    exact ⟨fun e => ⟨by omega, e⟩, fun e => e.2⟩
  · have h := of_decide_eq_false h
    refine ⟨?_, rfl⟩
    rw [decide_eq_false]
    intro e
    omega
def isEnd (c : UInt8) : Bool := c == 32 || c == 9 || c == 10 || c == 59 || c == 124 || c == 38 || c == 40 || c == 41 || c == 60 || c == 62
def endsB : Txt → Bool
  | [] => true
  | c :: _ => isEnd c
def wordL : Nat → Txt → Option Txt
  | 0, _ => none
  | n + 1, s => if endsB s = true then some s else match unitD 30 s with
    | some t => wordL n t
    | none => none
theorem wordL_more : ∀ (n m : Nat) (s : Txt), s.length < n → s.length < m → wordL n s = wordL m s
  | 0, _, _, h, _ => by omega
  | _, 0, _, _, h => by omega
  | n + 1, m + 1, s, hn, hm => by
    rw [wordL, wordL]
    split
    · rfl
    · cases hu : unitD 30 s with
      | none => rfl
      | some t =>
        have := unitD_takes 30 _ _ hu
        exact wordL_more n m t (by omega) (by omega)
def wordD (s : Txt) : Option Txt := wordL (s.length + 1) s
theorem wordD_ends {s : Txt} (h : endsB s = true) : wordD s = some s := by rw [wordD, wordL, if_pos h]
theorem wordD_unit {s t : Txt} (h : endsB s = false) (hu : unitD 30 s = some t) : wordD s = wordD t := by
  have := unitD_takes 30 _ _ hu
  rw [wordD, wordL, if_neg (by rw [h]; decide), hu]
  exact wordL_more _ _ _ (by omega) (by omega)
theorem wordD_none {s : Txt} (h : endsB s = false) (hu : unitD 30 s = none) : wordD s = none := by rw [wordD, wordL, if_neg (by rw [h]; decide), hu]
def opLen : Txt → Nat
  | a :: b :: _ => if a = b ∧ ([38, 124, 59, 62] : Txt).contains a = true then 2 else 1
  | _ => 1
def lineEnd : Txt → Txt
  | [] => []
  | a :: r => if a = 10 then a :: r else lineEnd r
abbrev Tok := Nat × Txt
theorem lineEnd_length : ∀ s : Txt, (lineEnd s).length ≤ s.length
  | [] => Nat.le_refl _
  | a :: r => by
    simp only [lineEnd]
    split
    · exact Nat.le_refl _
    · have := lineEnd_length r
      simp only [List.length_cons]
      omega
theorem wordL_length : ∀ (n : Nat) (s t : Txt), wordL n s = some t → t.length ≤ s.length
  | 0, _, _, h => by cases h
  | n + 1, s, t, h => by
    rw [wordL] at h
    split at h
    · obtain rfl := Option.some.inj h; exact Nat.le_refl _
    · split at h
      · rename_i t' ht
        have h1 := unitD_takes 30 _ _ ht
        have h2 := wordL_length n _ _ h
        omega
      · cases h
theorem wordD_length {s t : Txt} (he : endsB s = false) (h : wordD s = some t) : t.length < s.length := by
  cases hu : unitD 30 s with
  | none => rw [wordD_none he hu] at h; cases h
  | some t' =>
    rw [wordD_unit he hu] at h
    have h1 := unitD_takes 30 _ _ hu
    have h2 := wordL_length _ _ _ h
    omega
theorem opLen_le {a : UInt8} {r : Txt} : 0 < opLen (a :: r) ∧ opLen (a :: r) ≤ (a :: r).length := by
  cases r with
  | nil => exact ⟨Nat.one_pos, Nat.le_refl _⟩
  | cons b r => simp only [opLen]; split <;> simp
def tokOne (a : UInt8) (r : Txt) : Option (List Tok × Txt) :=
  if a = 32 ∨ a = 9 then some ([], r)
  else if a = 35 then some ([], lineEnd r)
  else if a = 10 then some ([(2, [10])], r)
  else if isEnd a = true then some ([(1, (a :: r).take (opLen (a :: r)))], (a :: r).drop (opLen (a :: r)))
  else match wordD (a :: r) with
    | some t => some ([(0, (a :: r).take ((a :: r).length - t.length))], t)
    | none => none
def tokL : Nat → Txt → Option (List Tok)
  | 0, _ => none
  | _ + 1, [] => some []
  | n + 1, a :: r => match tokOne a r with
    | some (l, t) => match tokL n t with
      | some m => some (l ++ m)
      | none => none
    | none => none
def toks (s : Txt) : Option (List Tok) := tokL (s.length + 1) s
theorem tokOne_length {a : UInt8} {r t : Txt} {l : List Tok} (h : tokOne a r = some (l, t)) : t.length ≤ r.length ∧ l.length ≤ 1 := by
  unfold tokOne at h
  split at h
  · obtain ⟨rfl, rfl⟩ := Prod.mk.injEq .. ▸ Option.some.inj h
    exact ⟨Nat.le_refl _, by simp⟩
  · split at h
    · obtain ⟨rfl, rfl⟩ := Prod.mk.injEq .. ▸ Option.some.inj h
      exact ⟨lineEnd_length r, by simp⟩
    · split at h
      · obtain ⟨rfl, rfl⟩ := Prod.mk.injEq .. ▸ Option.some.inj h
        exact ⟨Nat.le_refl _, by simp⟩
      · split at h
        · obtain ⟨rfl, rfl⟩ := Prod.mk.injEq .. ▸ Option.some.inj h
          have := opLen_le (a := a) (r := r)
          refine ⟨?_, by simp⟩
          rw [List.length_drop]
          simp only [List.length_cons] at this ⊢
          omega
        · rename_i he
          split at h
          · rename_i t' ht
            obtain ⟨rfl, rfl⟩ := Prod.mk.injEq .. ▸ Option.some.inj h
            have := wordD_length (s := a :: r) (by simpa [endsB] using he) ht
            simp only [List.length_cons] at this
            exact ⟨by omega, by simp⟩
          · cases h
theorem tokL_more : ∀ (n m : Nat) (s : Txt), s.length < n → s.length < m → tokL n s = tokL m s
  | 0, _, _, h, _ => by omega
  | _, 0, _, _, h => by omega
  | n + 1, m + 1, [], _, _ => rfl
  | n + 1, m + 1, a :: r, hn, hm => by
    simp only [List.length_cons] at hn hm
    simp only [tokL]
    cases h : tokOne a r with
    | none => rfl
    | some x =>
      obtain ⟨l, t⟩ := x
      have := (tokOne_length h).1
      dsimp only
      rw [tokL_more n m t (by omega) (by omega)]
theorem toks_nil : toks [] = some [] := rfl
theorem toks_cons (a : UInt8) (r : Txt) : toks (a :: r) = (tokOne a r).bind fun x => (toks x.2).map (x.1 ++ ·) := by
  show tokL (r.length + 1 + 1) (a :: r) = _
  simp only [tokL]
  cases h : tokOne a r with
  | none => rfl
  | some x =>
    obtain ⟨l, t⟩ := x
    have := (tokOne_length h).1
    dsimp only [Option.bind]
    rw [tokL_more (r.length + 1) (t.length + 1) t (by omega) (by omega)]
    show _ = (tokL (t.length + 1) t).map _
    cases tokL (t.length + 1) t <;> rfl
def tc (l : List Tok) : List Value := l.flatMap fun x => [.int .i64 (x.1 : Int), .string (S x.2)]
theorem tc_append (l m : List Tok) : tc (l ++ m) = tc l ++ tc m := by simp [tc]
def tokRes (s : Txt) : List Tok × Int := if 20000 < s.length then ([], 2) else match toks s with
  | some l => (l, 0)
  | none => ([], 80)
theorem two_one {k : Int} {t : Txt} : ∀ u ∈ [Value.int .i64 k, .string (S t)], u.oneCell' = true := by
  intro u hu
  simp only [List.mem_cons, List.not_mem_nil, or_false] at hu
  rcases hu with rfl | rfl <;> rfl
theorem pair_src (w : World) (t : TypeId) (x y : Value) : 0 < 1 → ∃ a : Addr, (some (Addr.mk w.heap.size 0 none)) = some a ∧ ∀ (j : Nat) (u : Value), [x, y][j]? = some u → (w.alloc (.cells #[x, y] t)).cell? (a.add j) = some u := by
  refine fun _ => ⟨_, rfl, fun j u hu => ?_⟩
  rw [add_row, Nat.zero_add]
  exact (Row.new w t ⟨[x, y]⟩).cellv (by simpa using hu)
end Go.Proofs.YthommfjiaalecaaDoor
namespace Go.Proofs.YthommfjiaalecaaDoor
open Go.RowKit Vc
theorem wordL_ends : ∀ n, Ends (wordL n)
  | 0 => fun s t h => by cases h
  | n + 1 => by
    intro s t h
    rw [wordL] at h
    split at h
    · obtain rfl := Option.some.inj h; exact List.suffix_refl _
    · split at h
      · rename_i x hx
        exact (wordL_ends n _ _ h).trans (unitD_ends 30 _ _ hx)
      · cases h
theorem word_loc : ∀ (n : Nat) (p : Txt), p.length ≤ n → ∀ t t', Sim t t' → endsB t' = true → wordD (p ++ t) = some t → wordD (p ++ t') = some t'
  | _, [], _, t, t', _, he, _ => wordD_ends he
  | 0, a :: p, hn, t, t', _, _, h => absurd hn (by simp)
  | n + 1, a :: p, hn, t, t', hs, he, h => by
    simp only [List.length_cons] at hn
    by_cases hb : isEnd a = true
    · rw [wordD_ends (s := a :: p ++ t) hb] at h
      have := congrArg List.length (Option.some.inj h)
      simp at this
      omega
    · have hb1 : endsB (a :: p ++ t) = false := by simpa [endsB] using hb
      have hb2 : endsB (a :: p ++ t') = false := by simpa [endsB] using hb
      cases hu : unitD 30 (a :: p ++ t) with
      | none => rw [wordD_none hb1 hu] at h; cases h
      | some x =>
        rw [wordD_unit hb1 hu] at h
        obtain ⟨z, y, rfl, hz⟩ := split_of (wordL_ends _ _ _ h) (unitD_ends 30 _ _ hu)
        have hlen := unitD_takes 30 _ _ hu
        rw [hz] at hu hb2 hlen ⊢
        have hzl := congrArg List.length hz
        simp only [List.length_append, List.length_cons] at hlen hzl
        rw [List.append_assoc] at hu hb2 ⊢
        rw [wordD_unit hb2 ((lev_loc 30).1 _ _ _ (hs.app y) hu)]
        exact word_loc n y (by omega) t t' hs he h
theorem tokOne_view {a : UInt8} {r t : Txt} {l : List Tok} (h : tokOne a r = some (l, t)) :
    ((a = 32 ∨ a = 9) ∧ l = [] ∧ t = r) ∨ (a = 35 ∧ l = [] ∧ t = lineEnd r) ∨ (a = 10 ∧ l = [(2, [10])] ∧ t = r) ∨
    ((¬ (a = 32 ∨ a = 9) ∧ ¬ a = 35 ∧ ¬ a = 10) ∧ isEnd a = true ∧ l = [(1, (a :: r).take (opLen (a :: r)))] ∧ t = (a :: r).drop (opLen (a :: r))) ∨
    ((¬ (a = 32 ∨ a = 9) ∧ ¬ a = 35 ∧ ¬ a = 10) ∧ isEnd a = false ∧ ∃ p, p ≠ [] ∧ a :: r = p ++ t ∧ wordD (p ++ t) = some t ∧ l = [(0, p)]) := by
  unfold tokOne at h
  by_cases h1 : a = 32 ∨ a = 9
  · rw [if_pos h1] at h
    obtain ⟨rfl, rfl⟩ := Prod.mk.injEq .. ▸ Option.some.inj h
    exact .inl ⟨h1, rfl, rfl⟩
  rw [if_neg h1] at h
  by_cases h2 : a = 35
  · rw [if_pos h2] at h
    obtain ⟨rfl, rfl⟩ := Prod.mk.injEq .. ▸ Option.some.inj h
    exact .inr (.inl ⟨h2, rfl, rfl⟩)
  rw [if_neg h2] at h
  by_cases h3 : a = 10
  · rw [if_pos h3] at h
    obtain ⟨rfl, rfl⟩ := Prod.mk.injEq .. ▸ Option.some.inj h
    exact .inr (.inr (.inl ⟨h3, rfl, rfl⟩))
  rw [if_neg h3] at h
  by_cases h4 : isEnd a = true
  · rw [if_pos h4] at h
    obtain ⟨rfl, rfl⟩ := Prod.mk.injEq .. ▸ Option.some.inj h
    exact .inr (.inr (.inr (.inl ⟨⟨h1, h2, h3⟩, h4, rfl, rfl⟩)))
  rw [if_neg h4] at h
  have h4 : isEnd a = false := by simpa using h4
  refine .inr (.inr (.inr (.inr ⟨⟨h1, h2, h3⟩, h4, ?_⟩)))
  split at h
  · rename_i t' ht
    obtain ⟨rfl, rfl⟩ := Prod.mk.injEq .. ▸ Option.some.inj h
    obtain ⟨p, hp⟩ := wordL_ends _ _ _ ht
    have hlen := wordD_length (s := a :: r) h4 ht
    refine ⟨p, ?_, hp.symm, by rw [hp]; exact ht, ?_⟩
    · rintro rfl
      rw [← hp] at hlen
      simp at hlen
    · rw [← hp]
      simp
  · cases h
theorem tokOne_word {a : UInt8} {r t p : Txt} (h : ¬ (a = 32 ∨ a = 9) ∧ ¬ a = 35 ∧ ¬ a = 10) (he : isEnd a = false) (hp : a :: r = p ++ t) (hw : wordD (p ++ t) = some t) : tokOne a r = some ([(0, p)], t) := by
  unfold tokOne
  rw [if_neg h.1, if_neg h.2.1, if_neg h.2.2, if_neg (by rw [he]; decide), hp, hw]
  simp
theorem tokOne_op {a : UInt8} {r : Txt} (h : ¬ (a = 32 ∨ a = 9) ∧ ¬ a = 35 ∧ ¬ a = 10) (he : isEnd a = true) : tokOne a r = some ([(1, (a :: r).take (opLen (a :: r)))], (a :: r).drop (opLen (a :: r))) := by
  unfold tokOne
  rw [if_neg h.1, if_neg h.2.1, if_neg h.2.2, if_pos he]
theorem toks_one {a : UInt8} {r t : Txt} {l : List Tok} (h : tokOne a r = some (l, t)) : toks (a :: r) = (toks t).map (l ++ ·) := by
  rw [toks_cons, h]
  rfl
theorem map_app (o : Option (List Tok)) (l m : List Tok) : (o.map (m ++ ·)).map (l ++ ·) = o.map ((l ++ m) ++ ·) := by
  cases o <;> simp
theorem map_nil (o : Option (List Tok)) : o.map (([] : List Tok) ++ ·) = o := by
  cases o <;> simp
end Go.Proofs.YthommfjiaalecaaDoor
