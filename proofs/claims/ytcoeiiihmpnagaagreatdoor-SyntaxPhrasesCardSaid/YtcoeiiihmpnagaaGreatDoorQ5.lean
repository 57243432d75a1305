/- Texts of one proof, one behind the other. Conditions: as each theorem names them. -/
import Derived.Test.YtcoeiiihmpnagaaGreatDoorQ4
import Derived.Tactics
import Derived.Tactics2
import Derived.Defers
import Derived.Recover
import Derived.Laws.Pointers
import Derived.Maps.Keyed
import Derived.DeepKeys3
import Derived.Shelf.Strings.Trim
import Derived.Shelf.Small.Utf8
import Derived.Shelf.Small.Strs
import Derived.Shelf.Small.Wraps
import Derived.Shelf.Strings.Search1
import Derived.Shelf.Strings.Prefix
import Derived.Shelf.Unicode.Decode
import Derived.Shelf.Strings.Runes
import Derived.Shelf.Strings.AsciiSet
import Derived.Shelf.Unicode.DecodeSlow
import Derived.Shelf.Unicode.DecodeAny
import Derived.Shelf.Slices.Turned
import Derived.Test.YtcoeiiihmpnagaaGreatDoorProg
import Derived.Laws.RangeString
import Derived.Shelf.Strings.SlTrimAscii
namespace Go.Proofs.YtcoeiiihmpnagaaGreatDoor
open Go.RowKit Vc
variable {w : World}
theorem getD_some {α : Type} {p : List α} {i : Nat} (h : i < p.length) : p[i]? = some p[i] := List.getElem?_eq_getElem h
theorem byte_eq {a b : UInt8} : (a.toNat : Int) = (b.toNat : Int) ↔ a = b := ⟨fun h => UInt8.toNat_inj.1 (by omega), fun h => by rw [h]⟩
theorem tmod_nat (k m : Nat) : Int.tmod (k : Int) (m : Int) = ((k % m : Nat) : Int) := (Int.ofNat_tmod k m).symm
def strs (l : List Txt) : List Value := l.map fun x => .string (S x)
theorem strs_length (l : List Txt) : (strs l).length = l.length := by simp [strs]
def StrsAt (w : World) (p : Option Addr) (n : Nat) (l : List Txt) : Prop := l.length = n ∧ At w p n (strs l)
theorem StrsAt.still {p : Option Addr} {n : Nat} {l : List Txt} {w' : World} (h : StrsAt w p n l) (hm : Still w w') : StrsAt w' p n l := ⟨h.1, h.2.still hm⟩
theorem StrsAt.of {B : Nat} {p : Option Addr} {n C : Nat} {l : List Txt} (h : Owns w B 9 1 (.slice p n C) n (strs l)) : StrsAt w p n l := ⟨by have := h.length; rw [strs_length] at this; omega, At.own h⟩
theorem StrsAt.row {g : Nat} {t : TypeId} {l : List Txt} (h : Row w g t ⟨strs l⟩) : StrsAt w (some ⟨g, 0, none⟩) l.length l := ⟨rfl, At.row h⟩
theorem StrsAt.nil (w : World) : StrsAt w none 0 [] := ⟨rfl, fun h => absurd h (Nat.lt_irrefl _)⟩
theorem StrsAt.get {p : Option Addr} {n : Nat} {l : List Txt} (h : StrsAt w p n l) {k : Nat} (hk : k < n) : ∃ a, p = some a ∧ w.cell? (a.add k) = some (.string (S (l[k]'(by have := h.1; omega)))) := by
  obtain ⟨a, h1, h2⟩ := h.2 (by omega)
  refine ⟨a, h1, h2 k _ ?_⟩
  have := h.1
  simp [strs, show k < l.length by omega]
def u8s (vs : List Nat) : List Value := vs.map fun v : Nat => .int .u8 (v : Int)
def U8At (w : World) (p : Option Addr) (n : Nat) (vs : List Nat) : Prop := vs.length = n ∧ (∀ v ∈ vs, v < 256) ∧ At w p n (u8s vs)
theorem U8At.still {p : Option Addr} {n : Nat} {vs : List Nat} {w' : World} (h : U8At w p n vs) (hm : Still w w') : U8At w' p n vs := ⟨h.1, h.2.1, h.2.2.still hm⟩
theorem U8At.get {p : Option Addr} {n : Nat} {vs : List Nat} (h : U8At w p n vs) {k : Nat} (hk : k < n) : ∃ a v, p = some a ∧ vs[k]? = some v ∧ v < 256 ∧ w.cell? (a.add k) = some (.int .u8 (v : Int)) := by
  obtain ⟨h1, h2, h3⟩ := h
  obtain ⟨a, h4, h5⟩ := h3 (by omega)
  refine ⟨a, vs[k]'(by omega), h4, getD_some _, h2 _ (List.getElem_mem _), h5 k _ ?_⟩
  simp [u8s, show k < vs.length by omega]
def piecesR (sg : List Txt) (vs : List Nat) : Txt := (vs.take 14).flatMap fun v => sg.getD (v % sg.length) []
theorem pieces_spec {l q : Option Addr} {lL lC qC : Nat} {vs : List Nat} {sg : List Txt} (hl : U8At w l lL vs) (hr : StrsAt w q sg.length sg) (h0 : 0 < sg.length) (h1 : sg.length < 1000) (h8 : ∀ x ∈ sg, x.length ≤ 1000) :
    Calls Tryz.prog fn_law07_Pieces #[.slice l lL lC, .slice q sg.length qC] w (fun e w' => e = .returned (.string (S (piecesR sg vs))) ∧ w' = w) := by
  refine law07_Pieces_calls _ _ _ _ _ _ _ _ ?_
  have hlen := hl.1
  refine ⟨fun s i w1 => ∃ n : Nat, i = (n : Int) ∧ n ≤ 14 ∧ n ≤ lL ∧ s.length ≤ n * 1000 ∧ s = piecesR sg (vs.take n) ∧ w1 = w, fun _ i _ => 14 - i.toNat, ⟨0, rfl, by omega, Nat.zero_le _, by simp, rfl, rfl⟩, ?_⟩
  rintro s _ _ w1 ⟨n, rfl, hn, hnl, hs, he, rfl⟩
  have e1 : IntKind.i64.wrap ((n : Int) + 1) = ((n + 1 : Nat) : Int) := by rw [wrap_i64 (by omega) (by omega)]; omega
  refine bsel_of (fun hx => bsel_of (fun hy => ?_) (fun hy => ⟨?_, rfl⟩)) (fun hx => ⟨?_, rfl⟩)
  · have hx : n < lL := by have := of_decide_eq_true hx; omega
    have hy : n < 14 := by have := of_decide_eq_true hy; omega
    obtain ⟨a, v, rfl, hg, hv, hc⟩ := hl.get hx
    have ev : IntKind.i64.wrap (v : Int) = (v : Int) := wrap_i64 (by omega) (by omega)
    have hlt : v % sg.length < sg.length := Nat.mod_lt _ h0
    have hl8 := h8 _ (List.getElem_mem hlt)
    obtain ⟨b, rfl, cb⟩ := hr.get hlt
    refine ⟨by omega, by omega, (v : Int), by rw [Int.toNat_natCast, Nat.mul_one]; exact hc, by omega, ?_⟩
    rw [ev, tmod_nat, e1, Int.toNat_natCast]
    refine ⟨by omega, by omega, sg[v % sg.length], ?_, by omega, ⟨n + 1, rfl, hy, hx, by simp; omega, ?_, rfl⟩, by dsimp only; omega⟩
    · rw [Nat.mul_one]
      exact cb
    · rw [he, piecesR, piecesR, List.take_take, List.take_take, Nat.min_eq_right (by omega), Nat.min_eq_right (by omega), List.take_add_one, hg, List.flatMap_append]
      simp [List.getD, hlt]
  · have hy : n = 14 := by have := of_decide_eq_false hy; omega
    rw [he, piecesR, piecesR, List.take_take, hy, Nat.min_self]
  · have hx : n = lL := by have := of_decide_eq_false hx; omega
    rw [he, List.take_of_length_le (by omega)]
end Go.Proofs.YtcoeiiihmpnagaaGreatDoor
namespace Go.Proofs.YtcoeiiihmpnagaaGreatDoor
open Go.RowKit Vc
theorem tokens_idle (p q : Addr) (w : World) :
    CallsD Tryz.prog 20 #[.pointer (some p), .pointer (some q)] .returning w fun e u' w' => e = .returned (.tuple #[]) ∧ u' = .returning ∧ w' = w := by
  refine callsD_of_wpS Tryz.func20 rfl fun c₀ cs hu => ?_
  apply wpS_seq
  apply wpS_region
  simp [wpOpsS, go_sem, recoverD, hu, Tryz.ntmps20, Exit.thenS]
  apply wpS_seq
  apply wpS_region
  simp [wpOpsS, go_sem, Tryz.ntmps20, Exit.thenS]
  refine wpS_cond (t := false) (by simp [Act.eval, Array.replicate]) ?_
  simp only [Bool.false_eq_true, if_false]
  refine wpS_of_wp (wp_skip ?_)
  cases c₀
  simp_all [bodyPostS, results, Tryz.results20]
theorem tokens_panics (p q : Addr) (n : Int) (w : World) (hp : Wr w p) (hq : Wr (w.drew.setCell p (.slice none 0 0)) q) :
    CallsD Tryz.prog 20 #[.pointer (some p), .pointer (some q)] (.panicking [{ v := .iface 32 (.int .i64 n), recovered := false }]) w fun e u' w' => e = .returned (.tuple #[]) ∧ settle u' = .returning ∧ w' = (w.drew.setCell p (.slice none 0 0)).setCell q (.int .i64 n) := by
  refine callsD_of_wpS Tryz.func20 rfl fun c₀ cs hu => ?_
  apply wpS_seq
  apply wpS_region
  simp [wpOpsS, go_sem, recoverD, hu, Tryz.ntmps20, Exit.thenS]
  apply wpS_seq
  apply wpS_region
  simp [wpOpsS, go_sem, Tryz.ntmps20, Exit.thenS]
  refine wpS_cond (t := true) (by simp [Act.eval, Array.replicate]) ?_
  simp only [if_true]
  refine wpS_of_wp ?_
  have et : (#[Value.pointer (some p), Value.pointer (some q)] ++ ((((Array.replicate 6 undef).setIfInBounds 1 (Value.iface 32 (Value.int IntKind.i64 n))).setIfInBounds 0 (Value.iface 32 (Value.int IntKind.i64 n))).setIfInBounds 2 (Value.iface 32 (Value.int IntKind.i64 n))).setIfInBounds 3 (Value.bool true)) =
      ⟨[.pointer (some p), .pointer (some q), .iface 32 (.int .i64 n), .iface 32 (.int .i64 n), .iface 32 (.int .i64 n), .bool true, undef, undef]⟩ := by rfl
  rw [et]
  refine drawn_sound (P := Tryz.prog) (m := .held) (ds := []) (l := [.pointer (some p), .pointer (some q), .iface 32 (.int .i64 n), .iface 32 (.int .i64 n), .iface 32 (.int .i64 n), .bool true, undef, undef]) (K := fun l' w' => w' = (w.drew.setCell p (.slice none 0 0)).setCell q (.int .i64 n)) (E := fun _ _ => False) (Eq.mp (α := ∃ Sw : World → Prop, Sw w.drew ∧ (Wr w.drew p ∧ Wr (w.drew.setCell p (.slice none 0 0)) q ∧ (w.drew.setCell p (.slice none 0 0)).setCell q (.int .i64 n) = (w.drew.setCell p (.slice none 0 0)).setCell q (.int .i64 n)) ∧ (Wr w.drew p ∧ Wr (w.drew.setCell p (.slice none 0 0)) q ∧ (w.drew.setCell p (.slice none 0 0)).setCell q (.int .i64 n) = (w.drew.setCell p (.slice none 0 0)).setCell q (.int .i64 n))) (by kernel_rfl) ⟨fun _ => True, trivial, ⟨hp, hq, rfl⟩, hp, hq, rfl⟩) ?_ ?_
  · rintro l' w' _ rfl
    cases c₀
    simp_all [bodyPostS, results, Tryz.results20, act, settle]
    rfl
  · intro l' c w' _ h
    exact h.elim
end Go.Proofs.YtcoeiiihmpnagaaGreatDoor
namespace Go.Proofs.YtcoeiiihmpnagaaGreatDoor
open Go.RowKit Vc
variable {w : World}
theorem begins_spec (s t : Txt) (n : Nat) (hn : n ≤ s.length) (hs : s.length < 1000000) (ht : t.length < 1000000) : Calls Tryz.prog fn_ref07_begins #[.string (S s), .int .i64 (n : Int), .string (S t)] w
    (fun e w' => e = .returned (.bool (pf t (s.drop n))) ∧ w' = w) := by
  refine ref07_begins_calls _ _ _ _ _ ?_
  have e1 : IntKind.i64.wrap ((n : Int) + (t.length : Int)) = ((n + t.length : Nat) : Int) := by rw [wrap_i64 (by omega) (by omega)]; omega
  unfold vc_ref07_begins
  rw [e1, Int.toNat_natCast, Int.toNat_natCast]
  refine bsel_of (fun h => ⟨by omega, by omega, by have := of_decide_eq_true h; omega, ?_, rfl⟩) (fun h => ⟨?_, rfl⟩)
  · have h := of_decide_eq_true h
    rw [show n + t.length - n = t.length by omega]
    unfold pf
    congr 2
    apply decide_eq_decide.2
    rw [List.length_drop]
    exact ⟨fun e => ⟨by omega, e⟩, fun e => e.2⟩
  · have h := of_decide_eq_false h
    unfold pf
    rw [decide_eq_false]
    rw [List.length_drop]
    intro e
    omega
def SkipR (d : Nat) : Prop := ∀ (w : World) (s : Txt) (n : Nat), n < s.length → s.length < 1000000 → Calls Tryz.prog fn_ref07_Skip #[.string (S s), .int .i64 (n : Int), .int .i64 (31 - (d : Int))] w (fun e w' => e = .returned (.int .i64 (ix s (unitD d (s.drop n)))) ∧ w' = w)
def UntilR (d : Nat) : Prop := ∀ (w : World) (s : Txt) (n : Nat) (c : UInt8), n ≤ s.length → s.length < 1000000 → Calls Tryz.prog fn_ref07_until #[.string (S s), .int .i64 (n : Int), .int .u8 (c.toNat : Int), .int .i64 (31 - (d : Int))] w (fun e w' => e = .returned (.int .i64 (ix s (untilD d c (s.drop n)))) ∧ w' = w)
theorem skip_of {d : Nat} (hd : d ≤ 31) (ih : d ≠ 0 → UntilR (d - 1)) : SkipR d := by
  intro w s n hn hs
  refine ref07_Skip_calls _ _ _ _ _ ?_
  refine bsel_of (fun h30 => ?_) (fun h30 => ?_)
  · have hd0 : d = 0 := by have := of_decide_eq_true h30; omega
    subst hd0
    exact ⟨rfl, rfl⟩
  have hd0 : d ≠ 0 := by have := of_decide_eq_false h30; omega
  obtain ⟨k, rfl⟩ : ∃ k, d = k + 1 := ⟨d - 1, by omega⟩
  have ih := ih hd0
  rw [Nat.add_sub_cancel] at ih
  have ed : IntKind.i64.wrap (31 - ((k + 1 : Nat) : Int) + 1) = 31 - (k : Int) := by rw [wrap_i64 (by omega) (by omega)]; omega
  have e1 : IntKind.i64.wrap ((n : Int) + 1) = ((n + 1 : Nat) : Int) := by rw [wrap_i64 (by omega) (by omega)]; omega
  have e2 : IntKind.i64.wrap ((n : Int) + 2) = ((n + 2 : Nat) : Int) := by rw [wrap_i64 (by omega) (by omega)]; omega
  have hdr : s.drop n = s[n] :: s.drop (n + 1) := List.drop_eq_getElem_cons hn
  have hu : unitD (k + 1) (s.drop n) = unitF (untilD k) (s[n] :: s.drop (n + 1)) := by rw [hdr]; rfl
  have hg : s[Int.toNat (n : Int)]? = some s[n] := by rw [Int.toNat_natCast]; exact getD_some hn
  rw [hu, ed, e1, e2]
  have unt : ∀ (m : Nat) (c : UInt8) (o : Option Txt), m ≤ s.length → untilD k c (s.drop m) = o → ∀ w0 : World, Calls Tryz.prog fn_ref07_until #[(.string (S s)), (.int .i64 (m : Int)), (.int .u8 (c.toNat : Int)), (.int .i64 (31 - (k : Int)))] w0 (fun ed w2 => (∃ r : Int, ed = .returned (.int .i64 r) ∧ Ending.returned (.int .i64 r) = .returned (.int .i64 (ix s o)) ∧ w2 = w0) ∨ (∃ ch, ed = .panicked ch ∧ Ending.panicked ch = .returned (.int .i64 (ix s o)) ∧ w2 = w0)) := by
    intro m c o hm ho w0
    refine (ih w0 s m c hm hs).mono ?_
    rintro _ w2 ⟨rfl, rfl⟩
    exact .inl ⟨_, rfl, by rw [ho], rfl⟩
  refine ⟨by omega, s[n], hg, bsel_of (fun h92 => ?_) (fun h92 => ⟨by omega, s[n], hg, bsel_of (fun h39 => ?_) (fun h39 => ⟨by omega, s[n], hg, bsel_of (fun h34 => ?_) (fun h34 => ?_)⟩)⟩)⟩
  · have h92 : s[n] = 92 := byte_eq.1 (of_decide_eq_true h92)
    simp only [unitF, if_pos h92]
    refine bsel_of (fun h => ?_) (fun h => ?_)
    · have h : n + 1 = s.length := by have := of_decide_eq_true h; omega
      rw [List.drop_of_length_le (by omega)]
      exact ⟨rfl, trivial⟩
    · have h : n + 1 < s.length := by have := of_decide_eq_false h; omega
      rw [List.drop_eq_getElem_cons h]
      exact ⟨by rw [ix_drop (by omega)], trivial⟩
  · have h92 : ¬ s[n] = 92 := fun e => of_decide_eq_false h92 (byte_eq.2 e)
    have h39 : s[n] = 39 := byte_eq.1 (of_decide_eq_true h39)
    simp only [unitF, if_neg h92, if_pos h39]
    refine ⟨fun i w1 => ∃ m : Nat, i = (m : Int) ∧ m ≤ s.length ∧ quoteEnd (s.drop m) = quoteEnd (s.drop (n + 1)) ∧ w1 = w, fun i _ => s.length - i.toNat, ⟨n + 1, rfl, hn, rfl, rfl⟩, ?_⟩
    rintro _ _ w1 ⟨m, rfl, hm, hq, rfl⟩
    rw [← hq]
    have em : IntKind.i64.wrap ((m : Int) + 1) = ((m + 1 : Nat) : Int) := by rw [wrap_i64 (by omega) (by omega)]; omega
    rw [em]
    refine bsel_of (fun hx => ?_) (fun hx => ?_)
    · have hx : m < s.length := by have := of_decide_eq_true hx; omega
      have hdm : s.drop m = s[m] :: s.drop (m + 1) := List.drop_eq_getElem_cons hx
      refine ⟨by omega, s[m], by rw [Int.toNat_natCast]; exact getD_some hx, bsel_of (fun h => ?_) (fun h => ⟨⟨m + 1, rfl, hx, ?_, rfl⟩, by dsimp only; omega⟩)⟩
      · have h : s[m] = 39 := byte_eq.1 (of_decide_eq_true h)
        rw [hdm]
        simp only [quoteEnd, if_pos h]
        exact ⟨by rw [ix_drop (by omega)], trivial⟩
      · have h : ¬ s[m] = 39 := fun e => of_decide_eq_false h (byte_eq.2 e)
        rw [hdm]
        simp only [quoteEnd, if_neg h]
    · have hx : m = s.length := by have := of_decide_eq_false hx; omega
      rw [List.drop_of_length_le (by omega)]
      exact ⟨rfl, rfl⟩
  · have h92 : ¬ s[n] = 92 := fun e => of_decide_eq_false h92 (byte_eq.2 e)
    have h39 : ¬ s[n] = 39 := fun e => of_decide_eq_false h39 (byte_eq.2 e)
    have h34 : s[n] = 34 := byte_eq.1 (of_decide_eq_true h34)
    simp only [unitF, if_neg h92, if_neg h39, if_pos h34]
    exact unt (n + 1) 34 _ hn rfl w
  · have h92 : ¬ s[n] = 92 := fun e => of_decide_eq_false h92 (byte_eq.2 e)
    have h39 : ¬ s[n] = 39 := fun e => of_decide_eq_false h39 (byte_eq.2 e)
    have h34 : ¬ s[n] = 34 := fun e => of_decide_eq_false h34 (byte_eq.2 e)
    simp only [unitF, if_neg h92, if_neg h39, if_neg h34]
    refine (begins_spec s [36, 40] n (by omega) hs (by decide)).mono ?_
    rintro _ w3 ⟨rfl, rfl⟩
    rw [hdr, pf_two]
    refine .inl ⟨_, rfl, ?_⟩
    rcases Nat.lt_or_ge (n + 1) s.length with h1 | h1
    · have hd2 : s.drop (n + 1) = s[n + 1] :: s.drop (n + 2) := List.drop_eq_getElem_cons h1
      rw [hd2]
      dsimp only [dollar]
      refine bsel_of (fun h40 => ?_) (fun h40 => (begins_spec s [36, 123] n (by omega) hs (by decide)).mono ?_)
      · rw [if_pos (of_decide_eq_true h40)]
        exact unt (n + 2) 41 _ h1 rfl w3
      · rintro _ w4 ⟨rfl, rfl⟩
        rw [hdr, pf_two, hd2]
        dsimp only
        rw [if_neg (of_decide_eq_false h40)]
        refine .inl ⟨_, rfl, bsel_of (fun h123 => ?_) (fun h123 => ?_)⟩
        · rw [if_pos (of_decide_eq_true h123)]
          exact unt (n + 2) 125 _ h1 rfl w4
        · rw [if_neg (of_decide_eq_false h123), ← hd2]
          exact ⟨by rw [ix_drop (by omega)], rfl⟩
    · have hd2 : s.drop (n + 1) = [] := List.drop_of_length_le h1
      rw [hd2]
      dsimp only [dollar]
      refine bsel_of (fun h40 => by cases h40) (fun h40 => (begins_spec s [36, 123] n (by omega) hs (by decide)).mono ?_)
      rintro _ w4 ⟨rfl, rfl⟩
      rw [hdr, pf_two, hd2]
      refine .inl ⟨_, rfl, bsel_of (fun h123 => by cases h123) (fun h123 => ?_)⟩
      rw [← hd2]
      exact ⟨by rw [ix_drop (by omega)], rfl⟩
theorem untilr_of {d : Nat} (hd : d ≤ 31) (hu : SkipR d) (ih : d ≠ 0 → UntilR (d - 1)) : UntilR d := by
  intro w s n c hn hs
  refine ref07_until_calls _ _ _ _ _ _ ?_
  refine ⟨fun i w1 => ∃ m : Nat, i = (m : Int) ∧ m ≤ s.length ∧ untilD d c (s.drop m) = untilD d c (s.drop n) ∧ w1 = w, fun i _ => s.length - i.toNat, ⟨n, rfl, hn, rfl, rfl⟩, ?_⟩
  rintro _ _ w1 ⟨m, rfl, hm, hq, rfl⟩
  rw [← hq]
  have em : IntKind.i64.wrap ((m : Int) + 1) = ((m + 1 : Nat) : Int) := by rw [wrap_i64 (by omega) (by omega)]; omega
  rw [em]
  refine bsel_of (fun hx => ?_) (fun hx => ?_)
  case _ =>
    have hx : m < s.length := by have := of_decide_eq_true hx; omega
    have hdm : s.drop m = s[m] :: s.drop (m + 1) := List.drop_eq_getElem_cons hx
    have hg : s[Int.toNat (m : Int)]? = some s[m] := by rw [Int.toNat_natCast]; exact getD_some hx
    rw [hdm, untilD_cons]
    have hq' := hq
    rw [hdm, untilD_cons] at hq'
    refine ⟨by omega, s[m], hg, bsel_of (fun hb => ?_) (fun hb => ?_)⟩
    · have hb : s[m] = c := byte_eq.1 (of_decide_eq_true hb)
      rw [if_pos hb]
      exact ⟨by rw [ix_drop (by omega)], rfl⟩
    · have hb : ¬ s[m] = c := fun e => of_decide_eq_false hb (byte_eq.2 e)
      rw [if_neg hb] at hq' ⊢
      -- next: where it goes on
      refine ⟨fun nx w6 => ∃ o : Option Txt, nx = ix s o ∧ (∀ t, o = some t → t <:+ s ∧ t.length < s.length - m) ∧ o.bind (untilD d c) = untilD d c (s.drop n) ∧ w6 = w1, ⟨fun x w2 => x = decide (c = 34 ∧ s[m] = 39) ∧ w2 = w1, bsel_of (fun hc => ⟨by omega, s[m], hg, ?_, rfl⟩) (fun hc => ⟨?_, rfl⟩), ?_⟩, ?_⟩
      · have hc : c = 34 := byte_eq.1 (of_decide_eq_true hc)
        apply decide_eq_decide.2
        exact ⟨fun h => ⟨hc, byte_eq.1 h⟩, fun h => byte_eq.2 h.2⟩
      · rw [decide_eq_false (fun h => of_decide_eq_false hc (byte_eq.2 h.1))]
      · rintro _ _ w2 ⟨rfl, rfl⟩
        have unit : (unitD d (s[m] :: s.drop (m + 1))).bind (untilD d c) = untilD d c (s.drop n) → Calls Tryz.prog fn_ref07_Skip #[(.string (S s)), (.int .i64 (m : Int)), (.int .i64 (31 - (d : Int)))] w2 (fun ed1 w4 => (∃ r1 : Int, ed1 = .returned (.int .i64 r1) ∧ ∃ o : Option Txt, r1 = ix s o ∧ (∀ t, o = some t → t <:+ s ∧ t.length < s.length - m) ∧ o.bind (untilD d c) = untilD d c (s.drop n) ∧ w4 = w2) ∨ (∃ ch1, ed1 = .panicked ch1 ∧ Ending.panicked ch1 = .returned (.int .i64 (ix s (if c = 34 ∧ s[m] = 39 then if d = 0 then none else untilD d c (s.drop (m + 1)) else if c = 41 ∧ s[m] = 40 then if d = 0 then none else (untilD (d - 1) 41 (s.drop (m + 1))).bind (untilD d c) else (unitD d (s[m] :: s.drop (m + 1))).bind (untilD d c)))) ∧ w4 = w2)) := by
          intro ho
          refine (hu w2 s m hx hs).mono ?_
          rintro _ w4 ⟨rfl, rfl⟩
          refine .inl ⟨_, rfl, unitD d (s.drop m), rfl, fun t ht => ⟨(unitD_ends d _ _ ht).trans (drop_suf s m), ?_⟩, by rw [hdm]; exact ho, rfl⟩
          have := unitD_takes d _ _ ht
          rw [List.length_drop] at this
          exact this
        refine bsel_of (fun hqq => ?_) (fun hqq => ?_)
        · have hqq := of_decide_eq_true hqq
          rw [if_pos hqq] at hq' ⊢
          refine bsel_of (fun h30 => ?_) (fun h30 => ?_)
          · have hd0 : d = 0 := by have := of_decide_eq_true h30; omega
            rw [if_pos hd0]
            exact ⟨rfl, rfl⟩
          · have hd0 : ¬ d = 0 := by have := of_decide_eq_false h30; omega
            rw [if_neg hd0] at hq'
            refine ⟨some (s.drop (m + 1)), by rw [ix_drop (by omega)], fun t ht => ?_, hq', rfl⟩
            obtain rfl := Option.some.inj ht
            refine ⟨drop_suf _ _, ?_⟩
            rw [List.length_drop]
            omega
        · have hqq := of_decide_eq_false hqq
          rw [if_neg hqq] at hq'
          refine bsel_of (fun hc => ⟨by omega, s[m], hg, bsel_of (fun hb40 => ?_) (fun hb40 => ?_)⟩) (fun hc => ?_)
          · have hc : c = 41 := byte_eq.1 (of_decide_eq_true hc)
            have hb40 : s[m] = 40 := byte_eq.1 (of_decide_eq_true hb40)
            rw [if_pos ⟨hc, hb40⟩] at hq'
            refine bsel_of (fun h30 => ?_) (fun h30 => ?_)
            · have hd0 : ¬ d = 0 := by have := of_decide_eq_true h30; omega
              rw [if_neg hd0] at hq'
              have e1 : IntKind.i64.wrap (31 - (d : Int) + 1) = 31 - ((d - 1 : Nat) : Int) := by rw [wrap_i64 (by omega) (by omega)]; omega
              rw [e1]
              refine (ih hd0 w2 s (m + 1) 41 hx hs).mono ?_
              rintro _ w3 ⟨rfl, rfl⟩
              refine .inl ⟨_, rfl, untilD (d - 1) 41 (s.drop (m + 1)), rfl, fun t ht => ⟨(untilD_ends (d - 1) 41 _ _ ht).trans (drop_suf s (m + 1)), ?_⟩, hq', rfl⟩
              have := untilD_takes (d - 1) 41 _ _ ht
              rw [List.length_drop] at this
              omega
            · have hd0 : d = 0 := by have := of_decide_eq_false h30; omega
              rw [if_pos hd0] at hq'
              exact ⟨none, rfl, (fun t ht => by cases ht), hq', rfl⟩
          · have hb40 : ¬ s[m] = 40 := fun e => of_decide_eq_false hb40 (byte_eq.2 e)
            rw [if_neg (fun h => hb40 h.2)] at hq'
            exact unit hq'
          · have hc : ¬ c = 41 := fun e => of_decide_eq_false hc (byte_eq.2 e)
            rw [if_neg (fun h => hc h.1)] at hq'
            exact unit hq'
      · rintro _ _ w6 ⟨o, rfl, ho1, ho2, rfl⟩
        rw [hq']
        cases o with
        | none =>
          refine bsel_of (fun _ => ⟨?_, rfl⟩) (fun h => by have := of_decide_eq_false h; simp [ix] at this)
          rw [← ho2]
          rfl
        | some t =>
          obtain ⟨h1, h2⟩ := ho1 t rfl
          have hle := h1.length_le
          refine bsel_of (fun h => ?_) (fun _ => ⟨⟨s.length - t.length, rfl, by omega, ?_, rfl⟩, ?_⟩)
          · have h := of_decide_eq_true h
            simp only [ix] at h
            omega
          · rw [← suf_drop h1]
            exact ho2
          · simp only [ix]
            omega
  · have hx : m = s.length := by have := of_decide_eq_false hx; omega
    rw [List.drop_of_length_le (by omega), untilD_nil]
    exact ⟨rfl, rfl⟩
theorem levelsR : ∀ d, d ≤ 31 → SkipR d ∧ UntilR d
  | 0, h => ⟨skip_of h (fun h => absurd rfl h), untilr_of h (skip_of h (fun h => absurd rfl h)) (fun h => absurd rfl h)⟩
  | d + 1, h => by
    have ih := (levelsR d (by omega)).2
    have hu : SkipR (d + 1) := skip_of h (fun _ => ih)
    exact ⟨hu, untilr_of h hu (fun _ => ih)⟩
theorem ref_skip_spec (s : Txt) (n : Nat) (hn : n < s.length) (hs : s.length < 1000000) : Calls Tryz.prog fn_ref07_Skip #[.string (S s), .int .i64 (n : Int), .int .i64 1] w (fun e w' => e = .returned (.int .i64 (ix s (unitD 30 (s.drop n)))) ∧ w' = w) :=
  (levelsR 30 (by decide)).1 w s n hn hs
end Go.Proofs.YtcoeiiihmpnagaaGreatDoor
namespace Go.Proofs.YtcoeiiihmpnagaaGreatDoor
open Go.RowKit Vc
def bArr (n : Nat) (b : Nat → Bool) : Array Bool := ⟨(List.range n).map b⟩
abbrev upd (b : Nat → Bool) (i : Nat) : Nat → Bool := fun j => if j = i then true else b j
theorem bArr_getD {n : Nat} {b : Nat → Bool} {j : Nat} {d : Bool} (h : j < n) : (bArr n b).getD j d = b j := by
  simp [bArr, Array.getD_eq_getD_getElem?, h]
theorem bArr_set {n i : Nat} {b : Nat → Bool} : (bArr n b).setIfInBounds i true = bArr n (upd b i) := by
  apply Array.ext'
  simp only [bArr, Array.toList_setIfInBounds]
  apply List.ext_getElem?
  intro j
  rw [List.getElem?_set]
  simp only [List.length_map, List.length_range, List.getElem?_map]
  by_cases hj : i = j
  · subst hj
    simp only [↓reduceIte]
    by_cases hi : i < n
    · simp [hi]
    · simp [hi]
  · rw [if_neg hj]
    by_cases hi : j < n
    · simp [hi, Ne.symm hj]
    · simp [hi]
def cnt (b : Nat → Bool) : Nat → Nat
  | 0 => 0
  | n + 1 => cnt b n + (!b n).toNat
theorem cnt_upd {b : Nat → Bool} {i : Nat} (hb : b i = false) : ∀ n, i < n → cnt b n = cnt (upd b i) n + 1
  | 0, h => by omega
  | n + 1, h => by
    have off : ∀ m, m ≤ i → cnt (upd b i) m = cnt b m := by
      intro m
      induction m with
      | zero => intro _; rfl
      | succ m ih =>
        intro hm
        have e : upd b i m = b m := if_neg (show ¬ m = i by omega)
        simp only [cnt, ih (by omega), e]
    simp only [cnt]
    by_cases hn : n = i
    · subst hn
      have e : upd b n n = true := if_pos rfl
      rw [off n (Nat.le_refl _), hb, e]
      rfl
    · rw [cnt_upd hb n (by omega)]
      have e : upd b i n = b n := if_neg hn
      rw [e]
      omega
theorem cnt_zero {b : Nat → Bool} : ∀ n, cnt b n = 0 → ∀ j, j < n → b j = true
  | 0, _, _, h => by omega
  | n + 1, h, j, hj => by
    simp only [cnt] at h
    have hn : b n = true := by
      cases hb : b n with
      | true => rfl
      | false => rw [hb] at h; simp at h
    rcases Nat.lt_succ_iff_lt_or_eq.1 hj with hj | hj
    · exact cnt_zero n (by omega) j hj
    · subst hj
      exact hn
theorem cnt_false : ∀ n, cnt (fun _ => false) n = n
  | 0 => rfl
  | n + 1 => by simp [cnt, cnt_false n]
theorem wpAny_bool {P : Program} {ops : Array Oper} {Q : Exit → Act → World → Prop} {n : Nat} (hn : ops.size = n) (I : (Nat → Bool) → Act → World → Prop)
    (hend : ∀ b a w, I b a w → (∀ j, j < n → b j = true) → Q .normal a w) (hord : ∀ (i : Nat) o, ops[i]? = some o → ∀ e ∈ o.after, Region.binds .any e = true → e.on < i)
    (hstep : ∀ b a w (i : Nat) o, I b a w → ops[i]? = some o → b i = false → (∀ e ∈ o.after, Region.binds .any e = true → b e.on = true) → wpOp P ops Q i (fun a' w' => I (upd b i) a' w') a w) :
    ∀ fuel b a w, cnt b n = fuel → I b a w → wpAny P .any ops Q fuel (bArr n b) a w := by
  have all : ∀ b, Region.ready .any ops (bArr n b) = [] → ∀ j, j < n → b j = true := by
    intro b hr j
    induction j using Nat.strongRecOn with
    | _ j ih =>
      intro hj
      cases hb : b j with
      | true => rfl
      | false =>
        exfalso
        have ho : ops[j]? = some ops[j] := by simp [hn, hj]
        have : j ∈ Region.ready .any ops (bArr n b) := mem_ready.2 ⟨by rw [bArr_getD hj, hb], _, ho, fun e he hbe => by
          have h1 := hord j _ ho e he hbe
          rw [bArr_getD (by omega)]
          exact ih _ h1 (by omega)⟩
        rw [hr] at this
        cases this
  intro fuel
  induction fuel with
  | zero =>
    intro b a w hc hI
    have hall := cnt_zero n hc
    refine ⟨?_, hend b a w hI hall⟩
    refine List.eq_nil_iff_forall_not_mem.2 fun j hj => ?_
    obtain ⟨h1, o, ho, _⟩ := mem_ready.1 hj
    have hj' : j < n := by rw [← hn]; exact (Array.getElem?_eq_some_iff.1 ho).1
    rw [bArr_getD hj', hall j hj'] at h1
    cases h1
  | succ fuel ih =>
    intro b a w hc hI
    refine ⟨fun hr => hend b a w hI (all b hr), fun i hi => ?_⟩
    obtain ⟨h1, o, ho, h2⟩ := mem_ready.1 hi
    have hi' : i < n := by rw [← hn]; exact (Array.getElem?_eq_some_iff.1 ho).1
    rw [bArr_getD hi'] at h1
    rw [bArr_set]
    refine wpOp_mono (fun a' w' h => ih _ a' w' ?_ h) (hstep b a w i o hI ho h1 fun e he hbe => ?_)
    · have := cnt_upd h1 n hi'
      omega
    · have h3 := h2 e he hbe
      have := hord i o ho e he hbe
      rwa [bArr_getD (by omega)] at h3
theorem wpOp_opv {P : Program} {ops : Array Oper} {Q : Exit → Act → World → Prop} {i : Nat} {o : Oper} {next : Act → World → Prop} {l : Fr} {ds : List Deferred} {w : World} (ho : ops[i]? = some o) (hg : o.guard = none)
    (h : opv P l o w (fun v w' => next (act (put l o.dst v) ds) w') (fun _ _ => False)) : wpOp P ops Q i next (act l ds) w := by
  unfold wpOp
  simp only [ho]
  rw [if_pos (by simp [Region.wanted, hg])]
  exact .inl (opv_sound h (fun v w' hk => by rw [act_put]; exact hk) (fun c w' he => he.elim))
theorem getK_in {l : Fr} {t : Nat} {v : Value} {K : Value → Prop} (h : l[t]? = some v) (hk : K v) : getK l t K := by
  induction l generalizing t with
  | nil => cases h
  | cons x l ih => cases t with
    | zero =>
      obtain rfl := Option.some.inj h
      exact hk
    | succ t => exact ih h
def MapAt (w : World) (g : Nat) (es : List (Value × Value)) : Prop := ∃ ms c, w.heap[g]? = some (.map ms c) ∧ (ms.toList.map fun e => (e.key, e.val)).Perm es
theorem insert_run {P : Program} {T tk te : TypeId} (hT : P.underlying T = some (.map tk te)) (KL : WideMaps.KeyLaw P tk) {w : World} {g : Nat} {ms : Array MapEntry} {c : Nat} {key x : Value} {lk : Lit} (hg : w.heap[g]? = some (.map ms c)) (hkey : keyOf P tk key = some lk)
    (hall : ∀ e ∈ ms.toList, ∃ l, keyOf P tk e.key = some l) (hne : ∀ e ∈ ms.toList, e.key ≠ key) : (Instr.mapUpdate T (.map (some g)) key x).run P w = .ok () (ChangeMaps.setBlock w g (.map (ms.push ⟨key, x, c⟩) (c + 1))) := by
  have KL := Maps.Keyed.of_law KL
  rcases KL.find w hkey ms.toList hall with ⟨h1, _⟩ | ⟨j, e0, _, h2, h3⟩
  · simp [Instr.mapUpdate, run_underlying hT, MapKept.run_getObj_map hg, KL.check w false hkey, h1, MapKept.run_setObj_map _ hg, Result.andThen, ChangeMaps.setBlock]
  · exact absurd h3 (hne e0 (List.mem_of_getElem? h2))
theorem setBlock_mod (w : World) (g : Nat) (o : Obj) : Mod (fun k => k = g) w (ChangeMaps.setBlock w g o) :=
  ⟨rfl, rfl, rfl, by simp [ChangeMaps.setBlock], fun k _ hk => by simp only [ChangeMaps.setBlock]; rw [Array.getElem?_setIfInBounds_ne (fun e => hk e.symm)]⟩
structure LitOps (P : Program) (ops : Array Oper) (T : TypeId) (key fv : Nat → Value) : Prop where
  size : ops.size = 17
  ord : ∀ (i : Nat) o, ops[i]? = some o → ∀ e ∈ o.after, Region.binds .any e = true → e.on < i
  o0 : ∃ o T', ops[0]? = some o ∧ o.guard = none ∧ o.dst = some 12 ∧ o.op = .makeMap T' none
  ob : ∀ k, k < 7 → ∃ o, ops[2 * k + 1]? = some o ∧ o.guard = none ∧ o.dst = some (13 + k) ∧ ∀ l w (K : KW), K (key k) w → opv P l o w K (fun _ _ => False)
  oi : ∀ k, k < 7 → ∃ o f, ops[2 * k + 2]? = some o ∧ o.guard = none ∧ o.dst = none ∧ o.op = .insert T (.tmp 12) (.tmp (13 + k)) (.func f) ∧ fv k = .func (.func f) #[] #[] ∧ (∃ e ∈ o.after, Region.binds .any e = true ∧ e.on = 0) ∧ ∃ e ∈ o.after, Region.binds .any e = true ∧ e.on = 2 * k + 1
  om : ∃ o, ops[15]? = some o ∧ o.guard = none ∧ o.dst = some 20 ∧ o.op = .move (.tmp 12) ∧ ∃ e ∈ o.after, Region.binds .any e = true ∧ e.on = 0
  oa : ∃ o, ops[16]? = some o ∧ o.guard = none ∧ o.dst = some 5 ∧ o.op = .assign (.tmp 20) ∧ ∃ e ∈ o.after, Region.binds .any e = true ∧ e.on = 15
abbrev wsL : List Nat := [5, 12, 13, 14, 15, 16, 17, 18, 19, 20]
structure LI (l0 : Fr) (w0 : World) (key fv : Nat → Value) (b : Nat → Bool) (l : Fr) (w : World) : Prop where
  off : AgreeOff wsL l0 l
  kb : ∀ k, k < 7 → b (2 * k + 1) = true → l[13 + k]? = some (key k)
  m0 : b 0 = false → w = w0 ∧ ∀ k, k < 7 → b (2 * k + 2) = false
  m1 : b 0 = true → l[12]? = some (.map (some w0.heap.size)) ∧ Still w0 w ∧ w.heap.size = w0.heap.size + 1 ∧ MapAt w w0.heap.size (((List.range 7).filter fun k => b (2 * k + 2)).map fun k => (key k, fv k))
  mm : b 15 = true → l[20]? = some (.map (some w0.heap.size))
  ma : b 16 = true → l[5]? = some (.map (some w0.heap.size))
theorem upd_ne {b : Nat → Bool} {i j : Nat} (h : j ≠ i) : upd b i j = b j := if_neg h
theorem upd_eq {b : Nat → Bool} {i : Nat} : upd b i i = true := if_pos rfl
theorem off_put {l0 l : Fr} {d : Nat} {v : Value} (h : AgreeOff wsL l0 l) (hd : d ∈ wsL) : AgreeOff wsL l0 (put l (some d) v) :=
  h.trans (AgreeOff.put l (some d) v) (fun _ h => h) (fun t ht => by rw [Option.mem_toList] at ht; cases ht; exact hd)
theorem put_ne {l : Fr} {d t : Nat} {v : Value} (h : d ≠ t) : (put l (some d) v)[t]? = l[t]? := List.getElem?_set_ne h
theorem put_eq {l : Fr} {d : Nat} {v : Value} (h : d < l.length) : (put l (some d) v)[d]? = some v := List.getElem?_set_self h
theorem filter_upd {b : Nat → Bool} {k : Nat} (hk : k < 7) (hb : b (2 * k + 2) = false) : ((List.range 7).filter fun j => upd b (2 * k + 2) (2 * j + 2)).Perm (((List.range 7).filter fun j => b (2 * j + 2)) ++ [k]) := by
  have nd : (List.range 7).Nodup := List.nodup_range
  refine (List.perm_ext_iff_of_nodup (nd.filter _) ?_).2 fun j => ?_
  · refine List.nodup_append.2 ⟨nd.filter _, by simp, fun a ha c hc => ?_⟩
    obtain rfl := List.mem_singleton.1 hc
    rintro rfl
    rw [List.mem_filter, hb] at ha
    cases ha.2
  · simp only [List.mem_filter, List.mem_range, List.mem_append, List.mem_singleton]
    by_cases hj : j = k
    · subst hj
      rw [upd_eq]
      simp [hk]
    · rw [upd_ne (by omega)]
      simp [hj]
theorem lit_wp {P : Program} {ops : Array Oper} {T tk te : TypeId} {key fv : Nat → Value} (hL : LitOps P ops T key fv) (hm : P.follows .mixedOrders = true) (hT : P.underlying T = some (.map tk te)) (KL : WideMaps.KeyLaw P tk)
    (hkeys : ∀ k, k < 7 → ∃ lk, keyOf P tk (key k) = some lk) (hinj : ∀ j k, j < 7 → k < 7 → key j = key k → j = k) {id : Nat} {Q : Exit → Act → World → Prop} {l : Fr} {ds : List Deferred} {w : World} (hl : 21 ≤ l.length)
    (hQ : ∀ l' w', AgreeOff wsL l l' → l'[5]? = some (.map (some w.heap.size)) → Still w w' → w'.heap.size = w.heap.size + 1 → MapAt w' w.heap.size ((List.range 7).map fun k => (key k, fv k)) → Q .normal (act l' ds) w') :
    (Code.region id ops true).wp P Q (act l ds) w := by
  refine wp_region_any hm ?_
  have e0 : Array.replicate ops.size false = bArr 17 (fun _ => false) := by
    apply Array.ext'
    rw [hL.size]
    rfl
  rw [e0]
  refine wpAny_bool hL.size (fun b a w' => ∃ l', a = act l' ds ∧ LI l w.drew key fv b l' w') ?_ hL.ord ?_ _ _ _ _ (by rw [cnt_false, hL.size]) ⟨l, rfl, AgreeOff.refl _ _, fun _ _ h => (by cases h), fun _ => ⟨rfl, fun _ _ => rfl⟩, fun h => (by cases h), fun h => (by cases h), fun h => (by cases h)⟩
  · rintro b _ w' ⟨l', rfl, h⟩ hall
    obtain ⟨_, h2, h3, h4⟩ := h.m1 (hall 0 (by omega))
    refine hQ l' w' h.off (h.ma (hall 16 (by omega))) (Still.ofDrew h2) h3 ?_
    have : (List.range 7).filter (fun k => b (2 * k + 2)) = List.range 7 := List.filter_eq_self.2 fun k hk => hall _ (by have := List.mem_range.1 hk; omega)
    rw [this] at h4
    exact h4
  · rintro b _ w' i o ⟨l', rfl, h⟩ ho hb haft
    have hlen := h.off.1
    have hi : i < 17 := by rw [← hL.size]; exact (Array.getElem?_eq_some_iff.1 ho).1
    have cases5 : i = 0 ∨ (∃ k, k < 7 ∧ i = 2 * k + 1) ∨ (∃ k, k < 7 ∧ i = 2 * k + 2) ∨ i = 15 ∨ i = 16 := by
      by_cases h15 : i = 15
      · exact .inr (.inr (.inr (.inl h15)))
      by_cases h16 : i = 16
      · exact .inr (.inr (.inr (.inr h16)))
      by_cases h0 : i = 0
      · exact .inl h0
      by_cases h2 : i % 2 = 0
      · exact .inr (.inr (.inl ⟨i / 2 - 1, by omega, by omega⟩))
      · exact .inr (.inl ⟨i / 2, by omega, by omega⟩)
    rcases cases5 with rfl | ⟨k, hk, rfl⟩ | ⟨k, hk, rfl⟩ | rfl | rfl
    · obtain ⟨o', T', ho', hg, hd, hop⟩ := hL.o0
      rw [ho] at ho'
      obtain rfl := Option.some.inj ho'
      obtain ⟨rfl, hno⟩ := h.m0 hb
      refine wpOp_opv ho hg ?_
      simp only [opv, hop, hd]
      refine ⟨_, rfl, off_put h.off (by simp), fun k hk hbk => ?_, fun hf => ?_, fun _ => ⟨put_eq (by omega), (Mod.refl _ _).alloc _, World.size_alloc .., ?_⟩, fun hf => ?_, fun hf => ?_⟩
      · rw [upd_ne (by omega)] at hbk
        rw [put_ne (by omega)]
        exact h.kb k hk hbk
      · rw [upd_eq] at hf
        cases hf
      · have : (List.range 7).filter (fun k => upd b 0 (2 * k + 2)) = [] := List.filter_eq_nil_iff.2 fun k hk => by
          rw [upd_ne (by omega), hno k (List.mem_range.1 hk)]
          decide
        rw [this]
        exact ⟨#[], 0, Array.getElem?_push_size, List.Perm.nil⟩
      · rw [upd_ne (by omega)] at hf
        rw [put_ne (by omega)]
        exact h.mm hf
      · rw [upd_ne (by omega)] at hf
        rw [put_ne (by omega)]
        exact h.ma hf
    · obtain ⟨o', ho', hg, hd, hop⟩ := hL.ob k hk
      rw [ho] at ho'
      obtain rfl := Option.some.inj ho'
      refine wpOp_opv ho hg (hop _ _ _ ?_)
      rw [hd]
      have hmem : 13 + k ∈ wsL := by
        have : k = 0 ∨ k = 1 ∨ k = 2 ∨ k = 3 ∨ k = 4 ∨ k = 5 ∨ k = 6 := by omega
        rcases this with rfl | rfl | rfl | rfl | rfl | rfl | rfl <;> simp
      refine ⟨_, rfl, off_put h.off hmem, fun j hj hbj => ?_, fun hf => ?_, fun hf => ?_, fun hf => ?_, fun hf => ?_⟩
      · by_cases hjk : j = k
        · subst hjk
          exact put_eq (by omega)
        · rw [upd_ne (by omega)] at hbj
          rw [put_ne (by omega)]
          exact h.kb j hj hbj
      · rw [upd_ne (by omega)] at hf
        obtain ⟨e1, e2⟩ := h.m0 hf
        exact ⟨e1, fun j hj => by rw [upd_ne (by omega)]; exact e2 j hj⟩
      · rw [upd_ne (by omega)] at hf
        obtain ⟨e1, e2, e3, e4⟩ := h.m1 hf
        refine ⟨by rw [put_ne (by omega)]; exact e1, e2, e3, ?_⟩
        have : (List.range 7).filter (fun j => upd b (2 * k + 1) (2 * j + 2)) = (List.range 7).filter (fun j => b (2 * j + 2)) := List.filter_congr fun j _ => upd_ne (by omega)
        rw [this]
        exact e4
      · rw [upd_ne (by omega)] at hf
        rw [put_ne (by omega)]
        exact h.mm hf
      · rw [upd_ne (by omega)] at hf
        rw [put_ne (by omega)]
        exact h.ma hf
    · obtain ⟨o', f, ho', hg, hd, hop, hfv, ⟨e1, he1, hb1, hon1⟩, e2, he2, hb2, hon2⟩ := hL.oi k hk
      rw [ho] at ho'
      obtain rfl := Option.some.inj ho'
      have hb0 := haft e1 he1 hb1
      have hbk := haft e2 he2 hb2
      rw [hon1] at hb0
      rw [hon2] at hbk
      obtain ⟨h12, hst, hsz, ms, c, hms, hperm⟩ := h.m1 hb0
      have hkk := h.kb k hk hbk
      have hin : ∀ e ∈ ms.toList, ∃ j, j < 7 ∧ b (2 * j + 2) = true ∧ key j = e.key := by
        intro e he
        have : (e.key, e.val) ∈ ((List.range 7).filter fun k => b (2 * k + 2)).map fun k => (key k, fv k) := hperm.mem_iff.1 (List.mem_map.2 ⟨e, he, rfl⟩)
        obtain ⟨j, hj, hje⟩ := List.mem_map.1 this
        rw [List.mem_filter, List.mem_range] at hj
        exact ⟨j, hj.1, hj.2, congrArg Prod.fst hje⟩
      obtain ⟨lk, hlk⟩ := hkeys k hk
      have hrun := insert_run (x := fv k) hT KL hms hlk (fun e he => by
        obtain ⟨j, hj, _, hje⟩ := hin e he
        rw [← hje]
        exact hkeys j hj) (fun e he hke => by
        obtain ⟨j, hj, hbj, hje⟩ := hin e he
        obtain rfl := hinj j k hj hk (hje.trans hke)
        rw [hb] at hbj
        cases hbj)
      refine wpOp_opv ho hg ?_
      simp only [opv, hop, hd]
      refine getK_in h12 (getK_in hkk ?_)
      show mapUpK P T (.map (some w.drew.heap.size)) (key k) (.func (.func f) #[] #[]) w' _
      rw [← hfv]
      refine ⟨_, hrun, l', rfl, h.off, fun j hj hbj => ?_, fun hf => ?_, fun _ => ⟨h12, Mod.trans hst (setBlock_mod _ _ _) (fun _ h => h) (fun i hi e => by omega), by simpa [ChangeMaps.setBlock] using hsz, ?_⟩, fun hf => ?_, fun hf => ?_⟩
      · rw [upd_ne (by omega)] at hbj
        exact h.kb j hj hbj
      · rw [upd_ne (by omega), hb0] at hf
        cases hf
      · refine ⟨_, _, by simp only [ChangeMaps.setBlock]; rw [Array.getElem?_setIfInBounds_self, if_pos (by omega)], ?_⟩
        rw [Array.toList_push, List.map_append]
        refine List.Perm.trans (hperm.append_right _) ?_
        have := (filter_upd hk hb).map fun k => (key k, fv k)
        rw [List.map_append] at this
        exact this.symm
      · rw [upd_ne (by omega)] at hf
        exact h.mm hf
      · rw [upd_ne (by omega)] at hf
        exact h.ma hf
    · obtain ⟨o', ho', hg, hd, hop, e1, he1, hb1, hon1⟩ := hL.om
      rw [ho] at ho'
      obtain rfl := Option.some.inj ho'
      have hb0 := haft e1 he1 hb1
      rw [hon1] at hb0
      have h12 := (h.m1 hb0).1
      refine wpOp_opv ho hg ?_
      simp only [opv, opq, hop, hd]
      refine getK_in h12 ⟨_, rfl, off_put h.off (by simp), fun j hj hbj => ?_, fun hf => ?_, fun hf => ?_, fun _ => put_eq (by omega), fun hf => ?_⟩
      · rw [upd_ne (by omega)] at hbj
        rw [put_ne (by omega)]
        exact h.kb j hj hbj
      · rw [upd_ne (by omega), hb0] at hf
        cases hf
      · obtain ⟨e1, e2, e3, e4⟩ := h.m1 hb0
        refine ⟨by rw [put_ne (by omega)]; exact e1, e2, e3, ?_⟩
        have : (List.range 7).filter (fun j => upd b 15 (2 * j + 2)) = (List.range 7).filter (fun j => b (2 * j + 2)) := List.filter_congr fun j _ => upd_ne (by omega)
        rw [this]
        exact e4
      · rw [upd_ne (by omega)] at hf
        rw [put_ne (by omega)]
        exact h.ma hf
    · obtain ⟨o', ho', hg, hd, hop, e1, he1, hb1, hon1⟩ := hL.oa
      rw [ho] at ho'
      obtain rfl := Option.some.inj ho'
      have hb15 := haft e1 he1 hb1
      rw [hon1] at hb15
      have h20 := h.mm hb15
      refine wpOp_opv ho hg ?_
      simp only [opv, opq, hop, hd]
      refine getK_in h20 ⟨_, rfl, off_put h.off (by simp), fun j hj hbj => ?_, fun hf => ?_, fun hf => ?_, fun hf => ?_, fun _ => ?_⟩
      · rw [upd_ne (by omega)] at hbj
        rw [put_ne (by omega)]
        exact h.kb j hj hbj
      · rw [upd_ne (by omega)] at hf
        obtain ⟨e1, e2⟩ := h.m0 hf
        exact ⟨e1, fun j hj => by rw [upd_ne (by omega)]; exact e2 j hj⟩
      · rw [upd_ne (by omega)] at hf
        obtain ⟨e1, e2, e3, e4⟩ := h.m1 hf
        refine ⟨by rw [put_ne (by omega)]; exact e1, e2, e3, ?_⟩
        have : (List.range 7).filter (fun j => upd b 16 (2 * j + 2)) = (List.range 7).filter (fun j => b (2 * j + 2)) := List.filter_congr fun j hj => upd_ne (by have := List.mem_range.1 hj; omega)
        rw [this]
        exact e4
      · rw [upd_ne (by omega)] at hf
        rw [put_ne (by omega)]
        exact h.mm hf
      · have h5 : 5 < l'.length := by omega
        exact put_eq h5
def litK (w : World) (es : List (Value × Value)) (K : (Nat → Value) → World → Prop) : Prop :=
  ∀ (us : Nat → Value) (w' : World), Still w w' → w'.heap.size = w.heap.size + 1 → MapAt w' w.heap.size es → K us w'
def LitOk (P : Program) (c : Code) (es : List (Value × Value)) : Prop :=
  ∀ (Q : Exit → Act → World → Prop) (l : Fr) (ds : List Deferred) (w : World), 21 ≤ l.length → (∀ l' w', AgreeOff wsL l l' → l'[5]? = some (.map (some w.heap.size)) → Still w w' → w'.heap.size = w.heap.size + 1 → MapAt w' w.heap.size es → Q .normal (act l' ds) w') → c.wp P Q (act l ds) w
theorem calls_vc_lit {P : Program} {f : FuncId} {fn : Func} {A B C D : Code} {args : List Value} {w : World} {R : Ending → World → Prop} {es : List (Value × Value)} (pl : Plan) (hC : LitOk P C es) (hf : P.funcs[f]? = some fn) (hb : fn.body = some (.seq A (.seq B (.seq C D)))) (hn : 21 ≤ fn.ntmps)
    (h : vc P pl A 2 { fnConts P fn.results.toList R with normal := fun l1 w1 => vc P pl B 6 { fnConts P fn.results.toList R with normal := fun l2 w2 => litK w2 es fun us w3 => havocK us wsL l2 fun l3 => setK l3 5 (.map (some w2.heap.size)) fun l4 => vc P pl D 15 (fnConts P fn.results.toList R) l4 w3 } l1 w1 } (frame0 fn.ntmps args) w) : Calls P f ⟨args⟩ w R := by
  refine calls_of_wp hf hb ?_
  have e : (Array.mk args) ++ Array.replicate (fn.ntmps - (Array.mk args).size) undef = ⟨frame0 fn.ntmps args⟩ := by
    apply Array.ext'
    simp [frame0_eq]
  rw [e]
  have hlen : 21 ≤ (frame0 fn.ntmps args).length := by
    rw [frame0_eq]
    simp only [List.length_append, List.length_replicate]
    omega
  have ret : ∀ l' w', (fnConts P fn.results.toList R).ret l' w' → bodyPost P fn R .ret (act l' []) w' := fun l' w' hk => by
    obtain ⟨vs, h1, h2⟩ := results_run (ds := []) hk
    exact ⟨rfl, _, h1, h2⟩
  have nor : ∀ l' w', (fnConts P fn.results.toList R).normal l' w' → bodyPost P fn R .normal (act l' []) w' := fun l' w' hk => by
    obtain ⟨vs, h1, h2⟩ := results_run (ds := []) hk
    exact ⟨rfl, _, h1, h2⟩
  refine wp_seq (vc_sound (ds := []) A 2 _ _ w _ h (fun l1 w1 ha1 hk1 => ?_) (fun i l' w' _ hk => hk.elim) (fun l' w' hk => ret l' w' hk) (fun l' ch w' _ hk => ⟨rfl, hk⟩))
  refine wp_seq (vc_sound (ds := []) B 6 _ _ w1 _ hk1 (fun l2 w2 ha2 hk2 => ?_) (fun i l' w' _ hk => hk.elim) (fun l' w' hk => ret l' w' hk) (fun l' ch w' _ hk => ⟨rfl, hk⟩))
  refine wp_seq (hC _ _ _ _ (by rw [ha2.1, ha1.1]; exact hlen) fun l3 w3 ha3 h5 hst hsz hm => ?_)
  have h4 := frame_back (sp := [(5, .leaf .raw)]) (vs := [.map (some w2.heap.size)]) (K := fun l4 => vc P pl D 15 (fnConts P fn.results.toList R) l4 w3) ha3 ⟨h5, trivial⟩ fun us => hk2 us w3 hst hsz hm
  exact vc_sound (ds := []) D 15 _ _ w3 _ h4 (fun l' w' _ hk => nor l' w' hk) (fun i l' w' _ hk => hk.elim) (fun l' w' hk => ret l' w' hk) (fun l' ch w' _ hk => ⟨rfl, hk⟩)
abbrev cmdT : TypeId := 85
abbrev cmdTok : TypeId := 64
def tokV (n : Int) (t : List UInt8) : Value := .agg #[.int .i64 n, .string (S t)]
def cmdTs : List (Int × List UInt8 × Nat) := [(1, [40], fn_syntax_parser_sub), (0, [123], fn_syntax_parser_group), (0, [105, 102], fn_syntax_parser_choice), (0, [119, 104, 105, 108, 101], fn_syntax_parser_loop), (0, [117, 110, 116, 105, 108], fn_syntax_parser_loop), (0, [102, 111, 114], fn_syntax_parser_each), (0, [99, 97, 115, 101], fn_syntax_parser_cases)]
def cmdKey (k : Nat) : Value := let x := cmdTs.getD k (0, [], 0); tokV x.1 x.2.1
def cmdFv (k : Nat) : Value := .func (.func (cmdTs.getD k (0, [], 0)).2.2) #[] #[]
def cmdEs : List (Value × Value) := (List.range 7).map fun k => (cmdKey k, cmdFv k)
noncomputable def cmdOps : Array Oper := match Tryz.f54.body with
  | some (.seq _ (.seq _ (.seq (.region _ ops _) _))) => ops
  | _ => #[]
theorem seven {p : Nat → Prop} (h0 : p 0) (h1 : p 1) (h2 : p 2) (h3 : p 3) (h4 : p 4) (h5 : p 5) (h6 : p 6) (k : Nat) (hk : k < 7) : p k := by
  have : k = 0 ∨ k = 1 ∨ k = 2 ∨ k = 3 ∨ k = 4 ∨ k = 5 ∨ k = 6 := by omega
  rcases this with rfl | rfl | rfl | rfl | rfl | rfl | rfl <;> assumption
def ordB (ops : Array Oper) : Bool := (List.range ops.size).all fun i => match ops[i]? with
  | some o => o.after.toList.all fun e => !(Region.binds .any e) || Nat.blt e.on i
  | none => true
theorem ordB_out {ops : Array Oper} (h : ordB ops = true) : ∀ (i : Nat) o, ops[i]? = some o → ∀ e ∈ o.after, Region.binds .any e = true → e.on < i := by
  intro i o ho e he hb
  have hi : i < ops.size := (Array.getElem?_eq_some_iff.1 ho).1
  have h1 := List.all_eq_true.1 h i (List.mem_range.2 hi)
  rw [ho] at h1
  have h2 := List.all_eq_true.1 h1 e (Array.mem_toList_iff.2 he)
  rw [hb] at h2
  simpa using h2
set_option maxRecDepth 100000 in
theorem cmd_ops : LitOps Tryz.prog cmdOps 85 cmdKey cmdFv where
  size := rfl
  ord := ordB_out (by kernel_rfl)
  o0 := ⟨_, _, rfl, rfl, rfl, rfl⟩
  ob := seven (p := fun k => ∃ o, cmdOps[2 * k + 1]? = some o ∧ o.guard = none ∧ o.dst = some (13 + k) ∧ ∀ l w (K : KW), K (cmdKey k) w → opv Tryz.prog l o w K (fun _ _ => False))
    ⟨_, rfl, rfl, rfl, fun l w K h => Eq.mp (by kernel_rfl) h⟩ ⟨_, rfl, rfl, rfl, fun l w K h => Eq.mp (by kernel_rfl) h⟩ ⟨_, rfl, rfl, rfl, fun l w K h => Eq.mp (by kernel_rfl) h⟩ ⟨_, rfl, rfl, rfl, fun l w K h => Eq.mp (by kernel_rfl) h⟩ ⟨_, rfl, rfl, rfl, fun l w K h => Eq.mp (by kernel_rfl) h⟩ ⟨_, rfl, rfl, rfl, fun l w K h => Eq.mp (by kernel_rfl) h⟩ ⟨_, rfl, rfl, rfl, fun l w K h => Eq.mp (by kernel_rfl) h⟩
  oi := seven (p := fun k => ∃ o f, cmdOps[2 * k + 2]? = some o ∧ o.guard = none ∧ o.dst = none ∧ o.op = .insert 85 (.tmp 12) (.tmp (13 + k)) (.func f) ∧ cmdFv k = .func (.func f) #[] #[] ∧ (∃ e ∈ o.after, Region.binds .any e = true ∧ e.on = 0) ∧ ∃ e ∈ o.after, Region.binds .any e = true ∧ e.on = 2 * k + 1)
    ⟨_, _, rfl, rfl, rfl, rfl, rfl, ⟨_, Array.mem_of_getElem? (i := 0) rfl, rfl, rfl⟩, _, Array.mem_of_getElem? (i := 1) rfl, rfl, rfl⟩ ⟨_, _, rfl, rfl, rfl, rfl, rfl, ⟨_, Array.mem_of_getElem? (i := 0) rfl, rfl, rfl⟩, _, Array.mem_of_getElem? (i := 1) rfl, rfl, rfl⟩ ⟨_, _, rfl, rfl, rfl, rfl, rfl, ⟨_, Array.mem_of_getElem? (i := 0) rfl, rfl, rfl⟩, _, Array.mem_of_getElem? (i := 1) rfl, rfl, rfl⟩ ⟨_, _, rfl, rfl, rfl, rfl, rfl, ⟨_, Array.mem_of_getElem? (i := 0) rfl, rfl, rfl⟩, _, Array.mem_of_getElem? (i := 1) rfl, rfl, rfl⟩ ⟨_, _, rfl, rfl, rfl, rfl, rfl, ⟨_, Array.mem_of_getElem? (i := 0) rfl, rfl, rfl⟩, _, Array.mem_of_getElem? (i := 1) rfl, rfl, rfl⟩ ⟨_, _, rfl, rfl, rfl, rfl, rfl, ⟨_, Array.mem_of_getElem? (i := 0) rfl, rfl, rfl⟩, _, Array.mem_of_getElem? (i := 1) rfl, rfl, rfl⟩ ⟨_, _, rfl, rfl, rfl, rfl, rfl, ⟨_, Array.mem_of_getElem? (i := 0) rfl, rfl, rfl⟩, _, Array.mem_of_getElem? (i := 1) rfl, rfl, rfl⟩
  om := ⟨_, rfl, rfl, rfl, rfl, _, Array.mem_of_getElem? (i := 0) rfl, rfl, rfl⟩
  oa := ⟨_, rfl, rfl, rfl, rfl, _, Array.mem_of_getElem? (i := 0) rfl, rfl, rfl⟩
theorem tok_law : WideMaps.KeyLaw Tryz.prog 64 := deep_law (m := 3) (by decide) (by kernel_rfl) (by kernel_rfl) (by kernel_rfl)
end Go.Proofs.YtcoeiiihmpnagaaGreatDoor
namespace Go.Proofs.YtcoeiiihmpnagaaGreatDoor
open Go.RowKit Vc
variable {w : World}
theorem keyLits_int {d : Nat} {t : TypeId} {n : Int} (ht : Tryz.prog.underlying t = some (.int .i64)) (hn : (Lit.int .i64 n).wf = true) : Tryz.prog.keyLits (d + 1) t [.int .i64 n] = some [.int .i64 n] := by
  unfold Program.keyLits
  rw [ht]
  simp [hn]
theorem keyLits_str {d : Nat} {t : TypeId} {s : List UInt8} (ht : Tryz.prog.underlying t = some .string) (hs : (S s).size ≤ maxLen) : ∃ l, Tryz.prog.keyLits (d + 1) t [.string (S s)] = some l := by
  unfold Program.keyLits
  rw [ht]
  exact ⟨_, if_pos hs⟩
set_option maxRecDepth 100000 in
theorem tok_struct : ∃ f1 f2 : Field, Tryz.prog.underlying cmdTok = some (.struct #[f1, f2]) ∧ f1.offset = 0 ∧ f2.offset = 1 ∧ Tryz.prog.underlying f1.type = some (.int .i64) ∧ Tryz.prog.underlying f2.type = some .string ∧ Tryz.prog.cellsOf f1.type = 1 ∧ Tryz.prog.cellsOf f2.type = 1 ∧ (#[f1, f2].all (·.name != "_")) = true :=
  ⟨_, _, rfl, rfl, rfl, rfl, rfl, rfl, rfl, by simp⟩
theorem key_tok {n : Int} {t : List UInt8} (hn : (Lit.int .i64 n).wf = true) (ht : (S t).size ≤ maxLen) : ∃ lk, keyOf Tryz.prog cmdTok (tokV n t) = some lk := by
  obtain ⟨f1, f2, hu, e1, e2, u1, u2, c1, c2, ha⟩ := tok_struct
  have hk : Tryz.prog.keyType cmdTok = true := by kernel_rfl
  have hc : Tryz.prog.cellsOf cmdTok = 2 := by kernel_rfl
  have hf : (tokV n t).formed Tryz.prog cmdTok = true := by
    simp only [tokV, Value.formed, hu, hc]
    rfl
  obtain ⟨l2, h2⟩ := keyLits_str (d := Tryz.prog.types.size - 1) u2 ht
  have h1 := keyLits_int (d := Tryz.prog.types.size - 1) u1 hn
  have hsz : Tryz.prog.types.size = Tryz.prog.types.size - 1 + 1 := by
    have : 0 < Tryz.prog.types.size := Nat.pos_of_ne_zero fun h => by
      have hx : Nat.ble 1 Tryz.prog.types.size = true := by kernel_rfl
      rw [h] at hx
      cases hx
    omega
  have hl : ∃ ls, Tryz.prog.keyLits (Tryz.prog.types.size + 1) cmdTok [.int .i64 n, .string (S t)] = some ls := by
    have e0 : Tryz.prog.keyLits (Tryz.prog.types.size + 1) cmdTok [.int .i64 n, .string (S t)] = ([f1, f2].mapM fun f => Tryz.prog.keyLits Tryz.prog.types.size f.type ((([Value.int .i64 n, .string (S t)] : List Value).drop f.offset).take (Tryz.prog.cellsOf f.type))).map List.flatten := by
      conv => lhs; unfold Program.keyLits
      rw [hu]
      exact if_pos ⟨by rw [hc]; rfl, ha⟩
    refine ⟨([[.int .i64 n], l2] : List (List Lit)).flatten, e0.trans ?_⟩
    rw [List.mapM_cons, e1, c1]
    have a1 : Tryz.prog.keyLits Tryz.prog.types.size f1.type [.int .i64 n] = some [.int .i64 n] := by rw [hsz]; exact h1
    have a2 : Tryz.prog.keyLits Tryz.prog.types.size f2.type [.string (S t)] = some l2 := by rw [hsz]; exact h2
    have b2 : ([f2].mapM fun f => Tryz.prog.keyLits Tryz.prog.types.size f.type ((([Value.int .i64 n, .string (S t)] : List Value).drop f.offset).take (Tryz.prog.cellsOf f.type))) = some [l2] := by
      rw [List.mapM_cons, e2, c2]
      show (do let y ← Tryz.prog.keyLits Tryz.prog.types.size f2.type [.string (S t)]; _) = _
      rw [a2]
      rfl
    rw [b2]
    show Option.map List.flatten (do let y ← Tryz.prog.keyLits Tryz.prog.types.size f1.type [.int .i64 n]; _) = _
    rw [a1]
    rfl
  obtain ⟨ls, hl⟩ := hl
  unfold keyOf
  rw [hu]
  exact ⟨.string (keyBytes ls), (if_pos (by rw [hk, hf]; rfl)).trans (by show Option.map _ (Tryz.prog.keyLits (Tryz.prog.types.size + 1) cmdTok [.int .i64 n, .string (S t)]) = _; rw [hl]; rfl)⟩
theorem tok_wf {n : Nat} (h : n < 1000) : (Lit.int .i64 (n : Int)).wf = true := by
  have e1 : IntKind.i64.min = -9223372036854775808 := by decide
  have e2 : IntKind.i64.max = 9223372036854775807 := by decide
  simp only [Lit.wf, e1, e2, Bool.and_eq_true, decide_eq_true_eq]
  omega
theorem cmd_keys (k : Nat) (hk : k < 7) : ∃ lk, keyOf Tryz.prog cmdTok (cmdKey k) = some lk :=
  seven (p := fun k => ∃ lk, keyOf Tryz.prog cmdTok (cmdKey k) = some lk) (key_tok (by decide) (by decide)) (key_tok (by decide) (by decide)) (key_tok (by decide) (by decide)) (key_tok (by decide) (by decide)) (key_tok (by decide) (by decide)) (key_tok (by decide) (by decide)) (key_tok (by decide) (by decide)) k hk
theorem tokV_inj {n m : Int} {s t : List UInt8} (h : tokV n s = tokV m t) : n = m ∧ s = t := by
  simp only [tokV, Value.agg.injEq] at h
  have h := congrArg Array.toList h
  simp only [List.cons.injEq, Value.int.injEq, Value.string.injEq, true_and, and_true] at h
  refine ⟨h.1, ?_⟩
  have := congrArg ByteArray.toList h.2
  simpa [S_toList] using this
set_option maxRecDepth 100000 in
theorem cmd_inj (j k : Nat) (hj : j < 7) (hk : k < 7) (h : cmdKey j = cmdKey k) : j = k := by
  have h := tokV_inj h
  have key : ∀ j, j < 7 → ∀ k, k < 7 → (cmdTs.getD j (0, [], 0)).1 = (cmdTs.getD k (0, [], 0)).1 ∧ (cmdTs.getD j (0, [], 0)).2.1 = (cmdTs.getD k (0, [], 0)).2.1 → j = k := by decide
  exact key j hj k hk h
noncomputable def cmdCode : Code := .region 3 cmdOps true
set_option maxRecDepth 100000 in
theorem cmd_lit : LitOk Tryz.prog cmdCode cmdEs := fun Q l ds w hl h => lit_wp cmd_ops rfl rfl tok_law cmd_keys cmd_inj hl h
set_option maxRecDepth 100000 in
theorem look_tok {g n : Nat} {t : List UInt8} {K : Value → Bool → Prop} (hm : MapAt w g cmdEs) (hn : n < 1000) (ht : t.length < 1000000) (h1 : ∀ j, j < 7 → cmdKey j = tokV n t → K (cmdFv j) true) (h2 : (∀ j, j < 7 → cmdKey j ≠ tokV n t) → K .nilFunc false) :
    lookK Tryz.prog cmdT (.map (some g)) (tokV n t) w K := by
  obtain ⟨ms, c, hg, hp⟩ := hm
  obtain ⟨te, hT, hz⟩ : ∃ te, Tryz.prog.underlying cmdT = some (.map cmdTok te) ∧ ∀ w, (zeroValue te).run Tryz.prog w = .ok .nilFunc w := by
    refine ⟨_, rfl, fun w => ?_⟩
    rfl
  obtain ⟨lk, hlk⟩ := key_tok (n := n) (t := t) (tok_wf hn) (by simp only [maxLen]; show t.length ≤ _; omega)
  have KL := Maps.Keyed.of_law tok_law
  have hin : ∀ e ∈ ms.toList, ∃ j, j < 7 ∧ cmdKey j = e.key ∧ cmdFv j = e.val := by
    intro e he
    have : (e.key, e.val) ∈ cmdEs := hp.mem_iff.1 (List.mem_map.2 ⟨e, he, rfl⟩)
    obtain ⟨j, hj, hje⟩ := List.mem_map.1 this
    rw [List.mem_range] at hj
    exact ⟨j, hj, congrArg Prod.fst hje, congrArg Prod.snd hje⟩
  have hall : ∀ e ∈ ms.toList, ∃ l, keyOf Tryz.prog cmdTok e.key = some l := fun e he => by
    obtain ⟨j, hj, e1, _⟩ := hin e he
    rw [← e1]
    exact cmd_keys j hj
  rcases KL.find w hlk ms.toList hall with ⟨f1, f2⟩ | ⟨j, e0, f1, f2, f3⟩
  · refine ⟨.nilFunc, false, by simp [Instr.lookup, run_underlying hT, MapKept.run_getObj_map hg, KL.check w _ hlk, f1, hz, Result.andThen], h2 fun j hj e => ?_⟩
    have : (cmdKey j, cmdFv j) ∈ ms.toList.map fun e => (e.key, e.val) := hp.mem_iff.2 (List.mem_map.2 ⟨j, List.mem_range.2 hj, rfl⟩)
    obtain ⟨e0, he0, ee⟩ := List.mem_map.1 this
    exact f2 e0 he0 ((congrArg Prod.fst ee).trans e)
  · obtain ⟨j, hj, e1, e2⟩ := hin e0 (List.mem_of_getElem? f2)
    refine ⟨e0.val, true, by simp [Instr.lookup, run_underlying hT, MapKept.run_getObj_map hg, KL.check w _ hlk, f1, Result.andThen], ?_⟩
    rw [← e2]
    exact h1 j hj (e1.trans f3)
end Go.Proofs.YtcoeiiihmpnagaaGreatDoor
namespace Go.Proofs.YtcoeiiihmpnagaaGreatDoor
open Go.RowKit Vc
set_option maxRecDepth 100000 in
def vc_syntax_parser_command (p : Option Addr) (depth : Int) (w : World) (R : Ending → World → Prop) : Prop :=
  letW (w.alloc (.cells #[(.int .i64 0), (.bool false), (.string (S ([] : List UInt8))), (.slice none 0 0), (.slice none 0 0), (.slice none 0 0), (.slice none 0 0), (.slice none 0 0)] 31)) (fun (w1 : World) => bsel (decide ((30 : Int) < depth)) (R (.panicked [{ v := (.iface 32 (.int .i64 (2 : Int))), recovered := false }]) w1) (litK w1 cmdEs (fun (_us : Nat → Value) (w2 : World) => Calls Tryz.prog fn_syntax_parser_peek #[(.pointer p), (.int .i64 (0 : Int))] w2 (fun ed w3 => (∃ rKind : Int, ∃ rText : List UInt8, ed = .returned (.agg #[(.int .i64 rKind), (.string (S rText))]) ∧ lookK Tryz.prog 85 (.map (some w1.heap.size)) (.agg #[(.int .i64 rKind), (.string (S rText))]) w3 (fun (lv : Value) (ok : Bool) => ∃ xJ : World → Prop, (bsel ok (calleeK lv (fun (g : FuncId) (first cap : List Value) => bsel (callable Tryz.prog g) (Calls Tryz.prog g ⟨first ++ ([(.pointer p), (.int .i64 depth)] ++ cap)⟩ w3 (fun ed1 w4 => (∃ rKind1 : Int, ∃ rNot : Bool, ∃ rName : List UInt8, ∃ (rWords : Option Addr) (rWordsL rWordsC : Nat), ∃ (rAssigns : Option Addr) (rAssignsL rAssignsC : Nat), ∃ (rRedirs : Option Addr) (rRedirsL rRedirsC : Nat), ∃ (rOps : Option Addr) (rOpsL rOpsC : Nat), ∃ (rKids : Option Addr) (rKidsL rKidsC : Nat), ed1 = .returned (.agg #[(.int .i64 rKind1), (.bool rNot), (.string (S rName)), (.slice rWords rWordsL rWordsC), (.slice rAssigns rAssignsL rAssignsC), (.slice rRedirs rRedirsL rRedirsC), (.slice rOps rOpsL rOpsC), (.slice rKids rKidsL rKidsC)]) ∧ letW (w4.alloc (.cells #[(.int .i64 0), (.bool false), (.string (S ([] : List UInt8))), (.slice none 0 0), (.slice none 0 0), (.slice none 0 0), (.slice none 0 0), (.slice none 0 0)] 31)) (fun (w5 : World) => stCells (Addr.mk w4.heap.size 0 none) (fun (w6 : World) => ∃ (xI : World → Prop) (m : World → Nat), (xI w6) ∧ ∀ (_us2 : Nat → Value) (w7 : World), (xI w7) → Calls Tryz.prog fn_syntax_parser_redirects #[(.pointer p)] w7 (fun ed2 w8 => (∃ r : Bool, ed2 = .returned (.bool r) ∧ bsel r (∃ Sw : World → Prop, Sw w8.drew ∧ ∃ (v : Option Addr) (vL vC : Nat), (∀ wq : World, Sw wq → wq.cell? (Addr.mk w4.heap.size 5 none) = some (.slice v vL vC)) ∧ Calls Tryz.prog fn_syntax_parser_redir #[(.pointer p)] w8.drew (fun ed3 w9 => (∃ rOp : List UInt8, ∃ (rWord : Option Addr) (rWordL rWordC : Nat), ed3 = .returned (.agg #[(.string (S rOp)), (.slice rWord rWordL rWordC)]) ∧ Sw w9 ∧ letW (w9.alloc (.cells #[(.string (S rOp)), (.slice rWord rWordL rWordC)] 58)) (fun (w10 : World) => Sw w10 ∧ appK w10 58 2 40 v vL vC (some (Addr.mk w9.heap.size 0 none)) 1 (fun (p1 : Option Addr) (cp : Nat) (w11 : World) => stCells (Addr.mk w4.heap.size 5 none) (fun (w12 : World) => xI w12 ∧ m w12 < m w7) 0 [(.slice p1 (vL + 1) cp)] w11))) ∨ (∃ ch3, ed3 = .panicked ch3 ∧ R (.panicked ch3) w9))) (∃ vKind : Int, ∃ vNot : Bool, ∃ vName : List UInt8, ∃ (vWords : Option Addr) (vWordsL vWordsC : Nat), ∃ (vAssigns : Option Addr) (vAssignsL vAssignsC : Nat), ∃ (vRedirs : Option Addr) (vRedirsL vRedirsC : Nat), ∃ (vOps : Option Addr) (vOpsL vOpsC : Nat), ∃ (vKids : Option Addr) (vKidsL vKidsC : Nat), w8.cell? (Addr.mk w4.heap.size 0 none) = some (.int .i64 vKind) ∧ w8.cell? (Addr.mk w4.heap.size 1 none) = some (.bool vNot) ∧ w8.cell? (Addr.mk w4.heap.size 2 none) = some (.string (S vName)) ∧ w8.cell? (Addr.mk w4.heap.size 3 none) = some (.slice vWords vWordsL vWordsC) ∧ w8.cell? (Addr.mk w4.heap.size 4 none) = some (.slice vAssigns vAssignsL vAssignsC) ∧ w8.cell? (Addr.mk w4.heap.size 5 none) = some (.slice vRedirs vRedirsL vRedirsC) ∧ w8.cell? (Addr.mk w4.heap.size 6 none) = some (.slice vOps vOpsL vOpsC) ∧ w8.cell? (Addr.mk w4.heap.size 7 none) = some (.slice vKids vKidsL vKidsC) ∧ stCells (Addr.mk w.heap.size 0 none) (fun (w13 : World) => ∃ vKind1 : Int, ∃ vNot1 : Bool, ∃ vName1 : List UInt8, ∃ (vWords1 : Option Addr) (vWordsL1 vWordsC1 : Nat), ∃ (vAssigns1 : Option Addr) (vAssignsL1 vAssignsC1 : Nat), ∃ (vRedirs1 : Option Addr) (vRedirsL1 vRedirsC1 : Nat), ∃ (vOps1 : Option Addr) (vOpsL1 vOpsC1 : Nat), ∃ (vKids1 : Option Addr) (vKidsL1 vKidsC1 : Nat), w13.cell? (Addr.mk w.heap.size 0 none) = some (.int .i64 vKind1) ∧ w13.cell? (Addr.mk w.heap.size 1 none) = some (.bool vNot1) ∧ w13.cell? (Addr.mk w.heap.size 2 none) = some (.string (S vName1)) ∧ w13.cell? (Addr.mk w.heap.size 3 none) = some (.slice vWords1 vWordsL1 vWordsC1) ∧ w13.cell? (Addr.mk w.heap.size 4 none) = some (.slice vAssigns1 vAssignsL1 vAssignsC1) ∧ w13.cell? (Addr.mk w.heap.size 5 none) = some (.slice vRedirs1 vRedirsL1 vRedirsC1) ∧ w13.cell? (Addr.mk w.heap.size 6 none) = some (.slice vOps1 vOpsL1 vOpsC1) ∧ w13.cell? (Addr.mk w.heap.size 7 none) = some (.slice vKids1 vKidsL1 vKidsC1) ∧ R (.returned (.agg #[(.int .i64 vKind1), (.bool vNot1), (.string (S vName1)), (.slice vWords1 vWordsL1 vWordsC1), (.slice vAssigns1 vAssignsL1 vAssignsC1), (.slice vRedirs1 vRedirsL1 vRedirsC1), (.slice vOps1 vOpsL1 vOpsC1), (.slice vKids1 vKidsL1 vKidsC1)])) w13) 0 [(.int .i64 vKind), (.bool vNot), (.string (S vName)), (.slice vWords vWordsL vWordsC), (.slice vAssigns vAssignsL vAssignsC), (.slice vRedirs vRedirsL vRedirsC), (.slice vOps vOpsL vOpsC), (.slice vKids vKidsL vKidsC)] w8)) ∨ (∃ ch2, ed2 = .panicked ch2 ∧ R (.panicked ch2) w8))) 0 [(.int .i64 rKind1), (.bool rNot), (.string (S rName)), (.slice rWords rWordsL rWordsC), (.slice rAssigns rAssignsL rAssignsC), (.slice rRedirs rRedirsL rRedirsC), (.slice rOps rOpsL rOpsC), (.slice rKids rKidsL rKidsC)] w5)) ∨ (∃ ch1, ed1 = .panicked ch1 ∧ R (.panicked ch1) w4))) False)) (∃ xJ1 : Bool → World → Prop, (Calls Tryz.prog fn_syntax_closers #[] w3 (fun ed4 w14 => (∃ (r1 : Option Addr) (rL rC : Nat), ed4 = .returned (.slice r1 rL rC) ∧ Calls Tryz.prog fn_syntax_parser_at #[(.pointer p), (.int .i64 (0 : Int)), (.slice r1 rL rC)] w14 (fun ed5 w15 => (∃ r2 : Bool, ed5 = .returned (.bool r2) ∧ bsel r2 (xJ1 r2 w15) (letW (w15.alloc (.cells #[(.string (S ([33] : List UInt8)))] 9)) (fun (w16 : World) => Calls Tryz.prog fn_syntax_parser_at #[(.pointer p), (.int .i64 (0 : Int)), (.slice (some (Addr.mk w15.heap.size 0 none)) 1 1)] w16 (fun ed6 w17 => (∃ r3 : Bool, ed6 = .returned (.bool r3) ∧ xJ1 r3 w17) ∨ (∃ ch6, ed6 = .panicked ch6 ∧ R (.panicked ch6) w17))))) ∨ (∃ ch5, ed5 = .panicked ch5 ∧ R (.panicked ch5) w15))) ∨ (∃ ch4, ed4 = .panicked ch4 ∧ R (.panicked ch4) w14))) ∧ ∀ (x : Bool) (_us3 : Nat → Value) (w18 : World), (xJ1 x w18) → bsel x (R (.panicked [{ v := (.iface 32 (.int .i64 (100 : Int))), recovered := false }]) w18) (∃ xJ2 : Bool → World → Prop, (Calls Tryz.prog fn_syntax_parser_peek #[(.pointer p), (.int .i64 (0 : Int))] w18 (fun ed7 w19 => (∃ rKind2 : Int, ∃ rText1 : List UInt8, ed7 = .returned (.agg #[(.int .i64 rKind2), (.string (S rText1))]) ∧ bsel (decide (rKind2 = (0 : Int))) (Calls Tryz.prog fn_syntax_parser_peek #[(.pointer p), (.int .i64 (0 : Int))] w19 (fun ed8 w20 => (∃ rKind3 : Int, ∃ rText2 : List UInt8, ed8 = .returned (.agg #[(.int .i64 rKind3), (.string (S rText2))]) ∧ Calls Tryz.prog fn_word_IsName #[(.string (S rText2))] w20 (fun ed9 w21 => (∃ r4 : Bool, ed9 = .returned (.bool r4) ∧ bsel r4 (Calls Tryz.prog fn_syntax_parser_peek #[(.pointer p), (.int .i64 (1 : Int))] w21 (fun ed10 w22 => (∃ rKind4 : Int, ∃ rText3 : List UInt8, ed10 = .returned (.agg #[(.int .i64 rKind4), (.string (S rText3))]) ∧ bsel ((decide (rKind4 = (1 : Int))) && ((decide (rText3 = ([40] : List UInt8))) && true)) (Calls Tryz.prog fn_syntax_parser_peek #[(.pointer p), (.int .i64 (2 : Int))] w22 (fun ed11 w23 => (∃ rKind5 : Int, ∃ rText4 : List UInt8, ed11 = .returned (.agg #[(.int .i64 rKind5), (.string (S rText4))]) ∧ xJ2 ((decide (rKind5 = (1 : Int))) && ((decide (rText4 = ([41] : List UInt8))) && true)) w23) ∨ (∃ ch11, ed11 = .panicked ch11 ∧ R (.panicked ch11) w23))) (xJ2 false w22)) ∨ (∃ ch10, ed10 = .panicked ch10 ∧ R (.panicked ch10) w22))) (xJ2 false w21)) ∨ (∃ ch9, ed9 = .panicked ch9 ∧ R (.panicked ch9) w21))) ∨ (∃ ch8, ed8 = .panicked ch8 ∧ R (.panicked ch8) w20))) (xJ2 false w19)) ∨ (∃ ch7, ed7 = .panicked ch7 ∧ R (.panicked ch7) w19))) ∧ ∀ (x1 : Bool) (_us4 : Nat → Value) (w24 : World), (xJ2 x1 w24) → bsel x1 (Calls Tryz.prog fn_syntax_parser_function #[(.pointer p), (.int .i64 depth)] w24 (fun ed12 w25 => (∃ rKind6 : Int, ∃ rNot1 : Bool, ∃ rName1 : List UInt8, ∃ (rWords1 : Option Addr) (rWordsL1 rWordsC1 : Nat), ∃ (rAssigns1 : Option Addr) (rAssignsL1 rAssignsC1 : Nat), ∃ (rRedirs1 : Option Addr) (rRedirsL1 rRedirsC1 : Nat), ∃ (rOps1 : Option Addr) (rOpsL1 rOpsC1 : Nat), ∃ (rKids1 : Option Addr) (rKidsL1 rKidsC1 : Nat), ed12 = .returned (.agg #[(.int .i64 rKind6), (.bool rNot1), (.string (S rName1)), (.slice rWords1 rWordsL1 rWordsC1), (.slice rAssigns1 rAssignsL1 rAssignsC1), (.slice rRedirs1 rRedirsL1 rRedirsC1), (.slice rOps1 rOpsL1 rOpsC1), (.slice rKids1 rKidsL1 rKidsC1)]) ∧ stCells (Addr.mk w.heap.size 0 none) (fun (w26 : World) => ∃ vKind2 : Int, ∃ vNot2 : Bool, ∃ vName2 : List UInt8, ∃ (vWords2 : Option Addr) (vWordsL2 vWordsC2 : Nat), ∃ (vAssigns2 : Option Addr) (vAssignsL2 vAssignsC2 : Nat), ∃ (vRedirs2 : Option Addr) (vRedirsL2 vRedirsC2 : Nat), ∃ (vOps2 : Option Addr) (vOpsL2 vOpsC2 : Nat), ∃ (vKids2 : Option Addr) (vKidsL2 vKidsC2 : Nat), w26.cell? (Addr.mk w.heap.size 0 none) = some (.int .i64 vKind2) ∧ w26.cell? (Addr.mk w.heap.size 1 none) = some (.bool vNot2) ∧ w26.cell? (Addr.mk w.heap.size 2 none) = some (.string (S vName2)) ∧ w26.cell? (Addr.mk w.heap.size 3 none) = some (.slice vWords2 vWordsL2 vWordsC2) ∧ w26.cell? (Addr.mk w.heap.size 4 none) = some (.slice vAssigns2 vAssignsL2 vAssignsC2) ∧ w26.cell? (Addr.mk w.heap.size 5 none) = some (.slice vRedirs2 vRedirsL2 vRedirsC2) ∧ w26.cell? (Addr.mk w.heap.size 6 none) = some (.slice vOps2 vOpsL2 vOpsC2) ∧ w26.cell? (Addr.mk w.heap.size 7 none) = some (.slice vKids2 vKidsL2 vKidsC2) ∧ R (.returned (.agg #[(.int .i64 vKind2), (.bool vNot2), (.string (S vName2)), (.slice vWords2 vWordsL2 vWordsC2), (.slice vAssigns2 vAssignsL2 vAssignsC2), (.slice vRedirs2 vRedirsL2 vRedirsC2), (.slice vOps2 vOpsL2 vOpsC2), (.slice vKids2 vKidsL2 vKidsC2)])) w26) 0 [(.int .i64 rKind6), (.bool rNot1), (.string (S rName1)), (.slice rWords1 rWordsL1 rWordsC1), (.slice rAssigns1 rAssignsL1 rAssignsC1), (.slice rRedirs1 rRedirsL1 rRedirsC1), (.slice rOps1 rOpsL1 rOpsC1), (.slice rKids1 rKidsL1 rKidsC1)] w25) ∨ (∃ ch12, ed12 = .panicked ch12 ∧ R (.panicked ch12) w25))) (xJ w24)))) ∧ ∀ (_us5 : Nat → Value) (w27 : World), (xJ w27) → Calls Tryz.prog fn_syntax_parser_simple #[(.pointer p)] w27 (fun ed13 w28 => (∃ rKind7 : Int, ∃ rNot2 : Bool, ∃ rName2 : List UInt8, ∃ (rWords2 : Option Addr) (rWordsL2 rWordsC2 : Nat), ∃ (rAssigns2 : Option Addr) (rAssignsL2 rAssignsC2 : Nat), ∃ (rRedirs2 : Option Addr) (rRedirsL2 rRedirsC2 : Nat), ∃ (rOps2 : Option Addr) (rOpsL2 rOpsC2 : Nat), ∃ (rKids2 : Option Addr) (rKidsL2 rKidsC2 : Nat), ed13 = .returned (.agg #[(.int .i64 rKind7), (.bool rNot2), (.string (S rName2)), (.slice rWords2 rWordsL2 rWordsC2), (.slice rAssigns2 rAssignsL2 rAssignsC2), (.slice rRedirs2 rRedirsL2 rRedirsC2), (.slice rOps2 rOpsL2 rOpsC2), (.slice rKids2 rKidsL2 rKidsC2)]) ∧ stCells (Addr.mk w.heap.size 0 none) (fun (w29 : World) => ∃ vKind3 : Int, ∃ vNot3 : Bool, ∃ vName3 : List UInt8, ∃ (vWords3 : Option Addr) (vWordsL3 vWordsC3 : Nat), ∃ (vAssigns3 : Option Addr) (vAssignsL3 vAssignsC3 : Nat), ∃ (vRedirs3 : Option Addr) (vRedirsL3 vRedirsC3 : Nat), ∃ (vOps3 : Option Addr) (vOpsL3 vOpsC3 : Nat), ∃ (vKids3 : Option Addr) (vKidsL3 vKidsC3 : Nat), w29.cell? (Addr.mk w.heap.size 0 none) = some (.int .i64 vKind3) ∧ w29.cell? (Addr.mk w.heap.size 1 none) = some (.bool vNot3) ∧ w29.cell? (Addr.mk w.heap.size 2 none) = some (.string (S vName3)) ∧ w29.cell? (Addr.mk w.heap.size 3 none) = some (.slice vWords3 vWordsL3 vWordsC3) ∧ w29.cell? (Addr.mk w.heap.size 4 none) = some (.slice vAssigns3 vAssignsL3 vAssignsC3) ∧ w29.cell? (Addr.mk w.heap.size 5 none) = some (.slice vRedirs3 vRedirsL3 vRedirsC3) ∧ w29.cell? (Addr.mk w.heap.size 6 none) = some (.slice vOps3 vOpsL3 vOpsC3) ∧ w29.cell? (Addr.mk w.heap.size 7 none) = some (.slice vKids3 vKidsL3 vKidsC3) ∧ R (.returned (.agg #[(.int .i64 vKind3), (.bool vNot3), (.string (S vName3)), (.slice vWords3 vWordsL3 vWordsC3), (.slice vAssigns3 vAssignsL3 vAssignsC3), (.slice vRedirs3 vRedirsL3 vRedirsC3), (.slice vOps3 vOpsL3 vOpsC3), (.slice vKids3 vKidsL3 vKidsC3)])) w29) 0 [(.int .i64 rKind7), (.bool rNot2), (.string (S rName2)), (.slice rWords2 rWordsL2 rWordsC2), (.slice rAssigns2 rAssignsL2 rAssignsC2), (.slice rRedirs2 rRedirsL2 rRedirsC2), (.slice rOps2 rOpsL2 rOpsC2), (.slice rKids2 rKidsL2 rKidsC2)] w28) ∨ (∃ ch13, ed13 = .panicked ch13 ∧ R (.panicked ch13) w28)))) ∨ (∃ ch, ed = .panicked ch ∧ R (.panicked ch) w3)))))
set_option maxRecDepth 100000 in
theorem syntax_parser_command_calls (p : Option Addr) (depth : Int) (w : World) (R : Ending → World → Prop) (hvc : vc_syntax_parser_command p depth w R) : Calls Tryz.prog fn_syntax_parser_command #[(.pointer p), (.int .i64 depth)] w R :=
  calls_vc_lit { live := [(31, []), (3988, []), (499, [(44, (.leaf .bool))]), (1999, [(52, (.leaf .bool))])], draws := [(8, .held)] } cmd_lit Tryz.func54 rfl (by decide) (Eq.mp (α := vc_syntax_parser_command p depth w R) (by kernel_rfl) hvc)
end Go.Proofs.YtcoeiiihmpnagaaGreatDoor
namespace Go.Proofs
open Go.Shelf
def Tryz.lays161_ren : Go.Shelf.Ren := ⟨fun | 161 => 127 | 231 => 128 | 227 => 129 | 233 => 130 | 235 => 131 | 228 => 132 | 197 => 133 | 151 => 134 | 260 => 135 | 152 => 136 | 137 => 40 | 119 => 137 | 224 => 138 | 225 => 139 | 217 => 51 | 266 => 57 | n => n, fun | 9 => 9 | 4 => 4 | 3 => 3 | 5 => 5 | 117 => 125 | 116 => 124 | 0 => 0 | 124 => 128 | 105 => 129 | 21 => 21 | 119 => 133 | 46 => 134 | 139 => 137 | 138 => 136 | n => n, fun | 3 => 1 | 4 => 2 | n => n⟩
theorem Tryz.lays161 : Go.Proofs.Lays.n161 Tryz.prog Tryz.lays161_ren := {
  mixed := by kernel_rfl
  f119 := Tryz.func137.trans (congrArg some (by kernel_rfl))
  f137 := Tryz.func40.trans (congrArg some (by kernel_rfl))
  f151 := Tryz.func134.trans (congrArg some (by kernel_rfl))
  f152 := Tryz.func136.trans (congrArg some (by kernel_rfl))
  f161 := Tryz.func127.trans (congrArg some (by kernel_rfl))
  f197 := Tryz.func133.trans (congrArg some (by kernel_rfl))
  f217 := Tryz.func51.trans (congrArg some (by kernel_rfl))
  f224 := Tryz.func138.trans (congrArg some (by kernel_rfl))
  f225 := Tryz.func139.trans (congrArg some (by kernel_rfl))
  f227 := Tryz.func129.trans (congrArg some (by kernel_rfl))
  f228 := Tryz.func132.trans (congrArg some (by kernel_rfl))
  f231 := Tryz.func128.trans (congrArg some (by kernel_rfl))
  f233 := Tryz.func130.trans (congrArg some (by kernel_rfl))
  f235 := Tryz.func131.trans (congrArg some (by kernel_rfl))
  f260 := Tryz.func135.trans (congrArg some (by kernel_rfl))
  f266 := Tryz.func57.trans (congrArg some (by kernel_rfl))
  t0 := Tryz.underlying0
  a0 := Tryz.isAgg0
  z0 := Tryz.sizeOf0
  v0 := Tryz.zeroValue0
  t3 := Tryz.underlying3
  a3 := Tryz.isAgg3
  z3 := Tryz.sizeOf3
  v3 := Tryz.zeroValue3
  t4 := Tryz.underlying4
  a4 := Tryz.isAgg4
  z4 := Tryz.sizeOf4
  v4 := Tryz.zeroValue4
  t5 := Tryz.underlying5
  a5 := Tryz.isAgg5
  z5 := Tryz.sizeOf5
  v5 := Tryz.zeroValue5
  t9 := Tryz.underlying9
  a9 := Tryz.isAgg9
  z9 := Tryz.sizeOf9
  v9 := Tryz.zeroValue9
  t21 := Tryz.underlying21
  a21 := Tryz.isAgg21
  z21 := Tryz.sizeOf21
  v21 := Tryz.zeroValue21
  t46 := Tryz.underlying134
  a46 := Tryz.isAgg134
  z46 := Tryz.sizeOf134
  v46 := Tryz.zeroValue134
  t105 := Tryz.underlying129
  a105 := Tryz.isAgg129
  z105 := Tryz.sizeOf129
  v105 := Tryz.zeroValue129
  t116 := Tryz.underlying124
  a116 := Tryz.isAgg124
  z116 := Tryz.sizeOf124
  t117 := Tryz.underlying125
  a117 := Tryz.isAgg125
  z117 := Tryz.sizeOf125
  v117 := Tryz.zeroValue125
  t119 := Tryz.underlying133
  a119 := Tryz.isAgg133
  z119 := Tryz.sizeOf133
  t124 := Tryz.underlying128
  a124 := Tryz.isAgg128
  z124 := Tryz.sizeOf128
  v124 := Tryz.zeroValue128
  t138 := Tryz.underlying136
  a138 := Tryz.isAgg136
  z138 := Tryz.sizeOf136
  v138 := Tryz.zeroValue136
  t139 := Tryz.underlying137
  a139 := Tryz.isAgg137
  z139 := Tryz.sizeOf137
  v139 := Tryz.zeroValue137
  g3 := by kernel_rfl
  g4 := by kernel_rfl }
def Tryz.lays137_ren : Go.Shelf.Ren := ⟨fun | 137 => 40 | 217 => 51 | 266 => 57 | n => n, fun | 9 => 9 | 5 => 5 | 3 => 3 | n => n, fun | n => n⟩
theorem Tryz.lays137 : Go.Proofs.Lays.n137 Tryz.prog Tryz.lays137_ren := {
  mixed := by kernel_rfl
  f137 := Tryz.func40.trans (congrArg some (by kernel_rfl))
  f217 := Tryz.func51.trans (congrArg some (by kernel_rfl))
  f266 := Tryz.func57.trans (congrArg some (by kernel_rfl))
  t3 := Tryz.underlying3
  a3 := Tryz.isAgg3
  z3 := Tryz.sizeOf3
  v3 := Tryz.zeroValue3
  t5 := Tryz.underlying5
  a5 := Tryz.isAgg5
  z5 := Tryz.sizeOf5
  v5 := Tryz.zeroValue5
  t9 := Tryz.underlying9
  a9 := Tryz.isAgg9
  z9 := Tryz.sizeOf9
  v9 := Tryz.zeroValue9 }
open Go.RowKit in
theorem Tryz.strings_IndexByte (s : ByteArray) (c : Int) (w : World) :
    Calls Tryz.prog 40 #[.string s, .int .u8 c] w fun e w' => e = .returned (.int .i64 (Lib.indexByte s.data.toList c.toNat.toUInt8)) ∧ w' = w := Any.strings_IndexByte Tryz.lays137 s c w
def Tryz.lays206_ren : Go.Shelf.Ren := ⟨fun | 206 => 58 | n => n, fun | 9 => 9 | 4 => 4 | 3 => 3 | n => n, fun | n => n⟩
theorem Tryz.lays206 : Go.Proofs.Lays.n206 Tryz.prog Tryz.lays206_ren := {
  mixed := by kernel_rfl
  f206 := Tryz.func58.trans (congrArg some (by kernel_rfl))
  t3 := Tryz.underlying3
  a3 := Tryz.isAgg3
  z3 := Tryz.sizeOf3
  v3 := Tryz.zeroValue3
  t4 := Tryz.underlying4
  a4 := Tryz.isAgg4
  z4 := Tryz.sizeOf4
  v4 := Tryz.zeroValue4
  t9 := Tryz.underlying9
  a9 := Tryz.isAgg9
  z9 := Tryz.sizeOf9
  v9 := Tryz.zeroValue9 }
open Go.RowKit Go.Lib in
theorem Tryz.stringslite_HasPrefix (s p : ByteArray) (w : World) :
    Calls Tryz.prog 58 #[.string s, .string p] w fun e w' => e = .returned (.bool (Lib.hasPrefix s.data.toList p.data.toList)) ∧ w' = w := Any.stringslite_HasPrefix Tryz.lays206 s p w
def Tryz.lays99_ren : Go.Shelf.Ren := ⟨fun | 99 => 53 | 206 => 58 | n => n, fun | 9 => 9 | 4 => 4 | 3 => 3 | n => n, fun | n => n⟩
theorem Tryz.lays99 : Go.Proofs.Lays.n99 Tryz.prog Tryz.lays99_ren := {
  mixed := by kernel_rfl
  f99 := Tryz.func53.trans (congrArg some (by kernel_rfl))
  f206 := Tryz.func58.trans (congrArg some (by kernel_rfl))
  t3 := Tryz.underlying3
  a3 := Tryz.isAgg3
  z3 := Tryz.sizeOf3
  v3 := Tryz.zeroValue3
  t4 := Tryz.underlying4
  a4 := Tryz.isAgg4
  z4 := Tryz.sizeOf4
  v4 := Tryz.zeroValue4
  t9 := Tryz.underlying9
  a9 := Tryz.isAgg9
  z9 := Tryz.sizeOf9
  v9 := Tryz.zeroValue9 }
open Go.RowKit Go.Lib in
theorem Tryz.strings_HasPrefix (s p : ByteArray) (w : World) :
    Calls Tryz.prog 53 #[.string s, .string p] w fun e w' => e = .returned (.bool (Lib.hasPrefix s.data.toList p.data.toList)) ∧ w' = w := Any.strings_HasPrefix Tryz.lays99 s p w
end Go.Proofs
namespace Go.Proofs.YtcoeiiihmpnagaaGreatDoor
open Go.RowKit Vc
variable {w : World}
abbrev Scan (w : World) (g : Nat) (s : Txt) : Prop := Row w g 61 ⟨[.string (S s)]⟩
abbrev Only (g : Nat) (w w' : World) : Prop := Mod (fun i => i = g) w w'
theorem Only.trans {g : Nat} {a b c : World} (h : Only g a b) (k : Only g b c) : Only g a c := Mod.trans h k (fun _ h => h) (fun _ _ h => h)
def quoteP : List PanicEntry := [{ v := .iface 32 (.int .i64 80), recovered := false }]
def Took (g : Nat) (w : World) (o : Option Txt) (e : Ending) (w' : World) : Prop :=
  Only g w w' ∧ match o with
    | some t => e = .returned (.tuple #[]) ∧ Scan w' g t
    | none => e = .panicked quoteP ∧ ∃ t, Scan w' g t
theorem want_spec (ok : Bool) : Calls Tryz.prog fn_lexer_want #[.bool ok] w (fun e w' => e = (if ok = true then .returned (.tuple #[]) else .panicked quoteP) ∧ w' = w) := by
  refine lexer_want_calls _ _ _ ?_
  exact bsel_of (fun h => by have : ok = false := by simpa using h
                             subst this; exact ⟨rfl, rfl⟩) (fun h => by have : ok = true := by simpa using h
                                                                        subst this; exact ⟨rfl, rfl⟩)
theorem Scan.cell {g : Nat} {s : Txt} (h : Scan w g s) : w.cell? ⟨g, 0, none⟩ = some (.string (S s)) := h.cellv rfl
theorem Scan.put {g : Nat} {s : Txt} (h : Scan w g s) (t : Txt) : Scan (w.setCell ⟨g, 0, none⟩ (.string (S t))) g t := h.setl 0 _
theorem Only.put {g : Nat} (t : Value) : Only g w (w.setCell ⟨g, 0, none⟩ t) := (Mod.refl (fun i => i = g) w).setCell (p := ⟨g, 0, none⟩) (.inl rfl) _
theorem skip_spec {g : Nat} {s : Txt} (h : Scan w g s) (n : Nat) : Calls Tryz.prog fn_lexer_scanner_skip #[.pointer (some ⟨g, 0, none⟩), .int .i64 (n : Int)] w
    (fun e w' => Took g w (if n ≤ s.length then some (s.drop n) else none) e w') := by
  refine lexer_scanner_skip_calls _ _ _ _ ?_
  refine ⟨_, h.cell, (want_spec _).mono ?_⟩
  rintro _ w1 ⟨rfl, rfl⟩
  by_cases hn : n ≤ s.length
  · rw [if_pos hn, if_pos (decide_eq_true (by omega))]
    refine .inl ⟨rfl, _, h.cell, by omega, by omega, h.wr 0 (by simp), Only.put _, rfl, ?_⟩
    rw [Int.toNat_natCast]
    exact h.put _
  · rw [if_neg hn, if_neg (by simp; omega)]
    exact .inr ⟨_, rfl, Mod.refl _ _, rfl, s, h⟩
theorem Took.next {g : Nat} {o : Option Txt} {e : Ending} {w1 w' : World} (hm : Only g w w1) (h : Took g w1 o e w') : Took g w o e w' := ⟨hm.trans h.1, h.2⟩
theorem Took.on {g : Nat} {o : Option Txt} {f : Txt → Option Txt} {e : Ending} {w1 : World} {R : Ending → World → Prop} (hr : ∀ e w', Took g w (o.bind f) e w' → R e w') (h : Took g w o e w1) {K : World → Prop}
    (hk : ∀ t, o = some t → Only g w w1 → Scan w1 g t → (∀ e w', Took g w1 (f t) e w' → R e w') → K w1) : (e = .returned (.tuple #[]) ∧ K w1) ∨ (∃ ch, e = .panicked ch ∧ R (.panicked ch) w1) := by
  obtain ⟨hm, h⟩ := h
  cases o with
  | none =>
    obtain ⟨rfl, ht⟩ := h
    exact .inr ⟨_, rfl, hr _ _ ⟨hm, rfl, ht⟩⟩
  | some t =>
    obtain ⟨rfl, ht⟩ := h
    exact .inl ⟨rfl, hk t rfl hm ht (fun e w' h => hr _ _ (Took.next hm h))⟩
theorem indexQuote : ∀ s : Txt, (if 0 ≤ Go.Lib.indexByte s 39 then some (s.drop (Go.Lib.indexByte s 39 + 1).toNat) else none) = quoteEnd s ∧ (0 ≤ Go.Lib.indexByte s 39 → Go.Lib.indexByte s 39 < s.length) ∧ -1 ≤ Go.Lib.indexByte s 39
  | [] => ⟨rfl, by decide, by decide⟩
  | a :: r => by
    obtain ⟨h1, h2, h3⟩ := indexQuote r
    simp only [Go.Lib.indexByte, quoteEnd, beq_iff_eq]
    by_cases ha : a = 39
    · rw [if_pos ha, if_pos ha]
      refine ⟨rfl, fun _ => by simp only [List.length_cons]; omega, by decide⟩
    · rw [if_neg ha, if_neg ha, ← h1]
      by_cases hr : Go.Lib.indexByte r 39 = -1
      · rw [if_pos hr, hr]
        exact ⟨rfl, fun h => absurd h (by decide), by decide⟩
      · rw [if_neg hr, if_pos (by omega), if_pos (by omega)]
        refine ⟨?_, fun _ => by simp only [List.length_cons]; have := h2 (by omega); omega, by omega⟩
        congr 1
        rw [show (Go.Lib.indexByte r 39 + 1 + 1).toNat = (Go.Lib.indexByte r 39 + 1).toNat + 1 by omega, List.drop_succ_cons]
def UnitAt (d : Nat) : Prop := ∀ (w : World) (g : Nat) (s : Txt), s ≠ [] → Scan w g s → s.length < 1000000 → Calls Tryz.prog fn_lexer_scanner_unit #[.pointer (some ⟨g, 0, none⟩), .int .i64 (31 - (d : Int))] w (fun e w' => Took g w (unitD d s) e w')
def UntilAt (d : Nat) : Prop := ∀ (w : World) (g : Nat) (s : Txt) (c : UInt8), Scan w g s → s.length < 1000000 → Calls Tryz.prog fn_lexer_scanner_until #[.pointer (some ⟨g, 0, none⟩), .int .u8 (c.toNat : Int), .int .i64 (31 - (d : Int))] w (fun e w' => Took g w (untilD d c s) e w')
set_option maxHeartbeats 1000000 in
theorem unit_of {d : Nat} (hd : d ≤ 31) (ih : d ≠ 0 → UntilAt (d - 1)) : UnitAt d := by
  intro w g s hs h hlen
  refine lexer_scanner_unit_calls _ _ _ _ ?_
  refine (want_spec _).mono ?_
  rintro _ w1 ⟨rfl, rfl⟩
  by_cases hd0 : d = 0
  · subst hd0
    rw [if_neg (by simp), unitD_zero]
    exact .inr ⟨_, rfl, Mod.refl _ _, rfl, s, h⟩
  obtain ⟨k, rfl⟩ : ∃ k, d = k + 1 := ⟨d - 1, by omega⟩
  have ih := ih hd0
  rw [Nat.add_sub_cancel] at ih
  have e1 : IntKind.i64.wrap (31 - ((k + 1 : Nat) : Int) + 1) = 31 - (k : Int) := by rw [wrap_i64 (by omega) (by omega)]; omega
  rw [if_pos (decide_eq_true (by omega)), e1]
  obtain ⟨a, r, rfl⟩ := List.exists_cons_of_ne_nil hs
  simp only [List.length_cons] at hlen
  have hu : unitD (k + 1) (a :: r) = unitF (untilD k) (a :: r) := rfl
  rw [hu]
  -- a skip, and what ends
  have into : ∀ (n : Nat) (c : UInt8) (s2 : Txt), n ≤ (a :: r).length → (a :: r).drop n = s2 → ∀ R : Ending → World → Prop, (∀ e w', Took g w1 (untilD k c s2) e w' → R e w') →
      Calls Tryz.prog fn_lexer_scanner_skip #[(.pointer (some ⟨g, 0, none⟩)), (.int .i64 (n : Int))] w1 (fun ed5 w6 => (ed5 = .returned (.tuple #[]) ∧ Calls Tryz.prog fn_lexer_scanner_until #[(.pointer (some ⟨g, 0, none⟩)), (.int .u8 (c.toNat : Int)), (.int .i64 (31 - (k : Int)))] w6 (fun ed6 w7 => (ed6 = .returned (.tuple #[]) ∧ R (.returned (.tuple #[])) w7) ∨ (∃ ch6, ed6 = .panicked ch6 ∧ R (.panicked ch6) w7))) ∨ (∃ ch5, ed5 = .panicked ch5 ∧ R (.panicked ch5) w6)) := by
    intro n c s2 hn hdrop R hR
    refine (skip_spec h n).mono fun e w6 ht => ?_
    rw [if_pos hn, hdrop] at ht
    obtain ⟨hm, rfl, hs2⟩ := ht
    have hl2 : s2.length < 1000000 := by
      rw [← hdrop]
      simp only [List.length_drop, List.length_cons]
      omega
    refine .inl ⟨rfl, (ih w6 g s2 c hs2 hl2).mono fun e w7 ht => ?_⟩
    have ht := Took.next hm ht
    cases ho : untilD k c s2 with
    | none =>
      rw [ho] at ht
      obtain ⟨hm2, rfl, h3⟩ := ht
      exact .inr ⟨_, rfl, hR _ _ (by rw [ho]; exact ⟨hm2, rfl, h3⟩)⟩
    | some t =>
      rw [ho] at ht
      obtain ⟨hm2, rfl, h3⟩ := ht
      exact .inl ⟨rfl, hR _ _ (by rw [ho]; exact ⟨hm2, rfl, h3⟩)⟩
  have justSkip : ∀ (n : Nat) (o : Option Txt), (if n ≤ (a :: r).length then some ((a :: r).drop n) else none) = o → ∀ R : Ending → World → Prop, (∀ e w', Took g w1 o e w' → R e w') →
      Calls Tryz.prog fn_lexer_scanner_skip #[(.pointer (some ⟨g, 0, none⟩)), (.int .i64 (n : Int))] w1 (fun ed5 w6 => (ed5 = .returned (.tuple #[]) ∧ R (.returned (.tuple #[])) w6) ∨ (∃ ch5, ed5 = .panicked ch5 ∧ R (.panicked ch5) w6)) := by
    intro n o ho R hR
    refine (skip_spec h n).mono fun e w6 ht => ?_
    rw [ho] at ht
    cases o with
    | none =>
      obtain ⟨hm2, rfl, h3⟩ := ht
      exact .inr ⟨_, rfl, hR _ _ ⟨hm2, rfl, h3⟩⟩
    | some t =>
      obtain ⟨hm2, rfl, h3⟩ := ht
      exact .inl ⟨rfl, hR _ _ ⟨hm2, rfl, h3⟩⟩
  refine .inl ⟨rfl, _, h.cell, by decide, a, rfl, bsel_of (fun h92 => ?_) (fun h92 => ⟨_, h.cell, by decide, a, rfl, bsel_of (fun h39 => ?_) (fun h39 => ⟨_, h.cell, by decide, a, rfl, bsel_of (fun h34 => ?_) (fun h34 => ⟨_, h.cell, ?_⟩)⟩)⟩)⟩
  · have h92 : a = 92 := byte_eq.1 (of_decide_eq_true h92)
    refine justSkip 2 _ ?_ _ (fun e w' h => h)
    simp only [unitF, if_pos h92]
    cases r with
    | nil => rfl
    | cons b t => simp
  · have h92 : ¬ a = 92 := fun e => of_decide_eq_false h92 (byte_eq.2 e)
    have h39 : a = 39 := byte_eq.1 (of_decide_eq_true h39)
    refine ⟨_, h.cell, by decide, by simp only [List.length_cons]; omega, ?_⟩
    have hq : unitF (untilD k) (a :: r) = quoteEnd r := by simp only [unitF, if_neg h92, if_pos h39]
    rw [hq]
    obtain ⟨i1, i2, i3⟩ := indexQuote r
    refine (Tryz.strings_IndexByte (S r) 39 _).mono ?_
    rintro _ w3 ⟨rfl, rfl⟩
    have hix : Go.Lib.indexByte (S r).data.toList (Int.toNat 39).toUInt8 = Go.Lib.indexByte r 39 := rfl
    rw [hix]
    generalize Go.Lib.indexByte r 39 = ix at i1 i2 i3
    refine .inl ⟨_, rfl, (want_spec _).mono ?_⟩
    rintro _ w4 ⟨rfl, rfl⟩
    by_cases h0 : 0 ≤ ix
    · obtain ⟨n, rfl⟩ := Int.eq_ofNat_of_zero_le h0
      have i2 := i2 h0
      have e2 : IntKind.i64.wrap ((n : Int) + 2) = ((n + 2 : Nat) : Int) := by rw [wrap_i64 (by omega) (by omega)]; omega
      rw [if_pos (decide_eq_true h0), e2]
      refine .inl ⟨rfl, justSkip (n + 2) _ ?_ _ (fun e w' h => h)⟩
      rw [← i1, if_pos h0, if_pos (by simp only [List.length_cons]; omega), show ((n : Int) + 1).toNat = n + 1 by omega]
      rfl
    · rw [if_neg (by simpa using h0)]
      refine .inr ⟨_, rfl, ?_⟩
      rw [← i1, if_neg h0]
      exact ⟨Mod.refl _ _, rfl, _, h⟩
  · have h92 : ¬ a = 92 := fun e => of_decide_eq_false h92 (byte_eq.2 e)
    have h39 : ¬ a = 39 := fun e => of_decide_eq_false h39 (byte_eq.2 e)
    have h34 : a = 34 := byte_eq.1 (of_decide_eq_true h34)
    have hq : unitF (untilD k) (a :: r) = untilD k 34 r := by simp only [unitF, if_neg h92, if_neg h39, if_pos h34]
    rw [hq]
    exact into 1 34 r (by simp) rfl _ (fun e w' h => h)
  · have h92 : ¬ a = 92 := fun e => of_decide_eq_false h92 (byte_eq.2 e)
    have h39 : ¬ a = 39 := fun e => of_decide_eq_false h39 (byte_eq.2 e)
    have h34 : ¬ a = 34 := fun e => of_decide_eq_false h34 (byte_eq.2 e)
    have hq : unitF (untilD k) (a :: r) = dollar (untilD k) a r := by simp only [unitF, if_neg h92, if_neg h39, if_neg h34]
    rw [hq]
    have hp : ∀ x : UInt8, Go.Lib.hasPrefix (S (a :: r)).data.toList (S [36, x]).data.toList = (match r with
      | b :: _ => decide (a = 36 ∧ b = x)
      | [] => false) := by
      intro x
      show List.isPrefixOf [36, x] (a :: r) = _
      cases r with
      | nil => simp [List.isPrefixOf]
      | cons b t =>
        simp only [List.isPrefixOf, Bool.and_true]
        by_cases h1 : a = 36
        · by_cases h2 : b = x
          · simp [h1, h2]
          · have : ¬ x = b := fun e => h2 e.symm
            simp [h1, h2, this]
        · have : ¬ 36 = a := fun e => h1 e.symm
          simp [h1, this]
    refine (Tryz.strings_HasPrefix (S (a :: r)) (S [36, 40]) _).mono ?_
    rintro _ w3 ⟨rfl, rfl⟩
    rw [hp 40]
    refine .inl ⟨_, rfl, bsel_of (fun h40 => ?_) (fun h40 => ⟨_, h.cell, (Tryz.strings_HasPrefix (S (a :: r)) (S [36, 123]) _).mono ?_⟩)⟩
    · cases r with
      | nil => cases h40
      | cons b t =>
        have h40 := of_decide_eq_true h40
        simp only [dollar, if_pos h40]
        exact into 2 41 t (by simp) rfl _ (fun e w' h => h)
    · rintro _ w4 ⟨rfl, rfl⟩
      rw [hp 123]
      refine .inl ⟨_, rfl, bsel_of (fun h123 => ?_) (fun h123 => ?_)⟩
      · cases r with
        | nil => cases h123
        | cons b t =>
          have h40 := of_decide_eq_false h40
          have h123 := of_decide_eq_true h123
          simp only [dollar, if_neg h40, if_pos h123]
          exact into 2 125 t (by simp) rfl _ (fun e w' h => h)
      · refine justSkip 1 _ ?_ _ (fun e w' h => h)
        cases r with
        | nil => rfl
        | cons b t =>
          have h40 := of_decide_eq_false h40
          have h123 := of_decide_eq_false h123
          simp only [dollar, if_neg h40, if_neg h123]
          simp
def scanLen (g : Nat) (w : World) : Nat := match w.cell? ⟨g, 0, none⟩ with
  | some (.string s) => s.data.size
  | _ => 0
theorem Scan.len {g : Nat} {s : Txt} (h : Scan w g s) : scanLen g w = s.length := by
  unfold scanLen
  rw [h.cell]
  rfl
set_option maxHeartbeats 1000000 in
theorem until_of {d : Nat} (hd : d ≤ 31) (hu : UnitAt d) (ih : d ≠ 0 → UntilAt (d - 1)) : UntilAt d := by
  intro w g s c h hlen
  refine lexer_scanner_until_calls _ _ _ _ _ ?_
  refine ⟨fun w1 => ∃ s1, Scan w1 g s1 ∧ Only g w w1 ∧ untilD d c s1 = untilD d c s ∧ s1.length ≤ s.length, scanLen g, ⟨s, h, Mod.refl _ _, rfl, Nat.le_refl _⟩, ?_⟩
  rintro _ w1 ⟨s1, h1, hm1, he, hl⟩
  rw [← he]
  refine ⟨_, h1.cell, (want_spec _).mono ?_⟩
  rintro _ w2 ⟨rfl, rfl⟩
  cases s1 with
  | nil =>
    rw [if_neg (by simp), untilD_nil]
    exact .inr ⟨_, rfl, hm1, rfl, _, h1⟩
  | cons b r =>
    rw [if_pos (by simp)]
    rw [untilD_cons] at he ⊢
    simp only [List.length_cons] at hl
    refine .inl ⟨rfl, _, h1.cell, by decide, b, rfl, bsel_of (fun hb => ?_) (fun hb => ?_)⟩
    · have hb : b = c := byte_eq.1 (of_decide_eq_true hb)
      rw [if_pos hb]
      refine (skip_spec h1 1).mono fun e w3 ht => ?_
      rw [if_pos (by simp)] at ht
      obtain ⟨hm3, rfl, h3⟩ := ht
      exact .inl ⟨rfl, hm1.trans hm3, rfl, h3⟩
    · have hb : ¬ b = c := fun e => of_decide_eq_false hb (byte_eq.2 e)
      rw [if_neg hb] at he ⊢
      -- what goes on behind a taking
      have on : ∀ (o : Option Txt) (e : Ending) (w3 : World), Took g w2 o e w3 → o.bind (untilD d c) = untilD d c s → (∀ t, o = some t → t.length ≤ r.length) →
          (e = .returned (.tuple #[]) ∧ (∃ s1, Scan w3 g s1 ∧ Only g w w3 ∧ untilD d c s1 = untilD d c s ∧ s1.length ≤ s.length) ∧ scanLen g w3 < scanLen g w2) ∨ (∃ ch, e = .panicked ch ∧ Took g w (untilD d c s) (.panicked ch) w3) := by
        intro o e w3 ht ho hlo
        obtain ⟨hm3, ht⟩ := ht
        cases o with
        | none =>
          obtain ⟨rfl, h3⟩ := ht
          refine .inr ⟨_, rfl, hm1.trans hm3, ?_⟩
          rw [← ho]
          exact ⟨rfl, h3⟩
        | some t =>
          obtain ⟨rfl, h3⟩ := ht
          have := hlo t rfl
          refine .inl ⟨rfl, ⟨t, h3, hm1.trans hm3, ho, by omega⟩, ?_⟩
          rw [h3.len, h1.len]
          simp only [List.length_cons]
          omega
      have hrl : r.length < 1000000 := by omega
      have unit : (unitD d (b :: r)).bind (untilD d c) = untilD d c s → Calls Tryz.prog fn_lexer_scanner_unit #[(.pointer (some ⟨g, 0, none⟩)), (.int .i64 (31 - (d : Int)))] w2 (fun ed7 w10 => (ed7 = .returned (.tuple #[]) ∧ (∃ s1, Scan w10 g s1 ∧ Only g w w10 ∧ untilD d c s1 = untilD d c s ∧ s1.length ≤ s.length) ∧ scanLen g w10 < scanLen g w2) ∨ (∃ ch7, ed7 = .panicked ch7 ∧ Took g w (untilD d c s) (.panicked ch7) w10)) := by
        intro ho
        refine (hu w2 g (b :: r) (List.cons_ne_nil _ _) h1 (by simp only [List.length_cons]; omega)).mono fun e w3 ht => ?_
        refine on _ e w3 ht ho fun t ht => ?_
        have := unitD_takes d _ _ ht
        simp only [List.length_cons] at this
        omega
      have wd : decide (31 - (d : Int) ≤ 30) = decide (d ≠ 0) := by
        apply decide_eq_decide.2
        omega
      rw [wd]
      have hres : untilD d c s = (if c = 34 ∧ b = 39 then (if d = 0 then none else untilD d c r) else if c = 41 ∧ b = 40 then (if d = 0 then none else (untilD (d - 1) 41 r).bind (untilD d c)) else (unitD d (b :: r)).bind (untilD d c)) := he.symm
      rw [he]
      refine ⟨fun x w4 => x = decide (c = 34 ∧ b = 39) ∧ w4 = w2, bsel_of (fun hc => ⟨?_, rfl⟩) (fun hc => ⟨?_, rfl⟩), ?_⟩
      · have hc : c = 34 := byte_eq.1 (of_decide_eq_true hc)
        apply decide_eq_decide.2
        exact ⟨fun h => ⟨hc, byte_eq.1 h⟩, fun h => byte_eq.2 h.2⟩
      · rw [decide_eq_false (fun h => of_decide_eq_false hc (byte_eq.2 h.1))]
      rintro _ _ w4 ⟨rfl, rfl⟩
      refine bsel_of (fun hq => ?_) (fun hq => ?_)
      · have hq := of_decide_eq_true hq
        rw [if_pos hq] at hres
        refine (want_spec _).mono ?_
        rintro _ w5 ⟨rfl, rfl⟩
        by_cases hd0 : d = 0
        · rw [if_pos hd0] at hres
          rw [if_neg (by simp [hd0])]
          refine .inr ⟨_, rfl, ?_⟩
          rw [hres]
          exact ⟨hm1, rfl, _, h1⟩
        · rw [if_neg hd0] at hres
          rw [if_pos (by simp [hd0])]
          refine .inl ⟨rfl, (skip_spec h1 1).mono fun e w6 ht => ?_⟩
          rw [if_pos (by simp)] at ht
          refine on (some r) e w6 ht hres.symm fun t ht => ?_
          obtain rfl := Option.some.inj ht
          exact Nat.le_refl _
      · have hq := of_decide_eq_false hq
        rw [if_neg hq] at hres
        refine bsel_of (fun hc => bsel_of (fun hb40 => ?_) (fun hb40 => ?_)) (fun hc => ?_)
        · have hc : c = 41 := byte_eq.1 (of_decide_eq_true hc)
          have hb40 : b = 40 := byte_eq.1 (of_decide_eq_true hb40)
          rw [if_pos ⟨hc, hb40⟩] at hres
          refine (want_spec _).mono ?_
          rintro _ w5 ⟨rfl, rfl⟩
          by_cases hd0 : d = 0
          · rw [if_pos hd0] at hres
            rw [if_neg (by simp [hd0])]
            refine .inr ⟨_, rfl, ?_⟩
            rw [hres]
            exact ⟨hm1, rfl, _, h1⟩
          · rw [if_neg hd0] at hres
            rw [if_pos (by simp [hd0])]
            have e1 : IntKind.i64.wrap (31 - (d : Int) + 1) = 31 - ((d - 1 : Nat) : Int) := by rw [wrap_i64 (by omega) (by omega)]; omega
            rw [e1]
            refine .inl ⟨rfl, (skip_spec h1 1).mono fun e w6 ht => ?_⟩
            rw [if_pos (by simp)] at ht
            obtain ⟨hm6, rfl, h6⟩ := ht
            refine .inl ⟨rfl, (ih hd0 w6 g r 41 h6 hrl).mono fun e w7 ht => ?_⟩
            refine on _ e w7 (Took.next hm6 ht) hres.symm fun t ht => ?_
            exact Nat.le_of_lt (untilD_takes (d - 1) 41 _ _ ht)
        · have hb40 : ¬ b = 40 := fun e => of_decide_eq_false hb40 (byte_eq.2 e)
          rw [if_neg (fun h => hb40 h.2)] at hres
          exact unit hres.symm
        · have hc : ¬ c = 41 := fun e => of_decide_eq_false hc (byte_eq.2 e)
          rw [if_neg (fun h => hc h.1)] at hres
          exact unit hres.symm
theorem levels : ∀ d, d ≤ 31 → UnitAt d ∧ UntilAt d
  | 0, h => ⟨unit_of h (fun h => absurd rfl h), until_of h (unit_of h (fun h => absurd rfl h)) (fun h => absurd rfl h)⟩
  | d + 1, h => by
    have ih := (levels d (by omega)).2
    have hu : UnitAt (d + 1) := unit_of h (fun _ => ih)
    exact ⟨hu, until_of h hu (fun _ => ih)⟩
theorem unit_spec {g : Nat} {s : Txt} (hs : s ≠ []) (h : Scan w g s) (hl : s.length < 1000000) : Calls Tryz.prog fn_lexer_scanner_unit #[.pointer (some ⟨g, 0, none⟩), .int .i64 1] w (fun e w' => Took g w (unitD 30 s) e w') :=
  (levels 30 (by decide)).1 w g s hs h hl
def letR (r : Int) : Bool := decide ((97 ≤ r ∧ r ≤ 122) ∨ (65 ≤ r ∧ r ≤ 90) ∨ r = 95)
def digR (r : Int) : Bool := decide (48 ≤ r ∧ r ≤ 57)
theorem u8_le (a c : UInt8) : decide (a ≤ c) = decide ((a.toNat : Int) ≤ (c.toNat : Int)) := by
  apply decide_eq_decide.2
  rw [UInt8.le_iff_toNat_le]
  omega
theorem isLet_int (c : UInt8) : isLet c = letR (c.toNat : Int) := by
  unfold isLet letR
  rw [u8_le, u8_le, u8_le, u8_le, show (c == 95) = decide ((c.toNat : Int) = 95) by rw [Bool.eq_iff_iff]; simp [← UInt8.toNat_inj]; omega]
  rw [Bool.eq_iff_iff]
  simp
  omega
theorem isDig_int (c : UInt8) : isDig c = digR (c.toNat : Int) := by
  unfold isDig digR
  rw [u8_le, u8_le, Bool.eq_iff_iff]
  simp
theorem nt {p : Prop} [Decidable p] (h : (!decide p) = true) : ¬ p := by simpa using h
theorem nf {p : Prop} [Decidable p] (h : (!decide p) = false) : p := by simpa using h
theorem ret_bool {b b' : Bool} (h : b = b') : (Ending.returned (.bool b) = .returned (.bool b') ∧ w = w) := by rw [h]; exact ⟨rfl, rfl⟩
theorem word_letter_spec (r : Int) : Calls Tryz.prog fn_word_letter #[.int .i32 r] w (fun e w' => e = .returned (.bool (letR r)) ∧ w' = w) := by
  refine word_letter_calls _ _ _ ?_
  unfold letR
  repeat' refine bsel_of (fun h => ?_) (fun h => ?_)
  all_goals simp only [decide_eq_true_eq, decide_eq_false_iff_not] at *
  all_goals refine ⟨congrArg (fun b => Ending.returned (.bool b)) ?_, trivial⟩
  all_goals first | exact (decide_eq_true (by omega)).symm | exact decide_eq_decide.2 (by omega)
theorem word_digit_spec (r : Int) : Calls Tryz.prog fn_word_digit #[.int .i32 r] w (fun e w' => e = .returned (.bool (digR r)) ∧ w' = w) := by
  refine word_digit_calls _ _ _ ?_
  unfold digR
  repeat' refine bsel_of (fun h => ?_) (fun h => ?_)
  all_goals simp only [decide_eq_true_eq, decide_eq_false_iff_not] at *
  all_goals refine ⟨congrArg (fun b => Ending.returned (.bool b)) ?_, trivial⟩
  all_goals first | exact (decide_eq_false (by omega)).symm | exact decide_eq_decide.2 (by omega)
theorem ref_letter_spec (c : UInt8) : Calls Tryz.prog fn_ref08_letter #[.int .u8 (c.toNat : Int)] w (fun e w' => e = .returned (.bool (isLet c)) ∧ w' = w) := by
  refine ref08_letter_calls _ _ _ ?_
  rw [isLet_int]
  unfold letR
  repeat' refine bsel_of (fun h => ?_) (fun h => ?_)
  all_goals simp only [decide_eq_true_eq, decide_eq_false_iff_not] at *
  all_goals refine ⟨congrArg (fun b => Ending.returned (.bool b)) ?_, trivial⟩
  all_goals first | exact (decide_eq_true (by omega)).symm | exact decide_eq_decide.2 (by omega)
theorem ref_digit_spec (c : UInt8) : Calls Tryz.prog fn_ref08_digit #[.int .u8 (c.toNat : Int)] w (fun e w' => e = .returned (.bool (isDig c)) ∧ w' = w) := by
  refine ref08_digit_calls _ _ _ ?_
  rw [isDig_int]
  unfold digR
  repeat' refine bsel_of (fun h => ?_) (fun h => ?_)
  all_goals simp only [decide_eq_true_eq, decide_eq_false_iff_not] at *
  all_goals refine ⟨congrArg (fun b => Ending.returned (.bool b)) ?_, trivial⟩
  all_goals first | exact (decide_eq_false (by omega)).symm | exact decide_eq_decide.2 (by omega)
theorem spec_eq (c k : UInt8) : decide ((c.toNat : Int) = (k.toNat : Int)) = (c == k) := by
  rw [Bool.eq_iff_iff]
  simp only [decide_eq_true_eq, beq_iff_eq]
  exact byte_eq
theorem ref_special_spec (c : UInt8) : Calls Tryz.prog fn_ref08_special #[.int .u8 (c.toNat : Int)] w (fun e w' => e = .returned (.bool (isSpec c)) ∧ w' = w) := by
  refine ref08_special_calls _ _ _ ?_
  refine (ref_digit_spec c).mono ?_
  rintro _ w1 ⟨rfl, rfl⟩
  have e1 := spec_eq c 35
  have e2 := spec_eq c 63
  have e3 := spec_eq c 64
  have e4 := spec_eq c 42
  unfold isSpec
  rw [← e1, ← e2, ← e3, ← e4]
  refine .inl ⟨_, rfl, bsel_of (fun h => ret_bool (by rw [h]; rfl)) (fun h => bsel_of (fun h2 => ret_bool ?_) (fun h2 => bsel_of (fun h3 => ret_bool ?_) (fun h3 => bsel_of (fun h4 => ret_bool ?_) (fun h4 => ret_bool ?_))))⟩
  · have h2 : decide ((c.toNat : Int) = ((35 : UInt8).toNat : Int)) = true := h2
    rw [h2]; simp
  · have h3 : decide ((c.toNat : Int) = ((63 : UInt8).toNat : Int)) = true := h3
    rw [h3]; simp
  · have h4 : decide ((c.toNat : Int) = ((64 : UInt8).toNat : Int)) = true := h4
    rw [h4]; simp
  · have h2 : decide ((c.toNat : Int) = ((35 : UInt8).toNat : Int)) = false := h2
    have h3 : decide ((c.toNat : Int) = ((63 : UInt8).toNat : Int)) = false := h3
    have h4 : decide ((c.toNat : Int) = ((64 : UInt8).toNat : Int)) = false := h4
    rw [h, h2, h3, h4]
    rfl
theorem takeWhile_step {p : UInt8 → Bool} : ∀ {l : Txt} {k : Nat} (hk : k < l.length), k ≤ (l.takeWhile p).length → (p l[k] = true → k + 1 ≤ (l.takeWhile p).length) ∧ (p l[k] = false → (l.takeWhile p).length = k)
  | a :: l, 0, _, _ => by
    refine ⟨fun h => ?_, fun h => ?_⟩
    · have h : p a = true := h
      rw [List.takeWhile_cons, if_pos h]
      simp
    · have h : p a = false := h
      rw [List.takeWhile_cons, if_neg (by rw [h]; decide)]
      rfl
  | a :: l, k + 1, hk, h => by
    rw [List.takeWhile_cons] at h ⊢
    by_cases ha : p a = true
    · rw [if_pos ha] at h ⊢
      simp only [List.length_cons] at h hk ⊢
      have := takeWhile_step (p := p) (l := l) (k := k) (by omega) (by omega)
      refine ⟨fun hp => ?_, fun hp => ?_⟩
      · have := this.1 hp; omega
      · have := this.2 hp; omega
    · rw [if_neg ha] at h
      simp at h
theorem nameN_step {s : Txt} {k : Nat} (hk : k < s.length) (h : k ≤ nameN s) : ((isLet s[k] || (decide (0 < k) && isDig s[k])) = true → k + 1 ≤ nameN s) ∧ ((isLet s[k] || (decide (0 < k) && isDig s[k])) = false → nameN s = k) := by
  cases s with
  | nil => simp at hk
  | cons c r =>
    simp only [nameN] at h ⊢
    cases k with
    | zero =>
      have e : (c :: r)[0] = c := rfl
      rw [e]
      simp only [Nat.lt_irrefl, decide_false, Bool.false_and, Bool.or_false]
      refine ⟨fun hc => ?_, fun hc => ?_⟩
      · rw [if_pos hc]; omega
      · rw [if_neg (by rw [hc]; decide)]
    | succ k =>
      by_cases hc : isLet c = true
      · rw [if_pos hc] at h ⊢
        simp only [List.length_cons] at hk
        have := takeWhile_step (p := isNam) (l := r) (k := k) (by omega) (by omega)
        have e : (c :: r)[k + 1] = r[k]'(by omega) := rfl
        rw [e]
        simp only [Nat.zero_lt_succ, decide_true, Bool.true_and]
        refine ⟨fun hp => ?_, fun hp => ?_⟩
        · have := this.1 hp; omega
        · have := this.2 hp; omega
      · rw [if_neg hc] at h
        omega
theorem dec_low {b : Txt} {k : Nat} (hk : k < b.length) (h : b[k].toNat < 128) : Utf8.decode ⟨⟨b⟩⟩ k = (b[k].toNat, 1) := decode_ascii ⟨⟨b⟩⟩ k hk h
theorem dec_high {b : Txt} {k : Nat} (hk : k < b.length) (h : 128 ≤ b[k].toNat) : 128 ≤ (Utf8.decode ⟨⟨b⟩⟩ k).1 := by
  have e : (S b).get! (k + 0) = b[k] := by
    show (S b).get! k = _
    have hs : k < (S b).size := hk
    simp [ByteArray.get!, List.getElem?_eq_getElem hk]
  simp only [Utf8.decode, e]
  rw [if_neg (by omega)]
  unfold Utf8.runeError
  repeat' split
  all_goals simp_all
  all_goals omega
theorem rune_is {b : Txt} {k : Nat} (hk : k < b.length) : letR ((Utf8.decode ⟨⟨b⟩⟩ k).1 : Int) = isLet b[k] ∧ digR ((Utf8.decode ⟨⟨b⟩⟩ k).1 : Int) = isDig b[k] ∧ ((isLet b[k] || isDig b[k]) = true → (Utf8.decode ⟨⟨b⟩⟩ k).2 = 1) := by
  rcases Nat.lt_or_ge b[k].toNat 128 with hlt | hge
  · rw [dec_low hk hlt, isLet_int, isDig_int]
    exact ⟨rfl, rfl, fun _ => rfl⟩
  · have hh := dec_high hk hge
    rw [isLet_int, isDig_int]
    unfold letR digR
    refine ⟨?_, ?_, fun h => ?_⟩
    · rw [decide_eq_false (by omega), decide_eq_false (by omega)]
    · rw [decide_eq_false (by omega), decide_eq_false (by omega)]
    · exfalso
      simp at h
      omega
theorem iter_new (w : World) (o : Obj) : (w.alloc o).heap[w.heap.size]? = some o := heap_alloc_new w _
theorem iter_still {w1 : World} {g : Nat} (h : Still w w1) (hg : w.heap.size ≤ g) (s : ByteArray) (n : Nat) : Still w (w1.iterAt g s n) :=
  ⟨h.os, h.tape, h.output, by rw [Lib.iterAt_size]; exact h.size, fun k hk hn => (Lib.iterAt_other _ _ _ _ _ (by omega)).trans (h.block k hk hn)⟩
theorem Name_spec (s : Txt) (_hl : s.length < 1000000) : Calls Tryz.prog fn_word_Name #[.string (S s)] w (fun e w' => e = .returned (.string (S (s.take (nameN s)))) ∧ Still w w') := by
  refine word_Name_calls _ _ _ ?_
  refine letIn ?_
  refine ⟨fun w1 => ∃ k : Nat, w1.heap[w.heap.size]? = some (.stringIter ⟨⟨s⟩⟩ k) ∧ k ≤ nameN s ∧ Still w w1, fun w1 => match w1.heap[w.heap.size]? with
    | some (.stringIter _ k) => s.length - k
    | _ => 0, ⟨0, iter_new _ _, Nat.zero_le _, (Mod.refl _ _).alloc _⟩, ?_⟩
  rintro _ w2 ⟨k, hk, hkn, hs2⟩
  have hnl := nameN_le s
  refine ⟨rfl, s, k, hk, bsel_of (fun hx => ?_) (fun hx => ?_)⟩
  rotate_left
  · have hx := of_decide_eq_false hx
    rw [List.take_of_length_le (by omega)]
    exact ⟨rfl, hs2⟩
  have hx := of_decide_eq_true hx
  obtain ⟨r1, r2, r3⟩ := rune_is hx
  obtain ⟨n1, n2⟩ := nameN_step hx hkn
  refine letIn ?_
  have hs3 : Still w (w2.iterAt w.heap.size ⟨⟨s⟩⟩ (k + (Utf8.decode ⟨⟨s⟩⟩ k).2)) := iter_still hs2 (Nat.le_refl _) _ _
  have hk3 : (w2.iterAt w.heap.size ⟨⟨s⟩⟩ (k + (Utf8.decode ⟨⟨s⟩⟩ k).2)).heap[w.heap.size]? = some (.stringIter ⟨⟨s⟩⟩ (k + (Utf8.decode ⟨⟨s⟩⟩ k).2)) := Lib.iterAt_heap _ _ _ _ _ hk
  have on : (isLet s[k] || (decide (0 < k) && isDig s[k])) = true → ∀ w4, w4 = w2.iterAt w.heap.size ⟨⟨s⟩⟩ (k + (Utf8.decode ⟨⟨s⟩⟩ k).2) → (∃ k : Nat, w4.heap[w.heap.size]? = some (.stringIter ⟨⟨s⟩⟩ k) ∧ k ≤ nameN s ∧ Still w w4) ∧ (match w4.heap[w.heap.size]? with
    | some (.stringIter _ k) => s.length - k
    | _ => 0) < (match w2.heap[w.heap.size]? with
    | some (.stringIter _ k) => s.length - k
    | _ => 0) := by
    rintro ho _ rfl
    have h1 := r3 (by
      rw [Bool.or_eq_true] at ho ⊢
      rcases ho with ho | ho
      · exact .inl ho
      · rw [Bool.and_eq_true] at ho
        exact .inr ho.2)
    rw [h1] at hk3 hs3 ⊢
    refine ⟨⟨k + 1, hk3, n1 ho, hs3⟩, ?_⟩
    rw [hk3, hk]
    show s.length - (k + 1) < s.length - k
    omega
  have off : (isLet s[k] || (decide (0 < k) && isDig s[k])) = false → ∀ w4, w4 = w2.iterAt w.heap.size ⟨⟨s⟩⟩ (k + (Utf8.decode ⟨⟨s⟩⟩ k).2) → (Ending.returned (.string (S (s.take (Int.toNat (k : Int))))) = .returned (.string (S (s.take (nameN s)))) ∧ Still w w4) := by
    rintro ho _ rfl
    rw [n2 ho, Int.toNat_natCast]
    exact ⟨rfl, hs3⟩
  refine (word_letter_spec _).mono ?_
  rintro _ w4 ⟨rfl, rfl⟩
  rw [r1]
  refine .inl ⟨_, rfl, bsel_of (fun h => ?_) (fun h => ?_)⟩
  · have h : isLet s[k] = false := by simpa using h
    refine bsel_of (fun h0 => ?_) (fun h0 => ?_)
    · have h0 : (k : Int) = 0 := of_decide_eq_true h0
      refine ⟨by omega, by omega, off ?_ _ rfl⟩
      rw [h, decide_eq_false (by omega)]
      rfl
    · have h0 : (k : Int) ≠ 0 := of_decide_eq_false h0
      refine (word_digit_spec _).mono ?_
      rintro _ w5 ⟨rfl, rfl⟩
      rw [r2]
      refine .inl ⟨_, rfl, bsel_of (fun h5 => ?_) (fun h5 => ?_)⟩
      · have h5 : isDig s[k] = false := by simpa using h5
        refine ⟨by omega, by omega, off ?_ _ rfl⟩
        rw [h, h5, Bool.and_false]
        rfl
      · have h5 : isDig s[k] = true := by simpa using h5
        exact on (by rw [h, h5, decide_eq_true (by omega)]; rfl) _ rfl
  · have h : isLet s[k] = true := by simpa using h
    exact on (by rw [h]; rfl) _ rfl
theorem take_nil {s : Txt} {n : Nat} (h : n ≤ s.length) : s.take n = [] ↔ n = 0 := by
  refine ⟨fun e => ?_, fun e => by rw [e]; rfl⟩
  have := congrArg List.length e
  rw [List.length_take, List.length_nil] at this
  omega
theorem take_all {s : Txt} {n : Nat} (h : n ≤ s.length) : s.take n = s ↔ n = s.length := by
  refine ⟨fun e => ?_, fun e => by rw [e, List.take_length]⟩
  have := congrArg List.length e
  rw [List.length_take] at this
  omega
theorem IsName_spec (s : Txt) (hl : s.length < 1000000) : Calls Tryz.prog fn_word_IsName #[.string (S s)] w (fun e w' => e = .returned (.bool (decide (s ≠ [] ∧ nameN s = s.length))) ∧ Still w w') := by
  refine word_IsName_calls _ _ _ ?_
  refine bsel_of (fun h => ?_) (fun h => ?_)
  · have h : s ≠ [] := by simpa using h
    refine (Name_spec s hl).mono ?_
    rintro _ w1 ⟨rfl, hs1⟩
    refine .inl ⟨_, rfl, ?_, hs1⟩
    congr 2
    apply decide_eq_decide.2
    rw [take_all (nameN_le s)]
    exact ⟨fun e => ⟨h, e⟩, fun e => e.2⟩
  · have h : s = [] := by simpa using h
    subst h
    exact ⟨rfl, Still.refl _⟩
theorem ref_Name_spec (s : Txt) (hl : s.length < 1000000) : Calls Tryz.prog fn_ref08_Name #[.string (S s)] w (fun e w' => e = .returned (.int .i64 (nameN s : Int)) ∧ w' = w) := by
  refine ref08_Name_calls _ _ _ ?_
  refine ⟨fun n w1 => ∃ k : Nat, n = (k : Int) ∧ k ≤ nameN s ∧ w1 = w, fun n _ => s.length - n.toNat, ⟨0, rfl, Nat.zero_le _, rfl⟩, ?_⟩
  rintro _ _ w1 ⟨k, rfl, hk, rfl⟩
  have hnl := nameN_le s
  refine bsel_of (fun hx => ?_) (fun hx => ?_)
  rotate_left
  · have hx := of_decide_eq_false hx
    have : k = nameN s := by omega
    rw [this]
    exact ⟨rfl, rfl⟩
  have hx : k < s.length := by have := of_decide_eq_true hx; omega
  obtain ⟨n1, n2⟩ := nameN_step hx hk
  have e1 : IntKind.i64.wrap ((k : Int) + 1) = ((k + 1 : Nat) : Int) := by rw [wrap_i64 (by omega) (by omega)]; omega
  rw [e1]
  refine ⟨by omega, s[k], by rw [Int.toNat_natCast]; exact getD_some hx, (ref_letter_spec _).mono ?_⟩
  rintro _ w2 ⟨rfl, rfl⟩
  refine .inl ⟨_, rfl, bsel_of (fun h => ?_) (fun h => ?_)⟩
  · exact ⟨⟨k + 1, rfl, n1 (by rw [h]; rfl), rfl⟩, by dsimp only; omega⟩
  · refine bsel_of (fun h0 => ?_) (fun h0 => ?_)
    · have h0 := of_decide_eq_true h0
      refine ⟨by omega, s[k], by rw [Int.toNat_natCast]; exact getD_some hx, (ref_digit_spec _).mono ?_⟩
      rintro _ w3 ⟨rfl, rfl⟩
      refine .inl ⟨_, rfl, bsel_of (fun h5 => ?_) (fun h5 => ?_)⟩
      · exact ⟨⟨k + 1, rfl, n1 (by rw [h, h5, decide_eq_true (by omega)]; rfl), rfl⟩, by dsimp only; omega⟩
      · rw [n2 (by rw [h, h5, Bool.and_false]; rfl)]
        exact ⟨rfl, rfl⟩
    · have h0 := of_decide_eq_false h0
      rw [n2 (by rw [h, decide_eq_false (by omega)]; rfl)]
      exact ⟨rfl, rfl⟩
theorem index_mem : ∀ (l : Txt) (c : UInt8), decide ((0 : Int) ≤ Go.Lib.indexByte l c) = l.contains c
  | [], c => rfl
  | b :: r, c => by
    have ih := index_mem r c
    simp only [Go.Lib.indexByte, beq_iff_eq, List.contains_cons]
    by_cases h : b = c
    · subst h
      simp
    · have h2 : ¬ c = b := fun e => h e.symm
      rw [if_neg h]
      have h3 : (c == b) = false := by simpa using h2
      rw [h3, Bool.false_or, ← ih]
      split
      · rename_i he
        rw [he]
      · rename_i he
        have h4 : ∀ (l : Txt) (c : UInt8), -1 ≤ Go.Lib.indexByte l c := by
          intro l c
          induction l with
          | nil => exact Int.le_refl (-1)
          | cons x l ih =>
            simp only [Go.Lib.indexByte]
            split
            · decide
            · split <;> omega
        have := h4 r c
        rw [decide_eq_true (by omega), decide_eq_true (by omega)]
theorem toUInt8_back (b : UInt8) : (((b.toNat : Nat) : Int)).toNat.toUInt8 = b := by
  rw [Int.toNat_natCast]
  simp
theorem index_spec (l : Txt) (c : UInt8) : Calls Tryz.prog fn_strings_IndexByte #[.string (S l), .int .u8 (c.toNat : Int)] w (fun e w' => (∃ n : Int, e = .returned (.int .i64 n) ∧ decide (0 ≤ n) = l.contains c) ∧ w' = w) := by
  refine (Tryz.strings_IndexByte (S l) _ _).mono ?_
  rintro _ w1 ⟨rfl, rfl⟩
  rw [toUInt8_back]
  exact ⟨⟨_, rfl, index_mem l c⟩, rfl⟩
theorem trimLeft_spec (s : Txt) (cs : Txt) (hcs : cs.length < 4294967281) (ha : cs.all (fun b => decide (b.toNat < 128)) = true) : Calls Tryz.prog fn_strings_TrimLeft #[.string (S s), .string (S cs)] w (fun e w' => e = .returned (.string (S (s.dropWhile (cs.contains ·)))) ∧ Still w w') := by
  refine (Any.strings_TrimLeft_laid Tryz.lays161 (by kernel_rfl) (S s) (S cs) w (by simpa [ByteArray.size] using hcs) (ascii_of_all ha)).mono ?_
  rintro _ w' ⟨rfl, hb⟩
  exact ⟨rfl, (Still.refl w).trans' hb (Nat.le_refl _)⟩
theorem digs_has (c : UInt8) : ([48, 49, 50, 51, 52, 53, 54, 55, 56, 57] : Txt).contains c = isDig c := by
  have h : ∀ n : Nat, n < 256 → ([48, 49, 50, 51, 52, 53, 54, 55, 56, 57] : Txt).contains (UInt8.ofNat n) = isDig (UInt8.ofNat n) := by decide +kernel
  have := h c.toNat c.toNat_lt
  rwa [UInt8.ofNat_toNat] at this
theorem drop_dig (s : Txt) : s.dropWhile (([48, 49, 50, 51, 52, 53, 54, 55, 56, 57] : Txt).contains ·) = s.drop (digN s) := by
  have e : (([48, 49, 50, 51, 52, 53, 54, 55, 56, 57] : Txt).contains · : UInt8 → Bool) = isDig := by funext c; exact digs_has c
  rw [e]
  unfold digN
  induction s with
  | nil => rfl
  | cons c s ih =>
    rw [List.dropWhile_cons, List.takeWhile_cons]
    split
    · rw [List.length_cons, List.drop_succ_cons]
      exact ih
    · rfl
theorem digN_zero {c : UInt8} {r : Txt} (h : digN (c :: r) = 0) : isDig c = false := by
  unfold digN at h
  rw [List.takeWhile_cons] at h
  split at h
  · cases h
  · rename_i hc
    simpa using hc
theorem param_spec (s : Txt) (hl : s.length < 1000000) : Calls Tryz.prog fn_word_param #[.string (S s)] w (fun e w' => e = .returned (.string (S (s.take (paramN s)))) ∧ Still w w') := by
  refine word_param_calls _ _ _ ?_
  refine (Name_spec s hl).mono ?_
  rintro _ w1 ⟨rfl, hs1⟩
  refine .inl ⟨_, rfl, bsel_of (fun h => ?_) (fun h => ?_)⟩
  · have h : ¬ s.take (nameN s) = [] := nt h
    rw [take_nil (nameN_le s)] at h
    unfold paramN
    rw [if_pos (by omega)]
    exact ⟨rfl, hs1⟩
  have h : s.take (nameN s) = [] := nf h
  rw [take_nil (nameN_le s)] at h
  refine bsel_of (fun h0 => ?_) (fun h0 => ?_)
  · have h0 := of_decide_eq_true h0
    subst h0
    exact ⟨rfl, hs1⟩
  have h0 : s ≠ [] := of_decide_eq_false h0
  obtain ⟨c, r, rfl⟩ := List.exists_cons_of_ne_nil h0
  have hp : paramN (c :: r) = if 0 < digN (c :: r) then digN (c :: r) else specN (c :: r) := by
    unfold paramN
    rw [if_neg (by omega)]
  refine (trimLeft_spec (c :: r) _ (by decide) (by decide)).mono ?_
  rintro _ w2 ⟨rfl, hs2⟩
  have hs02 := hs1.trans hs2
  have hdl := digN_le (c :: r)
  rw [drop_dig]
  have e1 : IntKind.i64.wrap (((c :: r).length : Int) - (((c :: r).drop (digN (c :: r))).length : Int)) = (digN (c :: r) : Int) := by
    rw [List.length_drop, wrap_i64 (by omega) (by omega)]
    omega
  refine .inl ⟨_, rfl, ?_⟩
  rw [e1, Int.toNat_natCast]
  refine ⟨by omega, by omega, bsel_of (fun h1 => ?_) (fun h1 => ?_)⟩
  · have h1 : (c :: r).take (digN (c :: r)) = [] := of_decide_eq_true h1
    have h1' := (take_nil hdl).1 h1
    have hd := digN_zero h1'
    refine ⟨by decide, c, rfl, (index_spec _ c).mono ?_⟩
    rintro _ w3 ⟨⟨n, rfl, hn⟩, rfl⟩
    have hsp : isSpec c = ([35, 63, 64, 42] : Txt).contains c := by
      unfold isSpec
      rw [hd]
      simp only [List.contains_cons, List.contains_nil, Bool.or_false, Bool.false_or, Bool.or_assoc]
    rw [hp, if_neg (by omega)]
    simp only [specN]
    rw [hsp, ← hn]
    refine .inl ⟨_, rfl, bsel_of (fun h2 => ?_) (fun h2 => ?_)⟩
    · rw [if_pos h2]
      exact ⟨by decide, by simp only [List.length_cons]; omega, rfl, hs02⟩
    · rw [if_neg (by rw [h2]; decide), h1]
      exact ⟨rfl, hs02⟩
  · have h1 : ¬ (c :: r).take (digN (c :: r)) = [] := of_decide_eq_false h1
    rw [take_nil hdl] at h1
    rw [hp, if_pos (by omega)]
    exact ⟨rfl, hs02⟩
theorem ref_param_spec (s : Txt) (hl : s.length < 1000000) : Calls Tryz.prog fn_ref08_param #[.string (S s)] w (fun e w' => e = .returned (.int .i64 (paramN s : Int)) ∧ w' = w) := by
  refine ref08_param_calls _ _ _ ?_
  refine (ref_Name_spec s hl).mono ?_
  rintro _ w1 ⟨rfl, rfl⟩
  refine .inl ⟨_, rfl, bsel_of (fun h => ?_) (fun h => ?_)⟩
  · have h : (0 : Int) < (nameN s : Int) := of_decide_eq_true h
    unfold paramN
    rw [if_pos (by omega)]
    exact ⟨rfl, rfl⟩
  have h : ¬ (0 : Int) < (nameN s : Int) := of_decide_eq_false h
  have hz : nameN s = 0 := by omega
  refine bsel_of (fun h0 => ?_) (fun h0 => ?_)
  · have h0 := of_decide_eq_true h0
    subst h0
    exact ⟨rfl, rfl⟩
  have h0 : s ≠ [] := of_decide_eq_false h0
  obtain ⟨c, r, rfl⟩ := List.exists_cons_of_ne_nil h0
  have hp : paramN (c :: r) = if 0 < digN (c :: r) then digN (c :: r) else specN (c :: r) := by
    unfold paramN
    rw [if_neg (by omega)]
  have hdl := digN_le (c :: r)
  -- where digits end
  have stop : ∀ k : Nat, digN (c :: r) = k → ∀ w2 : World, w2 = w1 → bsel (decide ((k : Int) = 0)) ((0 : Int) ≤ 0 ∧ ∃ b1 : UInt8, (c :: r)[Int.toNat 0]? = some b1 ∧ Calls Tryz.prog fn_ref08_special #[.int .u8 (b1.toNat : Int)] w2 (fun ed w4 => (∃ r2, ed = .returned (.bool r2) ∧ bsel r2 (Ending.returned (.int .i64 1) = .returned (.int .i64 (paramN (c :: r) : Int)) ∧ w4 = w1) (Ending.returned (.int .i64 (k : Int)) = .returned (.int .i64 (paramN (c :: r) : Int)) ∧ w4 = w1)) ∨ (∃ ch, ed = .panicked ch ∧ (Ending.panicked ch = .returned (.int .i64 (paramN (c :: r) : Int)) ∧ w4 = w1))))
      (Ending.returned (.int .i64 (k : Int)) = .returned (.int .i64 (paramN (c :: r) : Int)) ∧ w2 = w1) := by
    rintro k hk w2 rfl
    refine bsel_of (fun h1 => ?_) (fun h1 => ?_)
    · have h1 : (k : Int) = 0 := of_decide_eq_true h1
      refine ⟨by decide, c, rfl, (ref_special_spec c).mono ?_⟩
      rintro _ w4 ⟨rfl, rfl⟩
      rw [hp, if_neg (by omega)]
      rw [show specN (c :: r) = if isSpec c = true then 1 else 0 from rfl]
      refine .inl ⟨_, rfl, bsel_of (fun h2 => ?_) (fun h2 => ?_)⟩
      · rw [if_pos h2]; exact ⟨rfl, rfl⟩
      · rw [if_neg (by rw [h2]; decide), h1]; exact ⟨rfl, rfl⟩
    · have h1 : ¬ (k : Int) = 0 := of_decide_eq_false h1
      rw [hp, if_pos (by omega), hk]
      exact ⟨rfl, rfl⟩
  refine ⟨fun n w2 => ∃ k : Nat, n = (k : Int) ∧ k ≤ digN (c :: r) ∧ w2 = w1, fun n _ => (c :: r).length - n.toNat, ⟨0, by rw [hz], Nat.zero_le _, rfl⟩, ?_⟩
  rintro _ _ w2 ⟨k, rfl, hk, rfl⟩
  refine bsel_of (fun hx => ?_) (fun hx => ?_)
  · have hx : k < (c :: r).length := by have := of_decide_eq_true hx; omega
    obtain ⟨n1, n2⟩ := takeWhile_step (p := isDig) hx hk
    have e1 : IntKind.i64.wrap ((k : Int) + 1) = ((k + 1 : Nat) : Int) := by rw [wrap_i64 (by omega) (by omega)]; omega
    rw [e1]
    refine ⟨by omega, (c :: r)[k], by rw [Int.toNat_natCast]; exact getD_some hx, (ref_digit_spec _).mono ?_⟩
    rintro _ w3 ⟨rfl, rfl⟩
    refine .inl ⟨_, rfl, bsel_of (fun h5 => ?_) (fun h5 => ?_)⟩
    · exact ⟨⟨k + 1, rfl, n1 h5, rfl⟩, by dsimp only; omega⟩
    · exact stop k (n2 h5) _ rfl
  · have hx : ¬ (k : Int) < ((c :: r).length : Int) := of_decide_eq_false hx
    exact stop k (by omega) _ rfl
theorem pf_isPrefixOf (t s : Txt) : pf t s = t.isPrefixOf s := by
  unfold pf
  rw [Bool.eq_iff_iff, decide_eq_true_eq, List.isPrefixOf_iff_prefix]
  refine ⟨fun h => ?_, fun h => ⟨h.length_le, (List.prefix_iff_eq_take.1 h).symm⟩⟩
  rw [← h.2]
  exact List.take_prefix _ _
theorem hasPrefix_spec (s t : Txt) : Calls Tryz.prog fn_strings_HasPrefix #[.string (S s), .string (S t)] w (fun e w' => e = .returned (.bool (pf t s)) ∧ w' = w) := by
  refine (Tryz.strings_HasPrefix (S s) (S t) _).mono ?_
  rintro _ w1 ⟨rfl, rfl⟩
  rw [pf_isPrefixOf]
  exact ⟨rfl, rfl⟩
theorem find_step {l : List Txt} {f : Txt → Bool} {i : Nat} (h : i < l.length) : (l.drop i).find? f = if f l[i] = true then some l[i] else (l.drop (i + 1)).find? f := by
  rw [List.drop_eq_getElem_cons h, List.find?_cons]
  cases f l[i] <;> rfl
theorem operator_spec (s : Txt) : Calls Tryz.prog fn_word_operator #[.string (S s)] w (fun e w' => e = .returned (.string (S (opOf s))) ∧ Still w w') := by
  refine word_operator_calls _ _ _ ?_
  refine allocK fun w1 r1 s1 z1 => ?_
  have hr : StrsAt w1 (some ⟨w.heap.size, 0, none⟩) opsL.length opsL := StrsAt.row (l := opsL) r1
  refine ⟨fun x w2 => ∃ k : Nat, x = (k : Int) ∧ k ≤ 12 ∧ (opsL.drop k).find? (fun o => pf o s) = opsL.find? (fun o => pf o s) ∧ w2 = w1, fun x _ => 12 - x.toNat, ⟨0, rfl, by omega, rfl, rfl⟩, ?_⟩
  rintro _ _ w2 ⟨k, rfl, hk, hf, rfl⟩
  refine bsel_of (fun hx => ?_) (fun hx => ?_)
  · have hx : k < opsL.length := by have := of_decide_eq_true hx; show k < 12; omega
    have hx' : k < 12 := hx
    obtain ⟨a, ha, hc⟩ := hr.get hx
    obtain rfl := Option.some.inj ha
    rw [find_step hx] at hf
    refine ⟨by omega, by omega, _, by rw [Int.toNat_natCast, Nat.mul_one]; exact hc, (hasPrefix_spec s _).mono ?_⟩
    rintro _ w3 ⟨rfl, rfl⟩
    refine .inl ⟨_, rfl, bsel_of (fun h => ?_) (fun h => ?_)⟩
    · rw [if_pos h] at hf
      unfold opOf
      rw [← hf]
      exact ⟨rfl, s1⟩
    · rw [if_neg (by rw [h]; decide)] at hf
      rw [show IntKind.i64.wrap ((k : Int) + 1) = ((k + 1 : Nat) : Int) by rw [wrap_i64 (by omega) (by omega)]; omega]
      exact ⟨⟨k + 1, rfl, by omega, hf, rfl⟩, by dsimp only; omega⟩
  · have hx : k = 12 := by have := of_decide_eq_false hx; omega
    subst hx
    unfold opOf
    rw [← hf]
    exact ⟨rfl, s1⟩
theorem cutHash_spec (s : Txt) : Calls Tryz.prog fn_strings_CutPrefix #[.string (S s), .string (S [35])] w (fun e w' => e = .returned (.tuple #[.string (S (if s.head? = some 35 then s.drop 1 else s)), .bool (decide (s.head? = some 35))]) ∧ w' = w) := by
  refine strings_CutPrefix_calls _ _ _ _ ?_
  have ep : pf [35] s = decide (s.head? = some 35) := by
    rw [pf_isPrefixOf]
    cases s with
    | nil => rfl
    | cons c r =>
      rw [Bool.eq_iff_iff]
      simp [List.isPrefixOf]
      exact eq_comm
  have h : Calls Tryz.prog fn_internal_stringslite_CutPrefix #[.string (S s), .string (S [35])] w (fun e w' => e = .returned (.tuple #[.string (S (if s.head? = some 35 then s.drop 1 else s)), .bool (decide (s.head? = some 35))]) ∧ w' = w) := by
    refine internal_stringslite_CutPrefix_calls _ _ _ _ ?_
    refine (Tryz.stringslite_HasPrefix (S s) (S [35]) _).mono ?_
    rintro _ w1 ⟨rfl, rfl⟩
    have e2 : Lib.hasPrefix (S s).data.toList (S [35]).data.toList = pf [35] s := (pf_isPrefixOf _ _).symm
    rw [e2, ep]
    refine .inl ⟨_, rfl, bsel_of (fun h => ?_) (fun h => ?_)⟩
    · have h : ¬ s.head? = some 35 := by simpa using h
      rw [if_neg h, decide_eq_false h]
      exact ⟨rfl, rfl⟩
    · have h : s.head? = some 35 := by simpa using h
      rw [if_pos h, decide_eq_true h]
      have hl : 1 ≤ s.length := by
        cases s with
        | nil => cases h
        | cons c r => simp
      exact ⟨by decide, by simp only [List.length_cons, List.length_nil]; omega, rfl, rfl⟩
  refine h.mono ?_
  rintro _ w1 ⟨rfl, rfl⟩
  exact .inl ⟨_, _, rfl, rfl, rfl⟩
theorem ref_begins_spec (s t : Txt) (_hs : s.length < 1000000) (ht : t.length < 1000000) : Calls Tryz.prog fn_ref08_begins #[.string (S s), .string (S t)] w (fun e w' => e = .returned (.bool (pf t s)) ∧ w' = w) := by
  refine ref08_begins_calls _ _ _ _ ?_
  unfold pf
  refine bsel_of (fun h => ?_) (fun h => ?_)
  · have h := of_decide_eq_true h
    refine ⟨by omega, by omega, ?_, rfl⟩
    rw [Int.toNat_natCast]
    congr 2
    apply decide_eq_decide.2
    exact ⟨fun e => ⟨by omega, e⟩, fun e => e.2⟩
  · have h := of_decide_eq_false h
    refine ⟨?_, rfl⟩
    rw [decide_eq_false]
    intro e
    omega
def isEnd (c : UInt8) : Bool := c == 32 || c == 9 || c == 10 || c == 59 || c == 124 || c == 38 || c == 40 || c == 41 || c == 60 || c == 62
def endsB : Txt → Bool
  | [] => true
  | c :: _ => isEnd c
theorem lexends_spec {g : Nat} {s : Txt} (h : Scan w g s) : Calls Tryz.prog fn_lexer_scanner_ends #[.pointer (some ⟨g, 0, none⟩)] w (fun e w' => e = .returned (.bool (endsB s)) ∧ w' = w) := by
  refine lexer_scanner_ends_calls _ _ _ ?_
  refine ⟨_, h.cell, bsel_of (fun he => ?_) (fun he => ⟨_, h.cell, by decide, ?_⟩)⟩
  · have he := of_decide_eq_true he
    subst he
    exact ⟨rfl, rfl⟩
  · have he := of_decide_eq_false he
    obtain ⟨b, r, rfl⟩ := List.exists_cons_of_ne_nil he
    refine ⟨b, rfl, (Tryz.strings_IndexByte (S [32, 9, 10, 59, 124, 38, 40, 41, 60, 62]) _ _).mono ?_⟩
    rintro _ w1 ⟨rfl, rfl⟩
    refine .inl ⟨_, rfl, ?_, rfl⟩
    rw [toUInt8_back, show (S [32, 9, 10, 59, 124, 38, 40, 41, 60, 62]).data.toList = [32, 9, 10, 59, 124, 38, 40, 41, 60, 62] from rfl, index_mem]
    congr 2
    simp only [endsB, isEnd, List.contains_cons, List.contains_nil, Bool.or_false, Bool.or_assoc]
def wordL : Nat → Txt → Option Txt
  | 0, _ => none
  | n + 1, s => if endsB s = true then some s else match unitD 30 s with
    | some t => wordL n t
    | none => none
theorem wordL_more : ∀ (n m : Nat) (s : Txt), s.length < n → s.length < m → wordL n s = wordL m s
  | 0, _, _, h, _ => by omega
  | _, 0, _, _, h => by omega
  | n + 1, m + 1, s, hn, hm => by
    rw [wordL, wordL]
    split
    · rfl
    · cases hu : unitD 30 s with
      | none => rfl
      | some t =>
        have := unitD_takes 30 _ _ hu
        exact wordL_more n m t (by omega) (by omega)
def wordD (s : Txt) : Option Txt := wordL (s.length + 1) s
theorem wordD_ends {s : Txt} (h : endsB s = true) : wordD s = some s := by rw [wordD, wordL, if_pos h]
theorem wordD_unit {s t : Txt} (h : endsB s = false) (hu : unitD 30 s = some t) : wordD s = wordD t := by
  have := unitD_takes 30 _ _ hu
  rw [wordD, wordL, if_neg (by rw [h]; decide), hu]
  exact wordL_more _ _ _ (by omega) (by omega)
theorem wordD_none {s : Txt} (h : endsB s = false) (hu : unitD 30 s = none) : wordD s = none := by rw [wordD, wordL, if_neg (by rw [h]; decide), hu]
theorem lexword_spec {g : Nat} {s : Txt} (h : Scan w g s) (hl : s.length < 1000000) : Calls Tryz.prog fn_lexer_scanner_word #[.pointer (some ⟨g, 0, none⟩)] w
    (fun e w' => Only g w w' ∧ match wordD s with
      | some t => e = .returned (.string (S (s.take (s.length - t.length)))) ∧ Scan w' g t ∧ t.length ≤ s.length
      | none => e = .panicked quoteP ∧ ∃ t, Scan w' g t) := by
  refine lexer_scanner_word_calls _ _ _ ?_
  refine ⟨_, h.cell, fun w1 => ∃ s1, Scan w1 g s1 ∧ Only g w w1 ∧ wordD s1 = wordD s ∧ s1.length ≤ s.length, scanLen g, ⟨s, h, Mod.refl _ _, rfl, Nat.le_refl _⟩, ?_⟩
  rintro _ w1 ⟨s1, h1, hm1, he, hle⟩
  rw [← he]
  refine (lexends_spec h1).mono ?_
  rintro _ w2 ⟨rfl, rfl⟩
  refine .inl ⟨_, rfl, bsel_of (fun hne => ?_) (fun hne => ?_)⟩
  · have hne : endsB s1 = false := by simpa using hne
    have hs1 : s1 ≠ [] := by
      rintro rfl
      cases hne
    refine (unit_spec hs1 h1 (by omega)).mono fun e w3 ht => ?_
    obtain ⟨hm3, ht⟩ := ht
    cases hu : unitD 30 s1 with
    | none =>
      rw [hu] at ht
      obtain ⟨rfl, h3⟩ := ht
      refine .inr ⟨_, rfl, hm1.trans hm3, ?_⟩
      rw [wordD_none hne hu]
      exact ⟨rfl, h3⟩
    | some t =>
      rw [hu] at ht
      obtain ⟨rfl, h3⟩ := ht
      have hlt := unitD_takes 30 _ _ hu
      refine .inl ⟨rfl, ⟨t, h3, hm1.trans hm3, (wordD_unit hne hu).symm, by omega⟩, ?_⟩
      rw [h3.len, h1.len]
      exact hlt
  · have hne : endsB s1 = true := by simpa using hne
    have ew : IntKind.i64.wrap ((s.length : Int) - (s1.length : Int)) = ((s.length - s1.length : Nat) : Int) := by rw [wrap_i64 (by omega) (by omega)]; omega
    refine ⟨_, h1.cell, ?_⟩
    rw [ew, Int.toNat_natCast, wordD_ends hne]
    exact ⟨by omega, by omega, hm1, rfl, h1, hle⟩
def opLen : Txt → Nat
  | a :: b :: _ => if a = b ∧ ([38, 124, 59, 62] : Txt).contains a = true then 2 else 1
  | _ => 1
theorem lexop_spec {g : Nat} {s : Txt} (h : Scan w g s) (hs : s ≠ []) : Calls Tryz.prog fn_lexer_scanner_operator #[.pointer (some ⟨g, 0, none⟩)] w
    (fun e w' => Only g w w' ∧ e = .returned (.string (S (s.take (opLen s)))) ∧ Scan w' g (s.drop (opLen s))) := by
  refine lexer_scanner_operator_calls _ _ _ ?_
  have hol : opLen s ≤ s.length ∧ (opLen s = 1 ∨ opLen s = 2) := by
    match s, hs with
    | [a], _ => exact ⟨Nat.le_refl _, .inl rfl⟩
    | a :: b :: r, _ => simp only [opLen]; split <;> simp
  refine ⟨fun n w3 => n = (opLen s : Int) ∧ Scan w3 g s ∧ Only g w w3, ⟨fun x w2 => x = decide (opLen s = 2) ∧ Scan w2 g s ∧ Only g w w2, ⟨fun wq => Scan wq g s, h.drew, _, fun wq hq => hq.cell, bsel_of (fun hl => ?_) (fun hl => ⟨?_, h.drew, (Mod.refl _ _).drew⟩)⟩, ?_⟩, ?_⟩
  · match s, hs, h with
    | a :: b :: r, _, h =>
      refine ⟨_, fun wq hq => hq.cell, by decide, a, rfl, _, fun wq hq => hq.cell, by decide, b, rfl, bsel_of (fun hab => ⟨_, fun wq hq => hq.cell, by decide, a, rfl, (Tryz.strings_IndexByte (S [38, 124, 59, 62]) _ _).mono ?_⟩) (fun hab => ⟨?_, h.drew, (Mod.refl _ _).drew⟩)⟩
      · have hab : a = b := byte_eq.1 (of_decide_eq_true hab)
        rintro _ w1 ⟨rfl, rfl⟩
        refine .inl ⟨_, rfl, ?_, h.drew, (Mod.refl _ _).drew⟩
        rw [toUInt8_back, show (S [38, 124, 59, 62]).data.toList = [38, 124, 59, 62] from rfl, index_mem]
        by_cases hc : ([38, 124, 59, 62] : Txt).contains a = true
        · have ho : opLen (a :: b :: r) = 2 := by simp only [opLen, if_pos (And.intro hab hc)]
          rw [hc, decide_eq_true ho]
        · have ho : opLen (a :: b :: r) = 1 := by simp only [opLen, if_neg (fun h => hc (And.right h))]
          have hc' : ([38, 124, 59, 62] : Txt).contains a = false := by simpa using hc
          rw [hc', decide_eq_false (by omega)]
      · have hab : ¬ a = b := fun e => of_decide_eq_false hab (byte_eq.2 e)
        have ho : opLen (a :: b :: r) = 1 := by simp only [opLen, if_neg (fun h => hab (And.left h))]
        exact (decide_eq_false (by omega)).symm
    | [a], _, h => simp at hl
  · match s, hs with
    | [a], _ => rfl
    | a :: b :: r, _ =>
      have := of_decide_eq_false hl
      simp only [List.length_cons] at this
      omega
  · rintro _ _ w2 ⟨rfl, h2, hm2⟩
    refine bsel_of (fun h => ⟨?_, h2, hm2⟩) (fun h => ⟨?_, h2, hm2⟩)
    · rw [of_decide_eq_true h]; rfl
    · have := of_decide_eq_false h
      rcases hol.2 with e | e
      · rw [e]; rfl
      · exact absurd e this
  · rintro _ _ w3 ⟨rfl, h3, hm3⟩
    refine ⟨_, h3.cell, by omega, by omega, (skip_spec h3 (opLen s)).mono fun e w4 ht => ?_⟩
    rw [if_pos hol.1] at ht
    obtain ⟨hm4, rfl, h4⟩ := ht
    refine .inl ⟨rfl, hm3.trans hm4, ?_, h4⟩
    rw [Int.toNat_natCast]
def lineEnd : Txt → Txt
  | [] => []
  | a :: r => if a = 10 then a :: r else lineEnd r
theorem indexLine : ∀ s : Txt, lineEnd s = (if 0 ≤ Go.Lib.indexByte s 10 then s.drop (Go.Lib.indexByte s 10).toNat else []) ∧ (0 ≤ Go.Lib.indexByte s 10 → Go.Lib.indexByte s 10 < s.length) ∧ -1 ≤ Go.Lib.indexByte s 10
  | [] => ⟨rfl, by decide, by decide⟩
  | a :: r => by
    obtain ⟨h1, h2, h3⟩ := indexLine r
    simp only [Go.Lib.indexByte, lineEnd, beq_iff_eq]
    by_cases ha : a = 10
    · rw [if_pos ha, if_pos ha]
      refine ⟨rfl, fun _ => by simp only [List.length_cons]; omega, by decide⟩
    · rw [if_neg ha, if_neg ha, h1]
      by_cases hr : Go.Lib.indexByte r 10 = -1
      · rw [if_pos hr, hr]
        exact ⟨rfl, fun h => absurd h (by decide), by decide⟩
      · rw [if_neg hr, if_pos (by omega), if_pos (by omega)]
        refine ⟨?_, fun _ => by simp only [List.length_cons]; have := h2 (by omega); omega, by omega⟩
        rw [show (Go.Lib.indexByte r 10 + 1).toNat = (Go.Lib.indexByte r 10).toNat + 1 by omega, List.drop_succ_cons]
theorem lexcomment_spec {g : Nat} {s : Txt} (h : Scan w g s) : Calls Tryz.prog fn_lexer_scanner_comment #[.pointer (some ⟨g, 0, none⟩)] w (fun e w' => Only g w w' ∧ e = .returned (.tuple #[]) ∧ Scan w' g (lineEnd s)) := by
  refine lexer_scanner_comment_calls _ _ _ ?_
  refine ⟨_, h.cell, (Tryz.strings_IndexByte (S s) 10 _).mono ?_⟩
  rintro _ w1 ⟨rfl, rfl⟩
  have hix : Go.Lib.indexByte (S s).data.toList (Int.toNat 10).toUInt8 = Go.Lib.indexByte s 10 := rfl
  rw [hix]
  obtain ⟨i1, i2, i3⟩ := indexLine s
  generalize Go.Lib.indexByte s 10 = ix at i1 i2 i3
  refine .inl ⟨_, rfl, bsel_of (fun h0 => ?_) (fun h0 => ⟨h.wr 0 (by simp), Only.put _, rfl, ?_⟩)⟩
  · have h0 := of_decide_eq_true h0
    obtain ⟨n, rfl⟩ := Int.eq_ofNat_of_zero_le h0
    have i2 := i2 h0
    refine (skip_spec h n).mono fun e w2 ht => ?_
    rw [if_pos (by omega)] at ht
    obtain ⟨hm2, rfl, h2⟩ := ht
    rw [if_pos h0, Int.toNat_natCast] at i1
    rw [i1]
    exact .inl ⟨rfl, hm2, rfl, h2⟩
  · have h0 := of_decide_eq_false h0
    rw [if_neg h0] at i1
    rw [i1]
    exact h.put _
end Go.Proofs.YtcoeiiihmpnagaaGreatDoor
