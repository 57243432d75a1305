/- Lists of texts and of bytes that may be read; the reference's comparison of two lists of texts; a text of pieces by numbers. Conditions: as each theorem names them. -/
import Derived.Test.YtcoeiiihmpnagaaDoorM1
import Derived.Test.YtcoeiiihmpnagaaDoorGenB
import Derived.Test.YtcoeiiihmpnagaaDoorKit
namespace Go.Proofs.YtcoeiiihmpnagaaDoor
open Go.RowKit Vc
variable {w : World}

theorem getD_some {α : Type} {p : List α} {i : Nat} (h : i < p.length) : p[i]? = some p[i] := List.getElem?_eq_getElem h
theorem take_snoc {α : Type} {l : List α} {k : Nat} (h : k < l.length) : l.take (k + 1) = l.take k ++ [l[k]] := by rw [List.take_add_one, getD_some h]; rfl
theorem drop_take1 {s : Txt} {k : Nat} (h : k < s.length) : (s.drop k).take (k + 1 - k) = [s[k]] := by
  rw [Nat.add_sub_cancel_left, List.drop_eq_getElem_cons h]
  rfl
theorem byte_eq {a b : UInt8} : (a.toNat : Int) = (b.toNat : Int) ↔ a = b := ⟨fun h => UInt8.toNat_inj.1 (by omega), fun h => by rw [h]⟩
theorem tmod_nat (k m : Nat) : Int.tmod (k : Int) (m : Int) = ((k % m : Nat) : Int) := (Int.ofNat_tmod k m).symm
def strs (l : List Txt) : List Value := l.map fun x => .string (S x)
theorem strs_append (l m : List Txt) : strs (l ++ m) = strs l ++ strs m := by simp [strs]
theorem strs_length (l : List Txt) : (strs l).length = l.length := by simp [strs]
theorem strs_getD {l : List Txt} {i : Nat} (h : i < l.length) : (strs l)[i]? = some (.string (S (l.getD i []))) := by simp [strs, h, List.getD]
theorem strs_one (l : List Txt) : ∀ u ∈ strs l, u.oneCell' = true := by
  intro u hu
  simp only [strs, List.mem_map] at hu
  obtain ⟨x, _, rfl⟩ := hu
  rfl
/-- A list of texts that may be read. -/
def StrsAt (w : World) (p : Option Addr) (n : Nat) (l : List Txt) : Prop := l.length = n ∧ At w p n (strs l)
theorem StrsAt.still {p : Option Addr} {n : Nat} {l : List Txt} {w' : World} (h : StrsAt w p n l) (hm : Still w w') : StrsAt w' p n l := ⟨h.1, h.2.still hm⟩
theorem StrsAt.of {B : Nat} {p : Option Addr} {n C : Nat} {l : List Txt} (h : Owns w B 9 1 (.slice p n C) n (strs l)) : StrsAt w p n l := ⟨by have := h.length; rw [strs_length] at this; omega, At.own h⟩
theorem StrsAt.row {g : Nat} {t : TypeId} {l : List Txt} (h : Row w g t ⟨strs l⟩) : StrsAt w (some ⟨g, 0, none⟩) l.length l := ⟨rfl, At.row h⟩
theorem StrsAt.nil (w : World) : StrsAt w none 0 [] := ⟨rfl, fun h => absurd h (Nat.lt_irrefl _)⟩
theorem StrsAt.get {p : Option Addr} {n : Nat} {l : List Txt} (h : StrsAt w p n l) {k : Nat} (hk : k < n) : ∃ a, p = some a ∧ w.cell? (a.add k) = some (.string (S (l[k]'(by have := h.1; omega)))) := by
  obtain ⟨a, h1, h2⟩ := h.2 (by omega)
  refine ⟨a, h1, h2 k _ ?_⟩
  have := h.1
  simp [strs, show k < l.length by omega]

def u8s (vs : List Nat) : List Value := vs.map fun v : Nat => .int .u8 (v : Int)
def U8At (w : World) (p : Option Addr) (n : Nat) (vs : List Nat) : Prop := vs.length = n ∧ (∀ v ∈ vs, v < 256) ∧ At w p n (u8s vs)
theorem U8At.still {p : Option Addr} {n : Nat} {vs : List Nat} {w' : World} (h : U8At w p n vs) (hm : Still w w') : U8At w' p n vs := ⟨h.1, h.2.1, h.2.2.still hm⟩
theorem U8At.get {p : Option Addr} {n : Nat} {vs : List Nat} (h : U8At w p n vs) {k : Nat} (hk : k < n) : ∃ a v, p = some a ∧ vs[k]? = some v ∧ v < 256 ∧ w.cell? (a.add k) = some (.int .u8 (v : Int)) := by
  obtain ⟨h1, h2, h3⟩ := h
  obtain ⟨a, h4, h5⟩ := h3 (by omega)
  refine ⟨a, vs[k]'(by omega), h4, getD_some _, h2 _ (List.getElem_mem _), h5 k _ ?_⟩
  simp [u8s, show k < vs.length by omega]
def piecesR (sg : List Txt) (vs : List Nat) : Txt := (vs.take 14).flatMap fun v => sg.getD (v % sg.length) []
theorem pieces_spec {l q : Option Addr} {lL lC qC : Nat} {vs : List Nat} {sg : List Txt} (hl : U8At w l lL vs) (hr : StrsAt w q sg.length sg) (h0 : 0 < sg.length) (h1 : sg.length < 1000) (h8 : ∀ x ∈ sg, x.length ≤ 1000) :
    Calls Tryd.prog fn_law07_Pieces #[.slice l lL lC, .slice q sg.length qC] w (fun e w' => e = .returned (.string (S (piecesR sg vs))) ∧ w' = w) := by
  refine law07_Pieces_calls _ _ _ _ _ _ _ _ ?_
  have hlen := hl.1
  refine ⟨fun s i w1 => ∃ n : Nat, i = (n : Int) ∧ n ≤ 14 ∧ n ≤ lL ∧ s.length ≤ n * 1000 ∧ s = piecesR sg (vs.take n) ∧ w1 = w, fun _ i _ => 14 - i.toNat, ⟨0, rfl, by omega, Nat.zero_le _, by simp, rfl, rfl⟩, ?_⟩
  rintro s _ _ w1 ⟨n, rfl, hn, hnl, hs, he, rfl⟩
  have e1 : IntKind.i64.wrap ((n : Int) + 1) = ((n + 1 : Nat) : Int) := by rw [wrap_i64 (by omega) (by omega)]; omega
  refine bsel_of (fun hx => bsel_of (fun hy => ?_) (fun hy => ⟨?_, rfl⟩)) (fun hx => ⟨?_, rfl⟩)
  · have hx : n < lL := by have := of_decide_eq_true hx; omega
    have hy : n < 14 := by have := of_decide_eq_true hy; omega
    obtain ⟨a, v, rfl, hg, hv, hc⟩ := hl.get hx
    have ev : IntKind.i64.wrap (v : Int) = (v : Int) := wrap_i64 (by omega) (by omega)
    have hlt : v % sg.length < sg.length := Nat.mod_lt _ h0
    have hl8 := h8 _ (List.getElem_mem hlt)
    obtain ⟨b, rfl, cb⟩ := hr.get hlt
    refine ⟨by omega, by omega, (v : Int), by rw [Int.toNat_natCast, Nat.mul_one]; exact hc, by omega, ?_⟩
    rw [ev, tmod_nat, e1, Int.toNat_natCast]
    refine ⟨by omega, by omega, sg[v % sg.length], ?_, by omega, ⟨n + 1, rfl, hy, hx, by simp; omega, ?_, rfl⟩, by dsimp only; omega⟩
    · rw [Nat.mul_one]
      exact cb
    · rw [he, piecesR, piecesR, List.take_take, List.take_take, Nat.min_eq_right (by omega), Nat.min_eq_right (by omega), List.take_add_one, hg, List.flatMap_append]
      simp [List.getD, hlt]
  · have hy : n = 14 := by have := of_decide_eq_false hy; omega
    rw [he, piecesR, piecesR, List.take_take, hy, Nat.min_self]
  · have hx : n = lL := by have := of_decide_eq_false hx; omega
    rw [he, List.take_of_length_le (by omega)]
theorem piecesR_len {sg : List Txt} {M : Nat} (h8 : ∀ x ∈ sg, x.length ≤ M) (vs : List Nat) : (piecesR sg vs).length ≤ 14 * M := by
  have : ∀ l : List Nat, (l.flatMap fun v => sg.getD (v % sg.length) []).length ≤ l.length * M := by
    intro l
    induction l with
    | nil => simp
    | cons a l ih =>
      have h1 : (sg.getD (a % sg.length) []).length ≤ M := by
        rw [List.getD_eq_getElem?_getD]
        cases h : sg[a % sg.length]? with
        | none => exact Nat.zero_le _
        | some x => exact h8 x (List.mem_of_getElem? h)
      rw [List.flatMap_cons, List.length_append, List.length_cons, Nat.add_mul]
      omega
  have h1 := this (vs.take 14)
  have h2 : (vs.take 14).length * M ≤ 14 * M := Nat.mul_le_mul_right _ (by rw [List.length_take]; omega)
  exact Nat.le_trans h1 h2
end Go.Proofs.YtcoeiiihmpnagaaDoor
