/- The patterns' program: Match, Escape, Plain, Special, Remove. Conditions: texts and patterns have fewer than a million bytes. -/
import Derived.Test.YtjkbpdhpmcndlaaPatPieces
import Derived.Test.YtjkbpdhpmcndlaaPatGreedy
namespace Go.Proofs.Ytjkbpdhpmcndlaa
open Go.RowKit Vc
variable {w : World}

def starI : Option Nat → Int
  | none => -1
  | some st => st
def star1 : Option Nat → Nat
  | none => 0
  | some st => st + 1
theorem Owns.pieceStar {B g C : Nat} {l : List Pc} (h : Owns w B 42 257 (.slice (some ⟨g, 0, none⟩) l.length C) l.length (pcells l)) {i : Nat} (hi : i < l.length) : w.cell? ((Addr.mk g 0 none).add (i * 257)) = some (.bool l[i].star) := by
  rw [add_row, Nat.zero_add]
  have h1 := pcells_get (l := l) hi (j := 0) (by decide)
  have h2 : (pcell l[i])[0]? = some (.bool l[i].star) := rfl
  rw [h2, Nat.add_zero] at h1
  exact h.cells rfl (i * 257) _ h1
theorem Owns.pieceSet {B g C : Nat} {l : List Pc} (h : Owns w B 42 257 (.slice (some ⟨g, 0, none⟩) l.length C) l.length (pcells l)) {i : Nat} (hi : i < l.length) (c : UInt8) : w.cell? ((((Addr.mk g 0 none).add (i * 257)).add 1).add (c.toNat * 1)) = some (.bool (l[i].set c)) := by
  rw [add_row, add_row, add_row, Nat.zero_add, Nat.mul_one, Nat.add_assoc]
  have hc := c.toNat_lt
  have h1 := pcells_get (l := l) hi (j := 1 + c.toNat) (by omega)
  have h2 : (pcell l[i])[1 + c.toNat]? = some (.bool (l[i].set c)) := by
    rw [Nat.add_comm]
    exact bcells_byte _ _
  rw [h2] at h1
  exact h.cells rfl (i * 257 + (1 + c.toNat)) _ h1
theorem Pc.eta_star {x : Pc} (h : x.star = true) : x = ⟨true, x.set⟩ := by cases x; simp_all
theorem Pc.eta_set {x : Pc} (h : x.star = false) : x = ⟨false, x.set⟩ := by cases x; simp_all

set_option maxHeartbeats 1000000 in
theorem match_spec (p s : List UInt8) (hp : p.length < 1000000) (hs : s.length < 1000000) : Calls Try.prog fn_pattern_Match #[.string (S p), .string (S s)] w
    (fun e w' => e = .returned (.bool (pMatch p s)) ∧ Still w w') := by
  refine pattern_Match_calls _ _ _ _ ?_
  refine (pieces_spec p hp).mono ?_
  rintro _ w1 ⟨P, C, rfl, ho, hm⟩
  have hpl : (pcs p).length ≤ p.length := by
    have : ∀ (n : Nat) (q : List UInt8), (pieces n q).length ≤ n := by
      intro n
      induction n with
      | zero => intro q; simp [pieces]
      | succ n ih =>
        intro q
        cases q with
        | nil => simp [pieces]
        | cons a r =>
          rw [pieces]
          split
          · have := ih r; simp; omega
          · have := ih (onePc (a :: r)).2; simp; omega
    exact this _ _
  have hpm : pMatch p s = mt (pcs p) s := rfl
  rw [hpm]
  generalize pcs p = l at ho hpl ⊢
  refine .inl ⟨_, _, _, rfl, fun i k star mark w2 => ∃ (i' k' : Nat) (st : Option Nat) (mark' : Nat), i = (i' : Int) ∧ k = (k' : Int) ∧ star = starI st ∧ mark = (mark' : Int) ∧ Gr l s i' k' st mark' ∧ Owns w2 w.heap.size 42 257 (.slice P l.length C) l.length (pcells l) ∧ Still w w2,
    fun i _ star mark _ => grM l.length s.length i.toNat (star + 1).toNat mark.toNat, ⟨0, 0, none, 0, rfl, rfl, rfl, rfl, Gr.start l s, ho, hm⟩, ?_⟩
  rintro _ _ _ _ _ w2 ⟨i, k, st, mark, rfl, rfl, rfl, rfl, g, ho2, hm2⟩
  have hgi := g.hi
  have hgk := g.hk
  have hgm := g.hm
  have e1 : IntKind.i64.wrap ((i : Int) + 1) = ((i + 1 : Nat) : Int) := by rw [wrap_i64 (by omega) (by omega)]; omega
  have e2 : IntKind.i64.wrap ((k : Int) + 1) = ((k + 1 : Nat) : Int) := by rw [wrap_i64 (by omega) (by omega)]; omega
  have e3 : IntKind.i64.wrap ((mark : Int) + 1) = ((mark + 1 : Nat) : Int) := by rw [wrap_i64 (by omega) (by omega)]; omega
  have es : (starI st + 1).toNat = star1 st := by cases st <;> simp [starI, star1]
  refine bsel_of (fun hkx => ?_) (fun hkx => ?_)
  · have hk : k < s.length := by have := of_decide_eq_true hkx; omega
    have hsk : s[k]? = some s[k] := List.getElem?_eq_getElem hk
    refine ⟨fun x w3 => x = (match l[i]? with | some y => y.star | none => false) ∧ w3 = w2, bsel_of (fun hi => ?_) (fun hi => ⟨?_, rfl⟩), ?_⟩
    · have hi : i < l.length := by have := of_decide_eq_true hi; omega
      obtain ⟨ga, ca, he, _, _, _, _⟩ := ho2.ownAddr (by omega)
      injection he with he1 he2 he3
      subst he1
      rw [Int.toNat_natCast]
      exact ⟨by omega, by omega, _, ho2.pieceStar hi, by rw [List.getElem?_eq_getElem hi], rfl⟩
    · have hi : l.length ≤ i := by have := of_decide_eq_false hi; omega
      rw [List.getElem?_eq_none hi]
    · rintro x _ w3 ⟨rfl, rfl⟩
      -- goes back, or fails
      have hback : (l[i]? = none ∨ ∃ S, l[i]? = some ⟨false, S⟩ ∧ ∀ c, s[k]? = some c → S c = false) → ∀ wn : World, Owns wn w.heap.size 42 257 (.slice P l.length C) l.length (pcells l) → Still w wn →
          bsel (decide ((0 : Int) ≤ starI st)) ((∃ (i' k' : Nat) (st' : Option Nat) (mark' : Nat), IntKind.i64.wrap (starI st + 1) = (i' : Int) ∧ IntKind.i64.wrap ((mark : Int) + 1) = (k' : Int) ∧ starI st = starI st' ∧ IntKind.i64.wrap ((mark : Int) + 1) = (mark' : Int) ∧ Gr l s i' k' st' mark' ∧ Owns wn w.heap.size 42 257 (.slice P l.length C) l.length (pcells l) ∧ Still w wn) ∧
            grM l.length s.length (IntKind.i64.wrap (starI st + 1)).toNat (starI st + 1).toNat (IntKind.i64.wrap ((mark : Int) + 1)).toNat < grM l.length s.length (i : Int).toNat (starI st + 1).toNat (mark : Int).toNat)
            (Ending.returned (.bool false) = Ending.returned (.bool (mt l s)) ∧ Still w wn) := by
        intro hmiss wn hown hstn
        cases st with
        | none =>
          refine bsel_of (fun h => by cases h) (fun _ => ⟨?_, hstn⟩)
          rw [g.fails hmiss hk]
        | some st =>
          have hlt := (g.link st rfl).1
          have e4 : IntKind.i64.wrap (starI (some st) + 1) = ((st + 1 : Nat) : Int) := by
            show IntKind.i64.wrap ((st : Int) + 1) = _
            rw [wrap_i64 (by omega) (by omega)]; omega
          refine bsel_of (fun _ => ⟨⟨st + 1, mark + 1, some st, mark + 1, e4, e3, rfl, e3, g.back hmiss hk, hown, hstn⟩, ?_⟩) (fun h => ?_)
          · rw [e3, Int.toNat_natCast, Int.toNat_natCast]
            exact grM_back hgm
          · have := of_decide_eq_false h
            simp [starI] at this
      refine bsel_of (fun hx => ?_) (fun hx => ?_)
      · -- a star
        obtain ⟨y, hy⟩ : ∃ y, l[i]? = some y := by
          cases hli : l[i]? with
          | none => rw [hli] at hx; cases hx
          | some y => exact ⟨y, rfl⟩
        rw [hy] at hx
        have hi := (List.getElem?_eq_some_iff.1 hy).1
        rw [Pc.eta_star hx] at hy
        refine ⟨⟨i + 1, k, some i, k, e1, rfl, rfl, rfl, g.onStar hy, ho2, hm2⟩, ?_⟩
        show grM l.length s.length (IntKind.i64.wrap ((i : Int) + 1)).toNat ((i : Int) + 1).toNat (k : Int).toNat < grM l.length s.length (i : Int).toNat (starI st + 1).toNat (mark : Int).toNat
        rw [e1, es, Int.toNat_natCast, Int.toNat_natCast, Int.toNat_natCast, Int.toNat_natCast, show ((i : Int) + 1).toNat = i + 1 by omega]
        refine grM_star ?_ hi hgk
        cases st with
        | none => exact Nat.zero_le _
        | some st => exact (g.link st rfl).1
      · refine bsel_of (fun hi => ?_) (fun hi => ?_)
        · have hi : i < l.length := by have := of_decide_eq_true hi; omega
          have hli : l[i]? = some l[i] := List.getElem?_eq_getElem hi
          rw [hli] at hx
          have hli2 : l[i]? = some ⟨false, l[i].set⟩ := by rw [hli]; exact congrArg some (Pc.eta_set hx)
          obtain ⟨ga, ca, he, _, _, _, _⟩ := ho2.ownAddr (by omega)
          injection he with he1 he2 he3
          subst he1
          have hlt := (s[k]).toNat_lt
          refine ⟨by omega, _, hsk, by omega, by omega, by omega, by omega, l[i].set s[k], ?_, bsel_of (fun hin => ?_) (fun hin => ?_)⟩
          · rw [Int.toNat_natCast, Int.toNat_natCast]
            exact ho2.pieceSet hi _
          · refine ⟨⟨i + 1, k + 1, st, mark, e1, e2, rfl, rfl, g.onSet hli2 hsk hin, ho2.drew, hm2.drew⟩, ?_⟩
            show grM l.length s.length (IntKind.i64.wrap ((i : Int) + 1)).toNat (starI st + 1).toNat (mark : Int).toNat < grM l.length s.length (i : Int).toNat (starI st + 1).toNat (mark : Int).toNat
            rw [e1, Int.toNat_natCast, Int.toNat_natCast]
            exact grM_set hi
          · exact hback (.inr ⟨_, hli2, fun c hc => by rw [hsk] at hc; obtain rfl := Option.some.inj hc; exact hin⟩) _ ho2.drew hm2.drew
        · have hi : l.length ≤ i := by have := of_decide_eq_false hi; omega
          exact hback (.inl (List.getElem?_eq_none hi)) _ ho2.drew hm2.drew
  · have hk : k = s.length := by have := of_decide_eq_false hkx; omega
    subst hk
    rw [g.done]
    refine ⟨fun i1 w4 => ∃ n : Nat, i1 = (n : Int) ∧ n ≤ l.length ∧ mt (l.drop n) [] = mt (l.drop i) [] ∧ Owns w4 w.heap.size 42 257 (.slice P l.length C) l.length (pcells l) ∧ Still w w4, fun i1 _ => l.length - i1.toNat, ⟨i, rfl, hgi, rfl, ho2, hm2⟩, ?_⟩
    rintro _ _ w4 ⟨n, rfl, hn, hmt, ho4, hm4⟩
    have e1 : IntKind.i64.wrap ((n : Int) + 1) = ((n + 1 : Nat) : Int) := by rw [wrap_i64 (by omega) (by omega)]; omega
    rw [← hmt]
    refine bsel_of (fun hi => ?_) (fun hi => ?_)
    · have hi : n < l.length := by have := of_decide_eq_true hi; omega
      obtain ⟨ga, ca, he, _, _, _, _⟩ := ho4.ownAddr (by omega)
      injection he with he1 he2 he3
      subst he1
      rw [Int.toNat_natCast]
      have hd : l.drop n = l[n] :: l.drop (n + 1) := List.drop_eq_getElem_cons hi
      refine ⟨by omega, by omega, _, ho4.pieceStar hi, bsel_of (fun hx => ?_) (fun hx => ⟨?_, hm4⟩)⟩
      · rw [e1]
        refine ⟨⟨n + 1, rfl, hi, ?_, ho4, hm4⟩, by dsimp only; omega⟩
        rw [hd, Pc.eta_star hx, mt_star_nil]
      · rw [hd, Pc.eta_set hx, mt_set_nil, decide_eq_false (by omega)]
    · have hi : n = l.length := by have := of_decide_eq_false hi; omega
      subst hi
      refine ⟨?_, hm4⟩
      rw [List.drop_of_length_le (Nat.le_refl _), decide_eq_true rfl]
      rfl
end Go.Proofs.Ytjkbpdhpmcndlaa
