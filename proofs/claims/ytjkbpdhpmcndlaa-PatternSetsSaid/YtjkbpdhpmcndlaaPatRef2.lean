/- The patterns' reference: Match, Remove. Conditions: texts and patterns have fewer than a million bytes. -/
import Derived.Test.YtjkbpdhpmcndlaaPatRef
namespace Go.Proofs.Ytjkbpdhpmcndlaa
open Go.RowKit Vc
variable {w : World}

/-- Cells of places. -/
def ic (l : List Nat) : List Value := l.map fun (i : Nat) => Value.int .i64 (i : Int)
@[simp] theorem ic_length (l : List Nat) : (ic l).length = l.length := by simp [ic]
theorem ic_get {l : List Nat} {i : Nat} (h : i < l.length) : (ic l)[i]? = some (.int .i64 (l[i] : Int)) := by simp [ic, h]
theorem ic_snoc (l : List Nat) (i : Nat) : ic (l ++ [i]) = ic l ++ [.int .i64 (i : Int)] := by simp [ic]
theorem Owns.place {B g C n : Nat} {l : List Nat} (h : Owns w B 3 1 (.slice (some ⟨g, 0, none⟩) n C) n (ic l)) {i : Nat} (hi : i < l.length) : w.cell? ((Addr.mk g 0 none).add (i * 1)) = some (.int .i64 (l[i] : Int)) := by
  rw [add_row, Nat.zero_add, Nat.mul_one]
  exact h.cells rfl _ _ (ic_get hi)
theorem Owns.pushedOther {w2 w7 : World} {B B1 L L1 : Nat} {e e1 : TypeId} {v v1 : Value} {xs ys : List Value} {size size1 : Nat} (h : Owns w2 B1 e1 size1 v1 L1 ys) (ho : Owns w2 B e size v L xs)
    (hB : ∀ k, v1.ownBlock = some k → k < B) {o : Obj} (hg : (w2.alloc o).grownBy w7 v.ownBlock) : Owns w7 B1 e1 size1 v1 L1 ys :=
  (h.alloc o).grown hg fun k hk e => by have := hB k hk; have := (ho.lt k e.symm).1; omega

/-- The places that a pattern's head may have come to. -/
structure At (p s : List UInt8) (q : List UInt8) (l : List Nat) : Prop where
  up : l.Pairwise (· < ·)
  le : ∀ i ∈ l, i ≤ s.length
  ans : pMatch p s = true ↔ ∃ i ∈ l, mt (pcs q) (s.drop i) = true
theorem At.start (p s : List UInt8) : At p s p [0] := ⟨by simp, by simp, by simp [pMatch]⟩
theorem At.star {p s q : List UInt8} {v : Nat} {l : List Nat} (h : At p s (42 :: q) (v :: l)) : At p s q (List.range' v (s.length + 1 - v)) := by
  have hv := h.le v (by simp)
  refine ⟨List.pairwise_lt_range', fun i hi => by simp at hi; omega, ?_⟩
  rw [h.ans, pcs_star]
  have hs : ∀ i, i ≤ s.length → (mt (⟨true, fun _ => false⟩ :: pcs q) (s.drop i) = true ↔ ∃ j, i ≤ j ∧ j ≤ s.length ∧ mt (pcs q) (s.drop j) = true) := by
    intro i hi
    rw [mt_star]
    constructor
    · rintro ⟨j, hj, h⟩
      rw [List.drop_drop] at h
      rw [List.length_drop] at hj
      exact ⟨i + j, by omega, by omega, h⟩
    · rintro ⟨j, h1, h2, h⟩
      refine ⟨j - i, by rw [List.length_drop]; omega, ?_⟩
      rw [List.drop_drop, show i + (j - i) = j by omega]
      exact h
  have hup := List.pairwise_cons.1 h.up
  constructor
  · rintro ⟨i, hi, hm⟩
    obtain ⟨j, h1, h2, h3⟩ := (hs i (h.le i hi)).1 hm
    have hvi : v ≤ i := by
      rcases List.mem_cons.1 hi with rfl | hi
      · exact Nat.le_refl _
      · exact Nat.le_of_lt (hup.1 i hi)
    exact ⟨j, by simp; omega, h3⟩
  · rintro ⟨j, hj, hm⟩
    simp at hj
    exact ⟨v, by simp, (hs v hv).2 ⟨j, by omega, by omega, hm⟩⟩
/-- The places behind those whose byte a set has. -/
def nexts (s : List UInt8) (S : Set8) (l : List Nat) : List Nat := (l.filter fun i => match s[i]? with | some c => S c | none => false).map (· + 1)
theorem nexts_snoc {s : List UInt8} {S : Set8} {l : List Nat} {i : Nat} {c : UInt8} (h : s[i]? = some c) : nexts s S (l ++ [i]) = if S c = true then nexts s S l ++ [i + 1] else nexts s S l := by
  unfold nexts
  rw [List.filter_append]
  have : ([i].filter fun i => match s[i]? with | some c => S c | none => false) = if S c = true then [i] else [] := by
    rw [List.filter_cons, h]
    rfl
  rw [this]
  split <;> simp
theorem nexts_length (s : List UInt8) (S : Set8) (l : List Nat) : (nexts s S l).length ≤ l.length := by
  unfold nexts
  rw [List.length_map]
  exact List.length_filter_le _ _
theorem At.set {p s q : List UInt8} {l : List Nat} (h : At p s q l) (hq : q ≠ []) (h42 : q.head? ≠ some 42) {K : Nat} (hK : ∀ i ∈ l.drop K, s.length ≤ i) : At p s (onePc q).2 (nexts s (onePc q).1 (l.take K)) := by
  refine ⟨?_, ?_, ?_⟩
  · unfold nexts
    exact List.Pairwise.map _ (fun a b hab => by omega) (List.Pairwise.filter _ (List.Pairwise.sublist (List.take_sublist _ _) h.up))
  · intro i hi
    unfold nexts at hi
    obtain ⟨j, hj, rfl⟩ := List.mem_map.1 hi
    obtain ⟨_, hj2⟩ := List.mem_filter.1 hj
    cases hs : s[j]? with
    | none => rw [hs] at hj2; cases hj2
    | some c => exact (List.getElem?_eq_some_iff.1 hs).1
  · rw [h.ans, pcs_one hq h42]
    constructor
    · rintro ⟨i, hi, hm⟩
      rcases Nat.lt_or_ge i s.length with hlt | hge
      · have hi2 : i ∈ l.take K := by
          rw [← List.take_append_drop K l] at hi
          rcases List.mem_append.1 hi with h1 | h1
          · exact h1
          · have := hK i h1; omega
        have hs : s[i]? = some s[i] := List.getElem?_eq_getElem hlt
        rw [List.drop_eq_getElem_cons hlt, mt_set_cons, Bool.and_eq_true] at hm
        refine ⟨i + 1, ?_, hm.2⟩
        unfold nexts
        refine List.mem_map.2 ⟨i, List.mem_filter.2 ⟨hi2, ?_⟩, rfl⟩
        rw [hs]
        exact hm.1
      · rw [List.drop_of_length_le hge, mt_set_nil] at hm
        cases hm
    · rintro ⟨i, hi, hm⟩
      unfold nexts at hi
      obtain ⟨j, hj, rfl⟩ := List.mem_map.1 hi
      obtain ⟨hj1, hj2⟩ := List.mem_filter.1 hj
      cases hs : s[j]? with
      | none => rw [hs] at hj2; cases hj2
      | some c =>
        rw [hs] at hj2
        have hlt := (List.getElem?_eq_some_iff.1 hs).1
        have hc := (List.getElem?_eq_some_iff.1 hs).2
        refine ⟨j, List.mem_of_mem_take hj1, ?_⟩
        rw [List.drop_eq_getElem_cons hlt, mt_set_cons, Bool.and_eq_true, hc]
        exact ⟨hj2, hm⟩
theorem At.none {p s q : List UInt8} (h : At p s q []) : pMatch p s = false := by
  cases hm : pMatch p s with
  | false => rfl
  | true =>
    obtain ⟨i, hi, _⟩ := h.ans.1 hm
    cases hi
theorem At.last {p s : List UInt8} {l : List Nat} (h : At p s [] l) (h0 : 0 < l.length) : pMatch p s = decide ((l[l.length - 1]'(by omega) : Nat) = s.length) := by
  have hlast : l[l.length - 1]'(by omega) ∈ l := List.getElem_mem _
  have hle := h.le _ hlast
  rw [Bool.eq_iff_iff, h.ans, decide_eq_true_iff]
  constructor
  · rintro ⟨i, hi, hm⟩
    have hge : s.length ≤ i := by
      rw [show pcs [] = [] from rfl, mt_nil] at hm
      have : (s.drop i).length = 0 := by rw [hm]; rfl
      simp at this
      omega
    obtain ⟨n, hn, rfl⟩ := List.getElem_of_mem hi
    rcases Nat.lt_or_ge n (l.length - 1) with h1 | h1
    · have := (List.pairwise_iff_getElem.1 h.up) n (l.length - 1) hn (by omega) h1
      omega
    · have hn2 : n = l.length - 1 := by omega
      subst hn2
      have := h.le _ hlast
      omega
  · intro he
    refine ⟨_, hlast, ?_⟩
    rw [he, List.drop_of_length_le (Nat.le_refl _)]
    rfl

set_option maxHeartbeats 1000000 in
theorem ref_match_spec (p s : List UInt8) (hp : p.length < 1000000) (hs : s.length < 1000000) : Calls Try.prog fn_ref11_Match #[.string (S p), .string (S s)] w
    (fun e w' => e = .returned (.bool (pMatch p s)) ∧ Still w w') := by
  refine ref11_Match_calls _ _ _ _ ?_
  have hr0 : Owns (w.alloc (.cells #[(.int .i64 (0 : Int))] 3)) w.heap.size 3 1 (.slice (some ⟨w.heap.size, 0, none⟩) 1 1) 1 (ic [0]) :=
    ⟨rfl, .inr ⟨w.heap.size, 1, _, rfl, Nat.le_refl _, Row.new _ _ _, Nat.le_refl _, by decide, rfl, rfl⟩⟩
  refine ⟨fun q a L C w1 => ∃ l : List Nat, L = l.length ∧ l.length ≤ s.length + 1 ∧ q.length ≤ p.length ∧ At p s q l ∧ Owns w1 w.heap.size 3 1 (.slice a L C) L (ic l) ∧ Still w w1, fun q _ _ _ _ => q.length, ⟨[0], rfl, by simp, Nat.le_refl _, At.start p s, hr0, (Mod.refl _ _).alloc _⟩, ?_⟩
  rintro q a _ C _ w1 ⟨l, rfl, hll, hql, hat, ho, hm⟩
  have hlast : q = [] ∨ l = [] → bsel (decide ((0 : Int) < (((l.length : Nat) : Int) : Int))) (0 ≤ (IntKind.i64.wrap ((((l.length : Nat) : Int) : Int) - (1 : Int))) ∧ (IntKind.i64.wrap ((((l.length : Nat) : Int) : Int) - (1 : Int))) < (l.length : Nat) ∧ someK a (fun a6 => ∃ v4 : Int, w1.cell? (a6.add (Int.toNat (IntKind.i64.wrap ((((l.length : Nat) : Int) : Int) - (1 : Int))) * 1)) = some (.int .i64 v4) ∧
      (Ending.returned (.bool (decide (v4 = (s.length : Int)))) = .returned (.bool (pMatch p s)) ∧ Still w w1))) (Ending.returned (.bool false) = .returned (.bool (pMatch p s)) ∧ Still w w1) := by
    intro hor
    refine bsel_of (fun h => ?_) (fun h => ?_)
    · have h0 : 0 < l.length := by have := of_decide_eq_true h; omega
      have hq : q = [] := by
        rcases hor with h | h
        · exact h
        · subst h; simp at h0
      subst hq
      have e1 : IntKind.i64.wrap (((l.length : Nat) : Int) - 1) = ((l.length - 1 : Nat) : Int) := by rw [wrap_i64 (by omega) (by omega)]; omega
      obtain ⟨ga, ca, he, _, _, _, _⟩ := ho.ownAddr h0
      injection he with he1 he2 he3
      subst he1
      rw [e1, Int.toNat_natCast]
      refine ⟨by omega, by omega, _, ho.place (by omega), ?_, hm⟩
      rw [hat.last h0]
      have hd : decide (((l[l.length - 1]'(by omega) : Nat) : Int) = (s.length : Int)) = decide ((l[l.length - 1]'(by omega) : Nat) = s.length) := decide_eq_decide.2 Int.ofNat_inj
      rw [hd]
    · have h0 : l = [] := List.length_eq_zero_iff.1 (by have := of_decide_eq_false h; omega)
      subst h0
      exact ⟨by rw [hat.none], hm⟩
  refine bsel_of (fun hq => bsel_of (fun h0 => ?_) (fun h0 => hlast (.inr (List.length_eq_zero_iff.1 (by have := of_decide_eq_false h0; omega))))) (fun hq => hlast (.inl (by simpa using hq)))
  have hq : q ≠ [] := by simpa using hq
  have h0 : 0 < l.length := by have := of_decide_eq_true h0; omega
  obtain ⟨x, r, rfl⟩ := List.exists_cons_of_ne_nil hq
  obtain ⟨ga, ca, he, hga, hgl, _, _⟩ := ho.ownAddr h0
  injection he with he1 he2 he3
  subst he1
  have hown : ∀ k, (Value.slice (some ⟨ga, 0, none⟩) l.length C).ownBlock = some k → k < w1.heap.size := fun k hk => (ho.lt k hk).2
  refine ⟨by decide, x, rfl, bsel_of (fun hx => ?_) (fun hx => ?_)⟩
  · have hx : x = 42 := byte_eq.1 (of_decide_eq_true hx)
    subst hx
    obtain ⟨v, l', rfl⟩ := List.exists_cons_of_ne_nil (List.length_pos_iff.1 h0)
    have hv := hat.le v (by simp)
    have hc := ho.place (i := 0) (by simp)
    refine ⟨by decide, by omega, (v : Int), hc, ?_⟩
    refine ⟨fun b L C2 i w2 => ∃ k : Nat, i = ((v + k : Nat) : Int) ∧ v + k ≤ s.length + 1 ∧ L = k ∧ Owns w2 w1.heap.size 3 1 (.slice b L C2) L (ic (List.range' v k)) ∧ Still w w2 ∧ w1.heap.size ≤ w2.heap.size, fun _ _ _ i _ => s.length + 1 - i.toNat, ⟨0, rfl, by omega, rfl, Owns.nil _ _ _ _, hm, Nat.le_refl _⟩, ?_⟩
    rintro b k C2 _ _ w2 ⟨_, rfl, hk, rfl, ho2, hm2, hsz⟩
    refine bsel_of (fun hi => ?_) (fun hi => ?_)
    · have hi : v + k ≤ s.length := by have := of_decide_eq_true hi; omega
      have e1 : IntKind.i64.wrap (((v + k : Nat) : Int) + 1) = ((v + (k + 1) : Nat) : Int) := by rw [wrap_i64 (by omega) (by omega)]; omega
      rw [e1]
      refine ⟨_, [.int .i64 ((v + k : Nat) : Int)], (ho2.alloc _).base0, rfl, one_one rfl, one_src _ _ _, by omega, by omega, fun p3 c3 w3 ho3 hg3 hb3 => ?_⟩
      refine ⟨⟨k + 1, rfl, by omega, rfl, ?_, hm2.pushed ho2 hm.size hg3, ?_⟩, by dsimp only; omega⟩
      · have h := ho2.pushed hsz ho3 hb3
        rw [List.range'_concat, ic_snoc]
        simpa using h
      · refine Nat.le_trans hsz (Nat.le_trans ?_ hg3.size)
        simp
    · have hi : v + k = s.length + 1 := by have := of_decide_eq_false hi; omega
      have hk2 : k = s.length + 1 - v := by omega
      simp only [List.length_cons] at hql
      refine ⟨by decide, by simp only [List.length_cons]; omega, ⟨List.range' v k, by simp, by simp; omega, ?_, ?_, ho2.drew.base (fun j hj => Nat.le_trans hm.size (ho2.lt j hj).1), hm2.drew⟩, ?_⟩
      · show r.length ≤ p.length
        omega
      · rw [hk2]
        exact hat.star
      · show r.length < (42 :: r).length
        simp
  · have h42 : ¬ x = 42 := fun e => of_decide_eq_false hx (byte_eq.2 e)
    have h42' : (x :: r).head? ≠ some 42 := by simpa using h42
    have hone := onePc_length hq
    have hsuf := onePc_suffix hq
    -- the places are gone through as far as K
    have fin : ∀ (K : Nat) (size : Int) (b : Option Addr) (L2 C2 : Nat) (w4 : World), K ≤ l.length → (∀ i ∈ l.drop K, s.length ≤ i) → (if K = 0 then size = 1 else size = (oneLen (x :: r) : Int)) → L2 = (nexts s (onePc (x :: r)).1 (l.take K)).length →
        Owns w4 w1.heap.size 3 1 (.slice b L2 C2) L2 (ic (nexts s (onePc (x :: r)).1 (l.take K))) → Still w w4 →
        0 ≤ size ∧ size ≤ ((x :: r).length : Int) ∧ (∃ l2 : List Nat, L2 = l2.length ∧ l2.length ≤ s.length + 1 ∧ ((x :: r).drop (Int.toNat size)).length ≤ p.length ∧ At p s ((x :: r).drop (Int.toNat size)) l2 ∧ Owns w4.drew w.heap.size 3 1 (.slice b L2 C2) L2 (ic l2) ∧ Still w w4.drew) ∧ ((x :: r).drop (Int.toNat size)).length < (x :: r).length := by
      intro K size b L2 C2 w4 hK hend hsize hL2 ho4 hm4
      have hat2 := hat.set hq h42' hend
      have ho4' := ho4.drew.base (fun j hj => Nat.le_trans hm.size (ho4.lt j hj).1)
      have hnl := nexts_length s (onePc (x :: r)).1 (l.take K)
      have hnl2 : (l.take K).length ≤ l.length := by simp; omega
      by_cases hK0 : K = 0
      · rw [if_pos hK0] at hsize
        subst hsize hK0
        have hnil : nexts s (onePc (x :: r)).1 (l.take 0) = [] := rfl
        rw [hnil] at hat2 ho4' hL2
        have hno := hat2.none
        refine ⟨by decide, by simp only [List.length_cons]; omega, ⟨[], hL2, by simp, ?_, ⟨by simp, by simp, ?_⟩, ho4', hm4.drew⟩, ?_⟩
        · show r.length ≤ p.length
          simp only [List.length_cons] at hql
          omega
        · rw [hno]
          simp
        · show r.length < (x :: r).length
          simp
      · rw [if_neg hK0] at hsize
        subst hsize
        rw [Int.toNat_natCast]
        have hdrop : (x :: r).drop (oneLen (x :: r)) = (onePc (x :: r)).2 := hsuf.symm
        rw [hdrop]
        exact ⟨by omega, by unfold oneLen; omega, ⟨_, hL2, by omega, by omega, hat2, ho4', hm4.drew⟩, hone⟩
    refine ⟨fun b L2 C2 size k w4 => ∃ K : Nat, k = (K : Int) ∧ K ≤ l.length ∧ (∀ i ∈ l.take K, i < s.length) ∧ (if K = 0 then size = 1 else size = (oneLen (x :: r) : Int)) ∧ L2 = (nexts s (onePc (x :: r)).1 (l.take K)).length ∧
        Owns w4 w1.heap.size 3 1 (.slice b L2 C2) L2 (ic (nexts s (onePc (x :: r)).1 (l.take K))) ∧ Owns w4 w.heap.size 3 1 (.slice (some ⟨ga, 0, none⟩) l.length C) l.length (ic l) ∧ Still w w4 ∧ w1.heap.size ≤ w4.heap.size, fun _ _ _ _ k _ => l.length - k.toNat,
      ⟨0, rfl, by omega, by simp, rfl, rfl, Owns.nil _ _ _ _, ho, hm, Nat.le_refl _⟩, ?_⟩
    rintro b L2 C2 size _ _ w4 ⟨K, rfl, hK, hlt, hsize, hL2, ho4, ha4, hm4, hsz⟩
    have e1 : IntKind.i64.wrap ((K : Int) + 1) = ((K + 1 : Nat) : Int) := by rw [wrap_i64 (by omega) (by omega)]; omega
    refine bsel_of (fun hkx => ?_) (fun hkx => ?_)
    · have hk : K < l.length := by have := of_decide_eq_true hkx; omega
      have hlk := hat.le _ (List.getElem_mem hk)
      rw [e1, Int.toNat_natCast]
      refine ⟨by omega, by omega, _, ha4.place hk, bsel_of (fun hv => ?_) (fun hv => ?_)⟩
      · have hv : l[K] < s.length := by have := of_decide_eq_true hv; omega
        have hsv : s[l[K]]? = some s[l[K]] := List.getElem?_eq_getElem hv
        have htk : l.take (K + 1) = l.take K ++ [l[K]] := by rw [List.take_add_one, List.getElem?_eq_getElem hk]; rfl
        have hsn := nexts_snoc (S := (onePc (x :: r)).1) (l := l.take K) hsv
        have hlt2 : ∀ i ∈ l.take (K + 1), i < s.length := by
          intro i hi
          rw [htk] at hi
          rcases List.mem_append.1 hi with h | h
          · exact hlt i h
          · simp at h
            omega
        refine ⟨by omega, by omega, _, ha4.place hk, by omega, s[l[K]], by rw [Int.toNat_natCast]; exact hsv, (ref_one_spec (x :: r) (by omega) hq _).mono ?_⟩
        rintro _ w5 ⟨rfl, rfl⟩
        have hnl := nexts_length s (onePc (x :: r)).1 (l.take K)
        have hnl2 : (l.take K).length ≤ l.length := by simp; omega
        refine .inl ⟨_, _, rfl, bsel_of (fun hin => ?_) (fun hin => ?_)⟩
        · have e2 : IntKind.i64.wrap ((l[K] : Int) + 1) = ((l[K] + 1 : Nat) : Int) := by rw [wrap_i64 (by omega) (by omega)]; omega
          refine ⟨by omega, by omega, _, ha4.place hk, ?_⟩
          rw [e2]
          refine ⟨_, [.int .i64 ((l[K] + 1 : Nat) : Int)], (ho4.alloc _).base0, rfl, one_one rfl, one_src _ _ _, by omega, by omega, fun p6 c6 w6 ho6 hg6 hb6 => ?_⟩
          refine ⟨⟨K + 1, rfl, hk, hlt2, rfl, ?_, ?_, ha4.pushedOther ho4 hown hg6, hm4.pushed ho4 hm.size hg6, ?_⟩, by dsimp only; omega⟩
          · rw [htk, hsn, if_pos hin, hL2]
            simp
          · have h := ho4.pushed hsz ho6 hb6
            rw [htk, hsn, if_pos hin, ic_snoc]
            exact h
          · refine Nat.le_trans hsz (Nat.le_trans ?_ hg6.size)
            simp
        · refine ⟨⟨K + 1, rfl, hk, hlt2, rfl, ?_, ?_, ha4, hm4, hsz⟩, by dsimp only; omega⟩
          · rw [htk, hsn, if_neg (by rw [hin]; decide)]
            exact hL2
          · rw [htk, hsn, if_neg (by rw [hin]; decide)]
            exact ho4
      · have hv : s.length ≤ l[K] := by have := of_decide_eq_false hv; omega
        refine fin K size b L2 C2 w4 hK ?_ hsize hL2 ho4 hm4
        intro i hi
        obtain ⟨n, hn, rfl⟩ := List.getElem_of_mem hi
        rw [List.getElem_drop]
        rcases Nat.eq_zero_or_pos n with rfl | hn0
        · exact hv
        · simp at hn
          have := (List.pairwise_iff_getElem.1 hat.up) K (K + n) hk (by omega) (by omega)
          omega
    · have hk : K = l.length := by have := of_decide_eq_false hkx; omega
      refine fin K size b L2 C2 w4 hK ?_ hsize hL2 ho4 hm4
      intro i hi
      rw [List.drop_of_length_le (by omega)] at hi
      cases hi
theorem ref_remove_spec (s p : List UInt8) (atEnd most : Bool) (hs : s.length < 1000000) (hp : p.length < 1000000) : Calls Try.prog fn_ref11_Remove #[.string (S s), .string (S p), .bool atEnd, .bool most] w
    (fun e w' => e = .returned (.string (S (remove s p atEnd most))) ∧ Still w w') := by
  refine ref11_Remove_calls _ _ _ _ _ _ ?_
  refine ⟨fun x w1 => ∃ k : Nat, x = (k : Int) ∧ k ≤ s.length + 1 ∧ removeL s p atEnd most (s.length + 1 - k) k = remove s p atEnd most ∧ Still w w1, fun x _ => s.length + 1 - x.toNat, ⟨0, rfl, by omega, rfl, Mod.refl _ _⟩, ?_⟩
  rintro _ _ w1 ⟨k, rfl, hk, hrem, hm⟩
  refine bsel_of (fun hx => ?_) (fun hx => ?_)
  · have hx : k < s.length + 1 := by have := of_decide_eq_true hx; omega
    have e1 : IntKind.i64.wrap ((k : Int) + 1) = ((k + 1 : Nat) : Int) := by rw [wrap_i64 (by omega) (by omega)]; omega
    have ek : IntKind.i64.wrap ((s.length : Int) - (k : Int)) = ((s.length - k : Nat) : Int) := by rw [wrap_i64 (by omega) (by omega)]; omega
    rw [show s.length + 1 - k = (s.length + 1 - (k + 1)) + 1 by omega, removeL] at hrem
    refine ⟨fun w' => cutOne s p atEnd (if most then s.length - k else k) = none ∧ Still w w', ⟨fun n w' => n = ((if most then s.length - k else k : Nat) : Int) ∧ Still w w', bsel_of (fun h => ⟨by rw [ek, h]; rfl, hm⟩) (fun h => ⟨by rw [h]; rfl, hm⟩), ?_⟩, ?_⟩
    · rintro _ _ w2 ⟨rfl, hm2⟩
      have hnle : (if most then s.length - k else k) ≤ s.length := by split <;> omega
      generalize (if most then s.length - k else k) = n at hrem hnle ⊢
      have en : IntKind.i64.wrap ((s.length : Int) - (n : Int)) = ((s.length - n : Nat) : Int) := by rw [wrap_i64 (by omega) (by omega)]; omega
      rw [en, Int.toNat_natCast, Int.toNat_natCast]
      refine ⟨fun w' => (atEnd = false → pMatch p (s.take n) = false) ∧ Still w w', ⟨fun x w' => x = (!atEnd && pMatch p (s.take n)) ∧ Still w w', bsel_of (fun he => ⟨by omega, by omega, (ref_match_spec p _ hp (by simp; omega)).mono ?_⟩) (fun he => ⟨by rw [he]; rfl, hm2⟩), ?_⟩, ?_⟩
      · rintro _ w3 ⟨rfl, hm3⟩
        exact .inl ⟨_, rfl, by rw [he]; rfl, hm2.trans hm3⟩
      · rintro x _ w4 ⟨rfl, hm4⟩
        refine bsel_of (fun hx1 => ⟨by omega, by omega, ?_, hm4⟩) (fun hx1 => ⟨fun he => ?_, hm4⟩)
        · rw [Bool.and_eq_true] at hx1
          have hne : atEnd = false := by simpa using hx1.1
          have hc : cutOne s p atEnd n = some (s.drop n) := by
            unfold cutOne
            rw [if_neg (by rw [hne]; decide), if_pos hx1.2]
          rw [hc] at hrem
          rw [← hrem]
        · rw [he] at hx1
          simpa using hx1
      · rintro _ w5 ⟨hno, hm5⟩
        refine bsel_of (fun he => ⟨by omega, by omega, (ref_match_spec p _ hp (by simp; omega)).mono ?_⟩) (fun he => ⟨?_, hm5⟩)
        · rintro _ w6 ⟨rfl, hm6⟩
          refine .inl ⟨_, rfl, bsel_of (fun hm1 => ⟨by omega, by omega, ?_, hm5.trans hm6⟩) (fun hm1 => ⟨?_, hm5.trans hm6⟩)⟩
          · have hc : cutOne s p atEnd n = some (s.take (s.length - n)) := by
              unfold cutOne
              rw [if_pos he, if_pos hm1]
            rw [hc] at hrem
            rw [← hrem]
          · unfold cutOne
            rw [if_pos he, if_neg (by rw [hm1]; decide)]
        · unfold cutOne
          rw [if_neg (by rw [he]; decide), if_neg (by rw [hno he]; decide)]
    · rintro _ w6 ⟨hc, hm6⟩
      rw [hc] at hrem
      exact ⟨⟨k + 1, e1, by omega, hrem, hm6⟩, by rw [e1]; dsimp only; omega⟩
  · have hx : k = s.length + 1 := by have := of_decide_eq_false hx; omega
    subst hx
    rw [Nat.sub_self, removeL] at hrem
    rw [← hrem]
    exact ⟨rfl, hm⟩
end Go.Proofs.Ytjkbpdhpmcndlaa
