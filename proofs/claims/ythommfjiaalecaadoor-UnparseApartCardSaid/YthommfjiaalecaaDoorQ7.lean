/- Texts of one proof, one behind the other. Conditions: as each theorem names them. -/
import Derived.Test.YthommfjiaalecaaDoorQ6
import Derived.Lib.IndexLaws
import Derived.Deep.Slices
namespace Go.Proofs.YthommfjiaalecaaDoor
open Go.RowKit Vc
variable {w : World}
theorem NB.more {w0 w' : World} {g gn B : Nat} {X Y : Nat → Prop} {x : Nd} {vw va vr vo vk : Value} (h : NB w0 w g gn B X x vw va vr vo vk) (hm : Still w w') (hXY : ∀ k, X k → Y k) (hYX : ∀ k, Y k → X k ∨ (w.heap.size ≤ k ∧ k < w'.heap.size)) : NB w0 w' g gn B Y x vw va vr vo vk := by
  have hz := hm.size
  have hl := h.row.lt
  have hgn := h.hgn
  have hv : ∀ k, Y k → X k ∨ w.heap.size ≤ k := fun k hk => (hYX k hk).imp_right And.left
  refine ⟨h.row.still hm, h.only.tr hm.only, h.hg, h.hB, h.hgn, fun k hk => ?_, hXY _ h.xg, ?_, ?_, ?_, ?_, ?_⟩
  · rcases hYX k hk with hk | hk
    · exact ⟨Nat.lt_of_lt_of_le (h.xs k hk).1 hz, (h.xs k hk).2⟩
    · exact ⟨hk.2, by omega⟩
  · exact h.ow.mod hm (fun _ _ _ h => h.elim) hXY hv
  · exact h.oa.mod hm (fun _ _ _ h => h.elim) hXY hv
  · exact h.ord.mod hm (fun _ _ _ h => h.elim) hXY hv
  · exact h.oo.mod hm (fun _ _ _ h => h.elim) hXY hv
  · exact h.ok.mod hm (fun _ _ _ h => h.elim) hXY hv
abbrev Nd.setK (x : Nd) (y : Nd) : Nd := .mk x.k x.neg x.nm x.ws x.as x.rs x.os [y]
abbrev Nd.setO (x : Nd) (y : Txt) : Nd := .mk x.k x.neg x.nm x.ws x.as x.rs [y] x.ks
theorem setK_spec {w0 w1 : World} {g gn B : Nat} {X : Nat → Prop} {x y : Nd} {vw va vr vo vk : Value} {cs : List Value} (nb : NB w0 w1 g gn B X x vw va vr vo vk) (o : Only g w1 w) (hn : NdE w (fun k => w1.heap.size ≤ k ∧ k < w.heap.size) y cs) {K : World → Prop}
    (hK : ∀ vk' w' X', NB w0 w' g gn B X' (x.setK y) vw va vr vo vk' → Mod (fun k => B ≤ k) w w' → K w') :
    letW (w.alloc (.cells ⟨cs⟩ 32)) (fun w2 => stCells (Addr.mk gn 7 none) K 0 [.slice (some (Addr.mk w.heap.size 0 none)) 1 1] w2) := by
  have nb1 := nb.on o
  have hl := nb.row.lt
  have hl1 := nb1.row.lt
  have hB := nb.hB
  have hgn := nb.hgn
  have hzo := o.size
  refine allocK fun w2 r2 s2 z2 => ?_
  have nb2 := nb1.more (Y := fun k => X k ∨ k = w.heap.size) s2 (fun k hk => .inl hk) (fun k hk => hk.imp_right fun e => by omega)
  refine stK nb2.row (by simp) (by simp [Value.oneCell']) fun w3 r3 m3 z3 => hK _ w3 _ (nb2.put m3 (y := x.setK y) r3 (.inr ⟨rfl, rfl⟩) ⟨rfl, rfl⟩ ⟨rfl, rfl⟩ (.inr ⟨rfl, rfl⟩) (.inl ?_)) (Mod.trans s2 m3 (fun _ h => h.elim) (fun k _ e => by omega))
  have hn3 := (hn.still s2).mod m3 (fun k hk e => by omega)
  refine Enc.OutX.row (l := [y]) (r2.mod m3 (by omega)) (by omega) (by omega) (.inr rfl) (show 1 ≤ 1000000 by decide) (Enc.Cs.single (hn3.mono fun k hk => ⟨by omega, by omega, fun hx => ?_⟩))
  rcases hx with hx | hx
  · have := (nb.xs k hx).1
    omega
  · omega
theorem setO_spec {w0 : World} {g gn B : Nat} {X : Nat → Prop} {x : Nd} {y : Txt} {vw va vr vo vk : Value} (nb : NB w0 w g gn B X x vw va vr vo vk) {K : World → Prop}
    (hK : ∀ vo' w' X', NB w0 w' g gn B X' (x.setO y) vw va vr vo' vk → Mod (fun k => B ≤ k) w w' → K w') :
    letW (w.alloc (.cells ⟨[.string (S y)]⟩ 9)) (fun w2 => stCells (Addr.mk gn 6 none) K 0 [.slice (some (Addr.mk w.heap.size 0 none)) 1 1] w2) := by
  have hl := nb.row.lt
  have hB := nb.hB
  have hgn := nb.hgn
  refine allocK fun w2 r2 s2 z2 => ?_
  have nb2 := nb.more (Y := fun k => X k ∨ k = w.heap.size) s2 (fun k hk => .inl hk) (fun k hk => hk.imp_right fun e => by omega)
  refine stK nb2.row (by simp) (by simp [Value.oneCell']) fun w3 r3 m3 z3 => hK _ w3 _ (nb2.put m3 (y := x.setO y) r3 (.inr ⟨rfl, rfl⟩) ⟨rfl, rfl⟩ ⟨rfl, rfl⟩ (.inl ?_) (.inr ⟨rfl, rfl⟩)) (Mod.trans s2 m3 (fun _ h => h.elim) (fun k _ e => by omega))
  exact Enc.OutX.row (l := [y]) (r2.mod m3 (by omega)) (by omega) (by omega) (.inr rfl) (show 1 ≤ 1000000 by decide) (Enc.Cs.single rfl)
theorem NB.mkW {w0 : World} {g gn B : Nat} {x : Nd} {y : List Pt} {b : Nat} {v : Value} (hr : Row w gn 32 ⟨ncell x (.slice (some ⟨b, 0, none⟩) 1 1) (.slice none 0 0) (.slice none 0 0) (.slice none 0 0) (.slice none 0 0)⟩) (hb : Row w b 50 ⟨[v]⟩) (hc : SlAt w (fun k => B ≤ k ∧ k < w.heap.size ∧ k ≠ gn ∧ k ≠ b) y v) (ho : Only g w0 w) (hg : g < w0.heap.size) (hB : w0.heap.size ≤ B) (hgn : B ≤ gn) (hbB : B ≤ b) (hne : b ≠ gn) (hx : x.ws = [y] ∧ x.as = [] ∧ x.rs = [] ∧ x.os = [] ∧ x.ks = []) :
    NB w0 w g gn B (fun k => k = gn ∨ k = b) x (.slice (some ⟨b, 0, none⟩) 1 1) (.slice none 0 0) (.slice none 0 0) (.slice none 0 0) (.slice none 0 0) := by
  obtain ⟨h1, h2, h3, h4, h5⟩ := hx
  refine ⟨hr, ho, hg, hB, hgn, fun k hk => ?_, .inl rfl, ?_, ?_, ?_, ?_, ?_⟩
  · rcases hk with rfl | rfl
    · exact ⟨hr.lt, hgn⟩
    · exact ⟨hb.lt, hbB⟩
  · rw [h1]
    exact Enc.OutX.row (l := [y]) hb hbB hne (.inr rfl) (show 1 ≤ 1000000 by decide) (Enc.Cs.single ⟨v, rfl, hc.turn (fun k hk => ⟨hk.1, hk.2.1, fun h => h.elim hk.2.2.1 hk.2.2.2⟩) (fun _ _ _ h => h)⟩)
  · rw [h2]; exact Enc.OutX.nil _ _ _ _ _ _
  · rw [h3]; exact Enc.OutX.nil _ _ _ _ _ _
  · rw [h4]; exact Enc.OutX.nil _ _ _ _ _ _
  · rw [h5]; exact Enc.OutX.nil _ _ _ _ _ _
theorem dep_up {L : Nat} (hL : L < 100) : IntKind.i64.wrap (31 - ((L + 1 : Nat) : Int) + 1) = 31 - (L : Int) := by
  rw [wrap_i64 (by omega) (by omega)]
  omega
def replB (c : UInt8) (nw s : List UInt8) : List UInt8 := s.flatMap fun b => if b = c then nw else [b]
theorem replB_append (c : UInt8) (nw s t : List UInt8) : replB c nw (s ++ t) = replB c nw s ++ replB c nw t := by simp [replB]
theorem replB_none {c : UInt8} {nw : List UInt8} : ∀ {s : List UInt8}, s.count c = 0 → replB c nw s = s
  | [], _ => rfl
  | b :: s, h => by
    have hb : b ≠ c := by rintro rfl; simp at h
    rw [List.count_cons_of_ne hb] at h
    have := replB_none (nw := nw) h
    simp only [replB, List.flatMap_cons, if_neg hb] at this ⊢
    rw [this]
    rfl
theorem replB_length {c : UInt8} {nw : List UInt8} : ∀ s : List UInt8, (replB c nw s).length + s.count c = s.length + nw.length * s.count c
  | [] => by simp [replB]
  | b :: s => by
    have ih := replB_length (c := c) (nw := nw) s
    have e : replB c nw (b :: s) = (if b = c then nw else [b]) ++ replB c nw s := rfl
    by_cases hb : b = c
    · subst hb
      rw [e, if_pos rfl, List.length_append, List.count_cons_self, List.length_cons, Nat.mul_add]
      omega
    · rw [e, if_neg hb, List.length_append, List.count_cons_of_ne hb, List.length_cons]
      simp only [List.length_cons, List.length_nil]
      omega
theorem count_le {c : UInt8} (s : List UInt8) : s.count c ≤ s.length := List.count_le_length
theorem next_idx {c : UInt8} : ∀ {s : List UInt8}, 0 < s.count c → ∃ k : Nat, Lib.indexByte s c = (k : Int) ∧ k < s.length ∧ (s.take k).count c = 0 ∧ s[k]? = some c
  | b :: s, h => by
    by_cases hb : b = c
    · subst hb
      exact ⟨0, by simp [Lib.indexByte], by simp, by simp, rfl⟩
    · rw [List.count_cons_of_ne hb] at h
      obtain ⟨k, h1, h2, h3, h4⟩ := next_idx h
      refine ⟨k + 1, ?_, by simp; omega, by rw [List.take_succ_cons, List.count_cons_of_ne hb]; exact h3, by simpa using h4⟩
      simp only [Lib.indexByte, h1]
      have : (b == c) = false := by simpa using hb
      rw [this]
      have h2 : (((k : Nat) : Int) == -1) = false := by
        rw [beq_eq_false_iff_ne]
        omega
      simp [h2]
theorem liesB_own : LiesB 73 2 0 := by unfold LiesB; kernel_rfl
theorem replace_spec (c : UInt8) (nw s : List UInt8) (hs : s.length ≤ 1000000) (h0 : nw ≠ []) (h1 : nw.length ≤ 100) (hne : nw ≠ [c]) :
    Calls Tryd.prog fn_strings_Replace #[.string (S s), .string (S [c]), .string (S nw), .int .i64 (-1)] w (fun e w' => e = .returned (.string (S (replB c nw s))) ∧ Still w w') := by
  refine strings_Replace_calls _ _ _ _ _ _ ?_
  have hcl := count_le (c := c) s
  have hrl := replB_length (c := c) (nw := nw) s
  have hnw : 0 < nw.length := List.length_pos_iff.2 h0
  refine bsel_of (fun h => absurd (of_decide_eq_true h).symm hne) (fun _ => bsel_of (fun h => by simp at h) (fun _ => ?_))
  refine ⟨fun m w1 => m = (s.count c : Int) ∧ 0 < s.count c ∧ w1 = w, (Tryd.strings_Count_one (S s) c w).mono ?_, ?_⟩
  · rintro _ w1 ⟨rfl, rfl⟩
    refine .inl ⟨_, rfl, bsel_of (fun h => ?_) (fun h => ?_)⟩
    · have h : s.count c = 0 := by have := of_decide_eq_true h; exact Int.ofNat_eq_zero.1 this
      exact ⟨by rw [replB_none h], Mod.refl _ _⟩
    · have h : s.count c ≠ 0 := by
        have := of_decide_eq_false h
        exact fun e => this (by show ((Lib.countByte s c : Nat) : Int) = 0; unfold Lib.countByte; rw [e]; rfl)
      refine ⟨fun x w2 => x = true ∧ w2 = w1, bsel_of (fun _ => ⟨rfl, rfl⟩) (fun h => by simp at h), ?_⟩
      rintro _ _ w2 ⟨rfl, rfl⟩
      exact bsel_of (fun _ => ⟨rfl, by omega, rfl⟩) (fun h => by cases h)
  rintro _ _ w1 ⟨rfl, hpos, rfl⟩
  have hmul : nw.length * s.count c ≤ 100 * 1000000 := Nat.mul_le_mul h1 (by omega)
  have hmul2 : s.count c * nw.length = nw.length * s.count c := Nat.mul_comm _ _
  have hmul3 : s.count c ≤ nw.length * s.count c := Nat.le_mul_of_pos_left _ hnw
  have eg : IntKind.i64.wrap ((s.length : Int) + IntKind.i64.wrap ((s.count c : Int) * IntKind.i64.wrap ((nw.length : Int) - (([c] : List UInt8).length : Int)))) = ((s.length + (nw.length * s.count c - s.count c) : Nat) : Int) := by
    have e1 : IntKind.i64.wrap ((nw.length : Int) - (([c] : List UInt8).length : Int)) = ((nw.length - 1 : Nat) : Int) := by
      simp only [List.length_cons, List.length_nil]
      rw [wrap_i64 (by omega) (by omega)]
      omega
    have e2 : (s.count c : Int) * ((nw.length - 1 : Nat) : Int) = ((nw.length * s.count c - s.count c : Nat) : Int) := by
      rw [← Int.natCast_mul, Nat.mul_sub, Nat.mul_one, hmul2]
    have e3 := wrap_i64 (n := ((nw.length * s.count c - s.count c : Nat) : Int)) (by omega) (by omega)
    rw [e1, e2, e3, wrap_i64 (by omega) (by omega)]
    omega
  rw [eg]
  unfold letW
  have hbk : (w1.alloc (.cells #[(.pointer none), (.slice none 0 0)] 73)).heap[w1.heap.size]? = some (.cells #[(.pointer none), (.slice none 0 0)] 73 (0, 0)) := heap_alloc_new w1 _
  have hsz : (w1.alloc (.cells #[(.pointer none), (.slice none 0 0)] 73)).heap.size = w1.heap.size + 1 := World.size_alloc ..
  have hst0 : Still w1 (w1.alloc (.cells #[(.pointer none), (.slice none 0 0)] 73)) := (Mod.refl _ _).alloc _
  generalize hw2 : w1.alloc (.cells #[(.pointer none), (.slice none 0 0)] 73) = w2 at *
  refine (Tryd.Builder_Grow_fresh w1.heap.size w1.heap.size _ w2 (Nat.le_refl _) hbk (by omega) (by omega)).mono ?_
  rintro _ w3 ⟨rfl, hB3, hb3⟩
  refine .inl ⟨rfl, bsel_of (fun _ => ?_) (fun h => by simp at h)⟩
  obtain ⟨_, v3, hb3h, hown3, hne3⟩ := hB3
  have hst3 : Still w1 w3 := hst0.trans' hb3 (by omega)
  have hB : BldAt0 w3 73 w1.heap.size 0 w1.heap.size [.pointer (some ⟨w1.heap.size, 0, none⟩), v3] v3 [] := ⟨Row.of0 hb3h, .inr rfl, rfl, Owns.of hown3, hne3⟩
  have l1 : ∀ a b, LiesB 73 (([a, b] : List Value).length) 0 := fun _ _ => liesB_own
  refine ⟨fun st i w4 => ∃ (k n : Nat) (v : Value), st = (k : Int) ∧ i = (n : Int) ∧ k ≤ s.length ∧ n = (s.take k).count c ∧ n ≤ s.count c ∧ BldAt0 w4 73 w1.heap.size 0 w1.heap.size [.pointer (some ⟨w1.heap.size, 0, none⟩), v] v (replB c nw (s.take k)) ∧ Still w1 w4,
    fun _ i _ => s.count c - i.toNat, ⟨0, 0, v3, rfl, rfl, Nat.zero_le _, rfl, Nat.zero_le _, hB, hst3⟩, ?_⟩
  rintro _ _ _ w4 ⟨k, n, v, rfl, rfl, hk, hn, hnm, hB4, hst4⟩
  have hcount : (s.take k).count c + (s.drop k).count c = s.count c := by rw [← List.count_append, List.take_append_drop]
  have hrk := replB_append c nw (s.take k) (s.drop k)
  rw [List.take_append_drop] at hrk
  have hrkl : (replB c nw (s.take k)).length + (replB c nw (s.drop k)).length = (replB c nw s).length := by rw [hrk, List.length_append]
  have hdl : (s.drop k).length = s.length - k := List.length_drop
  have hrd := replB_length (c := c) (nw := nw) (s.drop k)
  simp only [Int.toNat_natCast]
  refine bsel_of (fun hx => ?_) (fun hx => ?_)
  · have hx : n < s.count c := by have := of_decide_eq_true hx; omega
    obtain ⟨j, hj1, hj2, hj3, hj4⟩ := next_idx (c := c) (s := s.drop k) (by omega)
    have hkj : s.drop k = (s.drop k).take j ++ c :: s.drop (k + j + 1) := by
      have h := (List.getElem?_eq_some_iff.1 hj4)
      obtain ⟨h, h'⟩ := h
      conv => lhs; rw [← List.take_append_drop j (s.drop k)]
      rw [List.drop_eq_getElem_cons h, h', List.drop_drop]
      rfl
    have htake : s.take (k + j + 1) = s.take k ++ ((s.drop k).take j ++ [c]) := by
      have h := (List.getElem?_eq_some_iff.1 hj4)
      obtain ⟨h, h'⟩ := h
      rw [Nat.add_assoc, List.take_add, List.take_add_one, hj4]
      rfl
    have hrt : replB c nw (s.take (k + j + 1)) = replB c nw (s.take k) ++ (s.drop k).take j ++ nw := by
      rw [htake, replB_append, replB_append, replB_none hj3, List.append_assoc]
      simp [replB]
    have hrl2 : (replB c nw (s.take (k + j + 1))).length ≤ (replB c nw s).length := by
      have := replB_append c nw (s.take (k + j + 1)) (s.drop (k + j + 1))
      rw [List.take_append_drop] at this
      rw [this, List.length_append]
      omega
    rw [hrt, List.length_append, List.length_append] at hrl2
    refine ⟨by omega, by omega, (Tryd.strings_Index_one (S (s.drop k)) c w4).mono ?_⟩
    rintro _ w5 ⟨rfl, rfl⟩
    have e5 : Lib.indexByte (S (s.drop k)).data.toList c = (j : Int) := hj1
    rw [e5]
    have ej : IntKind.i64.wrap ((k : Int) + (j : Int)) = ((k + j : Nat) : Int) := by rw [wrap_i64 (by omega) (by omega)]; omega
    have ej1 : IntKind.i64.wrap (((k + j : Nat) : Int) + (([c] : List UInt8).length : Int)) = ((k + j + 1 : Nat) : Int) := by
      simp only [List.length_cons, List.length_nil]
      rw [wrap_i64 (by omega) (by omega)]
      omega
    have en : IntKind.i64.wrap ((n : Int) + 1) = ((n + 1 : Nat) : Int) := by rw [wrap_i64 (by omega) (by omega)]; omega
    refine .inl ⟨_, rfl, by omega, by rw [ej]; omega, by rw [ej]; omega, ?_⟩
    rw [ej, ej1, en, Int.toNat_natCast, Nat.add_sub_cancel_left]
    refine (writeString_spec0 hB4 (l1 _ _) _ (by have := hst4.size; omega) (by omega)).mono ?_
    rintro _ w6 ⟨rfl, v6, hB6, _, hm6⟩
    have hst6 : Still w1 w6 := Mod.trans hst4 hm6 (fun _ h => h) (fun i hi e => by
      rcases e with rfl | e
      · omega
      · have := hB4.own.ownLt e; omega)
    refine .inl ⟨_, _, rfl, rfl, (writeString_spec0 hB6 (l1 _ _) nw (by have := hst6.size; omega) (by rw [List.length_append]; omega)).mono ?_⟩
    rintro _ w7 ⟨rfl, v7, hB7, _, hm7⟩
    have hst7 : Still w1 w7 := Mod.trans hst6 hm7 (fun _ h => h) (fun i hi e => by
      rcases e with rfl | e
      · omega
      · have := hB6.own.ownLt e; omega)
    refine .inl ⟨_, _, rfl, rfl, ⟨k + j + 1, n + 1, v7, rfl, rfl, by omega, ?_, hx, ?_, hst7⟩, by omega⟩
    · rw [htake, List.count_append, List.count_append, hj3, hn]
      simp
    · rw [hrt]
      exact hB7
  · have hx : n = s.count c := by have := of_decide_eq_false hx; omega
    have hd0 : (s.drop k).count c = 0 := by omega
    refine ⟨by omega, by omega, (writeString_spec0 hB4 (l1 _ _) _ (by have := hst4.size; omega) (by rw [replB_none hd0] at hrkl; omega)).mono ?_⟩
    rintro _ w6 ⟨rfl, v6, hB6, _, hm6⟩
    have hst6 : Still w1 w6 := Mod.trans hst4 hm6 (fun _ h => h) (fun i hi e => by
      rcases e with rfl | e
      · omega
      · have := hB4.own.ownLt e; omega)
    have e : replB c nw (s.take k) ++ s.drop k = replB c nw s := by rw [hrk, replB_none hd0]
    rw [e] at hB6
    have hnil : replB c nw s ≠ [] := by
      intro e
      rw [e] at hrl
      simp only [List.length_nil] at hrl
      omega
    refine .inl ⟨_, _, rfl, rfl, (string_spec (hB6.roomy hnil) (by omega)).mono ?_⟩
    rintro _ w7 ⟨rfl, hm7⟩
    exact .inl ⟨_, rfl, rfl, Mod.trans hst6 hm7 (fun _ h => h) (fun i hi e => by have := hB6.own.ownLt e; omega)⟩
theorem replaceAll_spec (c : UInt8) (nw s : List UInt8) (hs : s.length ≤ 1000000) (h0 : nw ≠ []) (h1 : nw.length ≤ 100) (hne : nw ≠ [c]) :
    Calls Tryd.prog fn_strings_ReplaceAll #[.string (S s), .string (S [c]), .string (S nw)] w (fun e w' => e = .returned (.string (S (replB c nw s))) ∧ Still w w') := by
  refine strings_ReplaceAll_calls _ _ _ _ _ ((replace_spec c nw s hs h0 h1 hne).mono ?_)
  rintro _ w1 ⟨rfl, h⟩
  exact .inl ⟨_, rfl, rfl, h⟩
def Bd (w : World) (g B : Nat) (bs : Txt) : Prop := ∃ cs v, cs.length = 2 ∧ BldAt w 73 g 0 B cs v bs
theorem Bd.still {w' : World} {g B : Nat} {bs : Txt} (h : Bd w g B bs) (hm : Still w w') : Bd w' g B bs := by
  obtain ⟨cs, v, h1, h2⟩ := h
  exact ⟨cs, v, h1, h2.still hm⟩
theorem Bd.write {g B : Nat} {bs : Txt} (h : Bd w g B bs) (s : Txt) (hB : B ≤ w.heap.size) (hs : bs.length + s.length ≤ 140737488355328) {w0 : World} (h0 : Still w0 w) (hg : w0.heap.size ≤ g) (hB0 : w0.heap.size ≤ B) :
    Calls Tryd.prog fn_strings_Builder_WriteString #[.pointer (some ⟨g, 0, none⟩), .string (S s)] w (fun e w' => e = .returned (.tuple #[.int .i64 (s.length : Int), .nilIface]) ∧ Bd w' g B (bs ++ s) ∧ Still w0 w' ∧ w.heap.size ≤ w'.heap.size) := by
  obtain ⟨cs, v, h1, h2⟩ := h
  have hl : LiesB 73 cs.length 0 := by rw [h1]; exact liesB_own
  refine (writeString_spec h2 hl s hB hs).mono ?_
  rintro _ w' ⟨rfl, v', h3, h4⟩
  refine ⟨rfl, ⟨_, v', by simp [h1], h3⟩, Mod.trans h0 h4 (fun _ h => h) (fun k hk e => ?_), h4.size⟩
  rcases e with e | e
  · omega
  · have := (h2.own.lt k e).1; omega
theorem Bd.told {g B : Nat} {bs : Txt} (h : Bd w g B bs) (hs : bs.length ≤ 140737488355328) {w0 : World} (h0 : Still w0 w) (hB0 : w0.heap.size ≤ B) : Calls Tryd.prog fn_strings_Builder_String #[.pointer (some ⟨g, 0, none⟩)] w (fun e w' => e = .returned (.string (S bs)) ∧ Still w0 w') := by
  obtain ⟨cs, v, h1, h2⟩ := h
  refine (string_spec h2 hs).mono ?_
  rintro _ w' ⟨rfl, h4⟩
  exact ⟨rfl, Mod.trans h0 h4 (fun _ h => h) fun k hk e => by have := (h2.own.lt k e).1; omega⟩
def core (x : Pt) : Txt := if x.k = 2 then [36, 40] ++ x.t ++ [41] else if x.k = 3 then [36, 40, 40] ++ x.t ++ [41, 41] else if x.k = 1 then (if x.o = lenO then [36, 123, 35] ++ x.n ++ [125] else [36, 123] ++ x.n ++ x.o ++ prL x.w ++ [125]) else []
theorem pr_core (x : Pt) : x.pr = if x.k = 0 then (if x.q = true then single x.t else x.t) else wrapQ x.q (core x) := by
  cases x
  rfl
theorem single_repl (t : Txt) : single t = 39 :: replB 39 [39, 92, 39, 39] t ++ [39] := rfl
theorem prL_take {l : List Pt} {k : Nat} (h : k < l.length) : prL (l.take (k + 1)) = prL (l.take k) ++ l[k].pr := by
  rw [take_one h, prL_append]
  simp [prL]
theorem core_len (x : Pt) : (core x).length + 2 ≤ x.wt := by
  have h1 := x.wt_eq
  have h2 := prL_len x.w
  unfold core
  split
  · simp; omega
  · split
    · simp; omega
    · split
      · split
        · simp; omega
        · simp; omega
      · simp only [List.length_nil]; omega
theorem plain_of {x : Pt} {F : Nat → Prop} {vw : Value} (hw : SlAt w F x.w vw) (hl : x.wt < 1000000) (ih : ∀ w1, Still w w1 → Calls Tryd.prog fn_word_Print #[vw] w1 (fun e w' => e = .returned (.string (S (prL x.w))) ∧ Still w1 w')) :
    Calls Tryd.prog fn_word_plain #[pagg x vw] w (fun e w' => e = .returned (.string (S (core x))) ∧ Still w w') := by
  obtain ⟨wp, wc, rfl⟩ := hw.form
  have h1 := x.wt_eq
  have h2 := prL_len x.w
  refine word_plain_calls _ _ _ _ _ _ _ _ _ _ ?_
  refine allocK fun w1 r1 s1 z1 => ?_
  obtain ⟨f0, f1, f2, f3, f4, f5⟩ := box_fields (x := x) r1
  unfold core
  refine ⟨_, f0, bsel_of (fun h => ?_) (fun h => bsel_of (fun h3 => ?_) (fun h3 => bsel_of (fun h4 => ⟨_, f4, bsel_of (fun h5 => ?_) (fun h5 => ?_)⟩) (fun h4 => ?_)))⟩
  · rw [if_pos (of_decide_eq_true h)]
    exact ⟨_, f2, by simp only [List.length_cons, List.length_nil]; omega, by simp only [List.length_append, List.length_cons, List.length_nil]; omega, rfl, s1⟩
  · rw [if_neg (of_decide_eq_false h), if_pos (of_decide_eq_true h3)]
    exact ⟨_, f2, by simp only [List.length_cons, List.length_nil]; omega, by simp only [List.length_append, List.length_cons, List.length_nil]; omega, rfl, s1⟩
  · rw [if_neg (of_decide_eq_false h), if_neg (of_decide_eq_false h3), if_pos (of_decide_eq_true h4), if_pos (of_decide_eq_true h5)]
    exact ⟨_, f3, by simp only [List.length_cons, List.length_nil]; omega, by simp only [List.length_append, List.length_cons, List.length_nil]; omega, rfl, s1⟩
  · rw [if_neg (of_decide_eq_false h), if_neg (of_decide_eq_false h3), if_pos (of_decide_eq_true h4), if_neg (of_decide_eq_false h5)]
    have rd : ∀ wq : World, Still w1 wq → Row wq w.heap.size 81 ⟨pcell x (.slice wp x.w.length wc)⟩ := fun wq hq => r1.still hq
    refine ⟨fun wq => Still w1 wq, drew_still w1, x.n, fun wq hq => (rd wq hq).lget rfl, by simp only [List.length_cons, List.length_nil]; omega, x.o, fun wq hq => (rd wq hq).lget rfl, by simp only [List.length_append, List.length_cons, List.length_nil]; omega, wp, x.w.length, wc, fun wq hq => (rd wq hq).lget rfl, ?_⟩
    refine (ih w1.drew s1.toDrew).mono ?_
    rintro _ w2 ⟨rfl, s2⟩
    exact .inl ⟨_, rfl, (drew_still w1).trans s2, by simp only [List.length_append, List.length_cons, List.length_nil]; omega, by simp only [List.length_append, List.length_cons, List.length_nil]; omega, rfl, s1.toDrew.trans s2⟩
  · rw [if_neg (of_decide_eq_false h), if_neg (of_decide_eq_false h3), if_neg (of_decide_eq_false h4)]
    exact ⟨rfl, s1⟩
theorem print_of : ∀ (n : Nat) (l : List Pt), SizeOf.sizeOf l < n → wtL l < 1000000 → ∀ (w : World) (F : Nat → Prop) (v : Value), SlAt w F l v → Calls Tryd.prog fn_word_Print #[v] w (fun e w' => e = .returned (.string (S (prL l))) ∧ Still w w') := by
  intro n
  induction n with
  | zero => intro l h; omega
  | succ n ih =>
    intro l hn hl w F v hv
    obtain ⟨p, c, rfl⟩ := hv.form
    have hwl := wtL_len l
    have hpl := prL_len l
    refine word_Print_calls _ _ _ _ _ ?_
    refine allocK fun w1 r1 s1 z1 => ?_
    have hb0 : Bd w1 w.heap.size (w.heap.size + 1) [] := ⟨_, _, rfl, BldAt.fresh r1 rfl rfl⟩
    refine ⟨fun x w2 => ∃ k : Nat, x = (k : Int) ∧ k ≤ l.length ∧ Bd w2 w.heap.size (w.heap.size + 1) (prL (l.take k)) ∧ Still w w2 ∧ w1.heap.size ≤ w2.heap.size, fun x _ => l.length - x.toNat, ⟨0, rfl, Nat.zero_le _, hb0, s1, Nat.le_refl _⟩, ?_⟩
    rintro _ _ w2 ⟨k, rfl, hk, hb, hs2, hz2⟩
    refine bsel_of (fun hx => ?_) (fun hx => ?_)
    rotate_left
    · have hx : k = l.length := by have := of_decide_eq_false hx; omega
      rw [hx, List.take_length] at hb
      refine (hb.told (by omega) hs2 (by omega)).mono ?_
      rintro _ w3 ⟨rfl, s3⟩
      exact .inl ⟨_, rfl, rfl, s3⟩
    have hx : k < l.length := by have := of_decide_eq_true hx; omega
    obtain ⟨b, wp, wc, rfl, c0, c1, c2, c3, c4, c5, hsw⟩ := (hv.still hs2).fields hx
    have hwk := wt_take hx
    have hpk := prL_len (l.take k)
    have hxw := l[k].wt_eq
    have hcl := core_len l[k]
    rw [Int.toNat_natCast]
    refine ⟨fun w13 => Bd w13 w.heap.size (w.heap.size + 1) (prL (l.take (k + 1))) ∧ Still w w13 ∧ w1.heap.size ≤ w13.heap.size, ⟨by omega, by omega, _, _, _, _, _, _, _, _, c0, c1, c2, c3, c4, c5, boxK rfl one6 fun w4 r4 s4 z4 => ?_⟩, ?_⟩
    rotate_left
    · rintro _ w13 ⟨h1, h2, h3⟩
      rw [show IntKind.i64.wrap ((k : Int) + 1) = ((k + 1 : Nat) : Int) by rw [wrap_i64 (by omega) (by omega)]; omega]
      exact ⟨⟨k + 1, rfl, hx, h1, h2, h3⟩, by dsimp only; omega⟩
    have hb4 := hb.still s4
    have hs4 := hs2.trans s4
    have hz4 : w1.heap.size ≤ w4.heap.size := by omega
    refine ⟨fun b w5 => b = (decide (l[k].k = 0) && l[k].q) ∧ w5 = w4, ⟨_, r4.lget rfl, bsel_of (fun h => ⟨_, r4.lget rfl, ?_, rfl⟩) (fun h => ⟨?_, rfl⟩)⟩, ?_⟩
    · rw [h, Bool.true_and]
    · rw [h, Bool.false_and]
    rintro b' _ w5 ⟨hb', rfl⟩
    -- what is told is put behind
    have put : ∀ (s : Txt) (w6 : World), Still w5 w6 → l[k].pr = s → Calls Tryd.prog fn_strings_Builder_WriteString #[.pointer (some (Addr.mk w.heap.size 0 none)), .string (S s)] w6 (fun ed w7 => (∃ r1 : Int, ∃ r2 : Value, r2.oneCell' = true ∧ ed = .returned (.tuple #[.int .i64 r1, r2]) ∧ Bd w7 w.heap.size (w.heap.size + 1) (prL (l.take (k + 1))) ∧ Still w w7 ∧ w1.heap.size ≤ w7.heap.size) ∨ (∃ ch, ed = .panicked ch ∧ (Ending.panicked ch = .returned (.string (S (prL l))) ∧ Still w w7))) := by
      intro s w6 s6 hs
      have hps := l[k].pr_len
      refine ((hb4.still s6).write s (by have := s6.size; omega) (by rw [← hs]; omega) (hs4.trans s6) (Nat.le_refl _) (by omega)).mono ?_
      rintro _ w7 ⟨rfl, h7, s7, z7⟩
      refine .inl ⟨_, _, rfl, rfl, by rw [prL_take hx, hs]; exact h7, s7, by have := s6.size; omega⟩
    refine bsel_of (fun h => ?_) (fun h => ⟨_, r4.lget rfl, bsel_of (fun h3 => ?_) (fun h3 => ⟨_, r4.lget rfl, bsel_of (fun h5 => ?_) (fun h5 => ?_)⟩)⟩)
    · rw [h] at hb'
      have hk0 : l[k].k = 0 ∧ l[k].q = true := by simpa using hb'.symm
      refine ⟨_, r4.lget rfl, (replaceAll_spec 39 [39, 92, 39, 39] l[k].t (by omega) (by decide) (by decide) (by decide)).mono ?_⟩
      rintro _ w6 ⟨rfl, s6⟩
      have hsl := single_len l[k].t
      rw [single_repl] at hsl
      simp only [List.length_append, List.length_cons, List.length_nil] at hsl
      exact .inl ⟨_, rfl, by simp only [List.length_cons, List.length_nil]; omega, by simp only [List.length_append, List.length_cons, List.length_nil]; omega, put _ w6 s6 (by rw [pr_core, if_pos hk0.1, if_pos hk0.2]; rfl)⟩
    · have hk0 : l[k].k = 0 := of_decide_eq_true h3
      have hq0 : l[k].q = false := by
        rw [h, hk0] at hb'
        simpa using hb'.symm
      exact ⟨_, r4.lget rfl, put _ _ (Still.refl _) (by rw [pr_core, if_pos hk0, if_neg (by rw [hq0]; decide)])⟩
    · have hk0 : ¬ l[k].k = 0 := of_decide_eq_false h3
      refine ⟨_, _, _, _, _, _, _, _, r4.lget rfl, r4.lget rfl, r4.lget rfl, r4.lget rfl, r4.lget rfl, r4.lget rfl, (plain_of (x := l[k]) (hsw.still s4) (by omega) fun wq hq => ih _ (by have := word_of hx; omega) (by have := wt_word hx; omega) wq F _ ((hsw.still s4).still hq)).mono ?_⟩
      rintro _ w6 ⟨rfl, s6⟩
      exact .inl ⟨_, rfl, by simp only [List.length_cons, List.length_nil]; omega, by simp only [List.length_append, List.length_cons, List.length_nil]; omega, put _ w6 s6 (by rw [pr_core, if_neg hk0, wrapQ, if_pos h5]; rfl)⟩
    · have hk0 : ¬ l[k].k = 0 := of_decide_eq_false h3
      refine ⟨_, _, _, _, _, _, _, _, r4.lget rfl, r4.lget rfl, r4.lget rfl, r4.lget rfl, r4.lget rfl, r4.lget rfl, (plain_of (x := l[k]) (hsw.still s4) (by omega) fun wq hq => ih _ (by have := word_of hx; omega) (by have := wt_word hx; omega) wq F _ ((hsw.still s4).still hq)).mono ?_⟩
      rintro _ w6 ⟨rfl, s6⟩
      exact .inl ⟨_, rfl, put _ w6 s6 (by rw [pr_core, if_neg hk0, wrapQ, if_neg (by rw [h5]; decide)])⟩
theorem Print_spec {F : Nat → Prop} {l : List Pt} {v : Value} (hv : SlAt w F l v) (hl : wtL l < 1000000) : Calls Tryd.prog fn_word_Print #[v] w (fun e w' => e = .returned (.string (S (prL l))) ∧ Still w w') := print_of _ l (Nat.lt_succ_self _) hl w F v hv
def Ss (w : World) (B : Nat) (l : List Txt) (v : Value) : Prop := ∃ p c, v = .slice p l.length c ∧ Owns w B 9 1 v l.length (strs l)
theorem Ss.still {w' : World} {B : Nat} {l : List Txt} {v : Value} (h : Ss w B l v) (hm : Still w w') : Ss w' B l v := by
  obtain ⟨p, c, rfl, ho⟩ := h
  exact ⟨p, c, rfl, ho.still hm⟩
theorem Ss.form {B : Nat} {l : List Txt} {v : Value} (h : Ss w B l v) : ∃ p c, v = .slice p l.length c := by
  obtain ⟨p, c, he, _⟩ := h
  exact ⟨p, c, he⟩
theorem join_joinT (sep : Txt) (l : List Txt) : Lib.join l sep = joinT sep l := by
  cases l with
  | nil => rfl
  | cons x r =>
    rw [Lib.join_cons]
    simp only [Lib.joinTail, joinT, List.flatMap_def]
theorem sjoin_spec {B : Nat} {l : List Txt} {p : Option Addr} {c : Nat} (h : Ss w B l (.slice p l.length c)) (sep : Txt) (hl : l.length ≤ 1000000000) (hj : (joinT sep l).length ≤ 140737488355328) :
    Calls Tryd.prog fn_strings_Join #[.slice p l.length c, .string (S sep)] w (fun e w' => e = .returned (.string (S (joinT sep l))) ∧ Still w w') := by
  by_cases h0 : l = []
  · subst h0
    refine (Tryd.strings_Join_none p c (S sep) w).mono ?_
    rintro _ w' ⟨rfl, rfl⟩
    exact ⟨rfl, Still.refl _⟩
  · obtain ⟨p', c', he, ho⟩ := h
    injection he with e1 e2 e3
    subst e1 e3
    obtain ⟨g, cap, he, _, hg, hcap, hcell⟩ := ho.ownAddr (List.length_pos_iff.2 h0)
    injection he with e1 e2 e3
    subst e1 e3
    have hm : (l.map S).map (·.data.toList) = l := by
      rw [List.map_map]
      exact List.map_id' l
    have hJ := Tryd.strings_Join g 0 c (l.map S) (S sep) w (fun j x hx => by
      rw [List.getElem?_map] at hx
      cases hj : l[j]? with
      | none => rw [hj] at hx; cases hx
      | some y =>
        rw [hj] at hx
        obtain rfl := Option.some.inj hx
        rw [Nat.zero_add]
        exact hcell j _ (by simp [strs, hj])) hg (by rw [List.length_map]; omega) (by rw [List.length_map]; exact hcap) (by rw [hm]; show (Lib.join l sep).length ≤ _; rw [join_joinT]; exact hj)
    rw [List.length_map, hm] at hJ
    refine hJ.mono ?_
    rintro e w' ⟨rfl, hb⟩
    refine ⟨?_, (Still.refl w).trans' hb (Nat.le_refl _)⟩
    show Ending.returned (.string ⟨⟨Lib.join l sep⟩⟩) = _
    rw [join_joinT]
theorem ujoin_spec {B : Nat} {l : List Txt} {p : Option Addr} {c : Nat} (h : Ss w B l (.slice p l.length c)) (hl : l.length ≤ 1000000000) (hj : (joinT [32] l).length ≤ 140737488355328) :
    Calls Tryd.prog fn_unparse_join #[.slice p l.length c] w (fun e w' => e = .returned (.string (S (joinT [32] l))) ∧ Still w w') := by
  refine unparse_join_calls _ _ _ _ _ ?_
  refine (sjoin_spec h [32] hl hj).mono ?_
  rintro _ w1 ⟨rfl, s1⟩
  exact .inl ⟨_, rfl, rfl, s1⟩
theorem repL_one (z : Value) : ∀ n, repL [z] n = List.replicate n z
  | 0 => rfl
  | n + 1 => by
    rw [List.replicate_succ]
    show [z] ++ repL [z] n = _
    rw [repL_one z n]
    rfl
def upd (l : List Txt) (n k : Nat) : List Txt := l.take k ++ List.replicate (n - k) []
theorem upd_zero (l : List Txt) (n : Nat) : upd l n 0 = List.replicate n [] := by simp [upd]
theorem upd_all (l : List Txt) : upd l l.length l.length = l := by simp [upd]
theorem upd_set {l : List Txt} {k : Nat} (h : k < l.length) : (strs (upd l l.length k)).set k (.string (S l[k])) = strs (upd l l.length (k + 1)) := by
  unfold strs upd
  rw [List.map_append, List.map_append, List.set_append_right _ _ (by rw [List.length_map, List.length_take]; omega), List.length_map, List.length_take, Nat.min_eq_left (by omega), Nat.sub_self, show l.length - k = (l.length - (k + 1)) + 1 by omega, List.replicate_succ, List.map_cons, List.set_cons_zero, take_one h, List.map_append, List.append_assoc]
  rfl
theorem upd_len (l : List Txt) {k : Nat} (h : k ≤ l.length) : (strs (upd l l.length k)).length = l.length := by
  simp [strs, upd]
  omega
theorem Ss.made {g : Nat} {l : List Txt} {B : Nat} (hr : Row w g 9 ⟨strs l⟩) (hB : B ≤ g) (hl : l.length ≤ 1000000000) : Ss w B l (.slice (some ⟨g, 0, none⟩) l.length l.length) := by
  have hs : (strs l).length = l.length := by simp [strs]
  exact ⟨_, _, rfl, by rw [hs, Nat.mul_one], .inr ⟨g, l.length, ⟨strs l⟩, rfl, hB, hr, Nat.le_refl _, Nat.le_trans hl (by decide), by show (strs l).length = _; rw [hs, Nat.mul_one], by rw [Nat.mul_one, ← hs]; exact List.take_length⟩⟩
def EachI (w : World) (l : List Txt) (x : Int) (w2 : World) : Prop := ∃ k : Nat, x = (k : Int) ∧ k ≤ l.length ∧ Row w2 w.heap.size 9 ⟨strs (upd l l.length k)⟩ ∧ Still w w2
theorem each_start {l : List Txt} {n : Nat} (hn : l.length = n) {K : World → Prop} (h : ∀ w1, EachI w l 0 w1 → K w1) : letW (w.alloc (.cells (madeCells #[.string (S [])] (Int.toNat (n : Int) * 1)) 9)) K := by
  have e : madeCells #[.string (S [])] (Int.toNat (n : Int) * 1) = ⟨strs (upd l l.length 0)⟩ := by
    rw [Int.toNat_natCast, upd_zero, hn]
    have := madeCells_repL [.string (S [])] n
    rw [show [Value.string (S [])].length = 1 from rfl] at this
    rw [this, repL_one]
    simp [strs]
  rw [e]
  exact allocK fun w1 r1 s1 _ => h w1 ⟨0, rfl, Nat.zero_le _, r1, s1⟩
theorem each_put {l : List Txt} {k : Nat} (hk : k < l.length) {w2 w3 : World} (hr : Row w2 w.heap.size 9 ⟨strs (upd l l.length k)⟩) (hs : Still w w2) (s3 : Still w2 w3) {K : World → Prop} (h : ∀ w', EachI w l ((k + 1 : Nat) : Int) w' → K w') :
    stCells ((Addr.mk w.heap.size 0 none).add (Int.toNat (k : Int) * 1)) K 0 [.string (S l[k])] w3 := by
  rw [add_row, Int.toNat_natCast, Nat.mul_one, Nat.zero_add]
  refine stK (hr.still s3) (by rw [upd_len _ (by omega)]; simp only [List.length_cons, List.length_nil]; omega) (by simp [Value.oneCell']) fun w' r' m' z' => h w' ⟨k + 1, rfl, hk, ?_, Mod.trans (hs.trans s3) m' (fun _ h => h) (fun i hi e => by omega)⟩
  have e : ovw (strs (upd l l.length k)) k [.string (S l[k])] = (strs (upd l l.length k)).set k (.string (S l[k])) := rfl
  rw [e, upd_set hk] at r'
  exact r'
theorem each_end {w' : World} {l : List Txt} {x : Int} {n : Nat} (hn : l.length = n) (hl : l.length ≤ 1000000000) (hx : ¬ (x < (n : Int))) (h : EachI w l x w') : ∃ p c, Value.slice (some (Addr.mk w.heap.size 0 none)) (Int.toNat (n : Int)) (Int.toNat (n : Int)) = .slice p l.length c ∧ Ss w' w.heap.size l (.slice p l.length c) ∧ Still w w' := by
  obtain ⟨k, rfl, hk, hr, hs⟩ := h
  have : k = l.length := by omega
  subst this
  rw [upd_all] at hr
  rw [Int.toNat_natCast, ← hn]
  exact ⟨_, _, rfl, Ss.made hr (Nat.le_refl _) hl, hs⟩
theorem callee_of {fn : FuncId} {K : FuncId → List Value → List Value → Prop} (h : K fn [] []) : calleeK (.func (.func fn) #[] #[]) K := h
def Told (w : World) (l : List Txt) (e : Ending) (w' : World) : Prop := ∃ p c, e = .returned (.slice p l.length c) ∧ Ss w' w.heap.size l (.slice p l.length c) ∧ Still w w'
set_option maxRecDepth 10000 in
theorem eachN_of {F : Nat → Prop} {l : List Nd} {p : Option Addr} {n c : Nat} {fn : FuncId} (hv : ndE.At w F l (.slice p n c)) (hl : l.length ≤ 1000000000) (hc : callable Tryd.prog fn = true) (tx : Nd → Txt)
    (ih : ∀ x ∈ l, ∀ (w1 : World) (cs : List Value), Still w w1 → NdE w1 F x cs → Calls Tryd.prog fn #[.agg ⟨cs⟩] w1 (fun e w' => e = .returned (.string (S (tx x))) ∧ Still w1 w')) :
    Calls Tryd.prog 44 #[.slice p n c, .func (.func fn) #[] #[]] w (Told w (l.map tx)) := by
  obtain ⟨rfl, _⟩ := hv.len
  have hm : (l.map tx).length = l.length := List.length_map ..
  refine unparse_each_api_Node_calls _ _ _ _ _ _ ?_
  refine ⟨by omega, by omega, by omega, by omega, each_start hm fun w1 h1 => ⟨EachI w (l.map tx), fun x _ => l.length - x.toNat, h1, ?_⟩⟩
  rintro x _ w2 h2
  refine bsel_of (fun hx => ?_) (fun hx => ?_)
  rotate_left
  · obtain ⟨p', c', he, hS, hs⟩ := each_end hm (by omega) (of_decide_eq_false hx) h2
    exact ⟨p', c', congrArg Ending.returned he, hS, hs⟩
  obtain ⟨k, rfl, hk, hr, hs⟩ := h2
  have hk : k < l.length := by have := of_decide_eq_true hx; omega
  obtain ⟨b, cs, rfl, _, hE, hcell⟩ := (hv.still hs).get (List.getElem?_eq_getElem hk)
  have hE : NdE w2 F l[k] cs := hE
  obtain ⟨pw, cw, pa, ca, pr, cr, po, co, pk, ck, rfl, _⟩ := hE.outs
  have hcell : CellsAt w2 (b.add (k * 8)) _ := hcell
  have e1 : IntKind.i64.wrap ((k : Int) + 1) = ((k + 1 : Nat) : Int) := by rw [wrap_i64 (by omega) (by omega)]; omega
  rw [e1]
  have et : Int.toNat (k : Int) = k := Int.toNat_natCast k
  have hput := fun w5 (s5 : Still w2 w5) => each_put (w := w) (l := l.map tx) (k := k) (by omega) hr hs s5 (K := fun w' => EachI w (l.map tx) ((k + 1 : Nat) : Int) w' ∧ l.length - ((k + 1 : Nat) : Int).toNat < l.length - ((k : Int)).toNat) fun w' h' => ⟨h', by rw [Int.toNat_natCast, Int.toNat_natCast]; omega⟩
  rw [et] at hput ⊢
  refine ⟨by omega, by omega, _, _, _, _, _, _, _, _, _, _, _, _, _, _, _, _, _, _, hcell.zero, hcell 1 _ rfl, hcell 2 _ rfl, hcell 3 _ rfl, hcell 4 _ rfl, hcell 5 _ rfl, hcell 6 _ rfl, hcell 7 _ rfl, boxK rfl (by simp [Value.oneCell']) fun w4 r4 s4 z4 => ?_⟩
  refine ⟨_, _, _, _, _, _, _, _, _, _, _, _, _, _, _, _, _, _, r4.lget rfl, r4.lget rfl, r4.lget rfl, r4.lget rfl, r4.lget rfl, r4.lget rfl, r4.lget rfl, r4.lget rfl, callee_of (bsel_of (fun _ => ?_) (fun h => by rw [hc] at h; cases h))⟩
  refine (ih l[k] (List.getElem_mem hk) w4 _ (hs.trans s4) (hE.still s4)).mono ?_
  rintro _ w5 ⟨rfl, s5⟩
  have ek : (l.map tx)[k]'(by omega) = tx l[k] := List.getElem_map ..
  have hput := hput w5 (s4.trans s5)
  rw [ek] at hput
  exact .inl ⟨_, rfl, by omega, by omega, hput⟩
set_option maxRecDepth 10000 in
theorem eachR_of {F : Nat → Prop} {l : List (Txt × List Pt)} {p : Option Addr} {n c : Nat} {fn : FuncId} (hv : nsE.At w F l (.slice p n c)) (hl : l.length ≤ 1000000000) (hc : callable Tryd.prog fn = true) (tx : Txt × List Pt → Txt)
    (ih : ∀ x ∈ l, ∀ (w1 : World) (v : Value), Still w w1 → SlAt w1 F x.2 v → Calls Tryd.prog fn #[.agg #[.string (S x.1), v]] w1 (fun e w' => e = .returned (.string (S (tx x))) ∧ Still w1 w')) :
    Calls Tryd.prog 27 #[.slice p n c, .func (.func fn) #[] #[]] w (Told w (l.map tx)) := by
  obtain ⟨rfl, _⟩ := hv.len
  have hm : (l.map tx).length = l.length := List.length_map ..
  refine unparse_each_api_Redir_calls _ _ _ _ _ _ ?_
  refine ⟨by omega, by omega, by omega, by omega, each_start hm fun w1 h1 => ⟨EachI w (l.map tx), fun x _ => l.length - x.toNat, h1, ?_⟩⟩
  rintro x _ w2 h2
  refine bsel_of (fun hx => ?_) (fun hx => ?_)
  rotate_left
  · obtain ⟨p', c', he, hS, hs⟩ := each_end hm (by omega) (of_decide_eq_false hx) h2
    exact ⟨p', c', congrArg Ending.returned he, hS, hs⟩
  obtain ⟨k, rfl, hk, hr, hs⟩ := h2
  have hk : k < l.length := by have := of_decide_eq_true hx; omega
  obtain ⟨b, cs, rfl, _, ⟨v, rfl, hE⟩, hcell⟩ := (hv.still hs).get (List.getElem?_eq_getElem hk)
  obtain ⟨q, d, rfl⟩ := hE.form
  have hcell : CellsAt w2 (b.add (k * 2)) _ := hcell
  have e1 : IntKind.i64.wrap ((k : Int) + 1) = ((k + 1 : Nat) : Int) := by rw [wrap_i64 (by omega) (by omega)]; omega
  rw [e1]
  have et : Int.toNat (k : Int) = k := Int.toNat_natCast k
  have hput := fun w5 (s5 : Still w2 w5) => each_put (w := w) (l := l.map tx) (k := k) (by omega) hr hs s5 (K := fun w' => EachI w (l.map tx) ((k + 1 : Nat) : Int) w' ∧ l.length - ((k + 1 : Nat) : Int).toNat < l.length - ((k : Int)).toNat) fun w' h' => ⟨h', by rw [Int.toNat_natCast, Int.toNat_natCast]; omega⟩
  rw [et] at hput ⊢
  refine ⟨by omega, by omega, _, _, _, _, hcell.zero, hcell 1 _ rfl, boxK rfl (by simp [Value.oneCell']) fun w4 r4 s4 z4 => ?_⟩
  refine ⟨_, _, _, _, r4.lget rfl, r4.lget rfl, callee_of (bsel_of (fun _ => ?_) (fun h => by rw [hc] at h; cases h))⟩
  refine (ih l[k] (List.getElem_mem hk) w4 _ (hs.trans s4) (hE.still s4)).mono ?_
  rintro _ w5 ⟨rfl, s5⟩
  have ek : (l.map tx)[k]'(by omega) = tx l[k] := List.getElem_map ..
  have hput := hput w5 (s4.trans s5)
  rw [ek] at hput
  exact .inl ⟨_, rfl, by omega, by omega, hput⟩
set_option maxRecDepth 10000 in
theorem eachA_of {F : Nat → Prop} {l : List (Txt × List Pt)} {p : Option Addr} {n c : Nat} {fn : FuncId} (hv : nsE.At w F l (.slice p n c)) (hl : l.length ≤ 1000000000) (hc : callable Tryd.prog fn = true) (tx : Txt × List Pt → Txt)
    (ih : ∀ x ∈ l, ∀ (w1 : World) (v : Value), Still w w1 → SlAt w1 F x.2 v → Calls Tryd.prog fn #[.agg #[.string (S x.1), v]] w1 (fun e w' => e = .returned (.string (S (tx x))) ∧ Still w1 w')) :
    Calls Tryd.prog 39 #[.slice p n c, .func (.func fn) #[] #[]] w (Told w (l.map tx)) := by
  obtain ⟨rfl, _⟩ := hv.len
  have hm : (l.map tx).length = l.length := List.length_map ..
  refine unparse_each_api_Assign_calls _ _ _ _ _ _ ?_
  refine ⟨by omega, by omega, by omega, by omega, each_start hm fun w1 h1 => ⟨EachI w (l.map tx), fun x _ => l.length - x.toNat, h1, ?_⟩⟩
  rintro x _ w2 h2
  refine bsel_of (fun hx => ?_) (fun hx => ?_)
  rotate_left
  · obtain ⟨p', c', he, hS, hs⟩ := each_end hm (by omega) (of_decide_eq_false hx) h2
    exact ⟨p', c', congrArg Ending.returned he, hS, hs⟩
  obtain ⟨k, rfl, hk, hr, hs⟩ := h2
  have hk : k < l.length := by have := of_decide_eq_true hx; omega
  obtain ⟨b, cs, rfl, _, ⟨v, rfl, hE⟩, hcell⟩ := (hv.still hs).get (List.getElem?_eq_getElem hk)
  obtain ⟨q, d, rfl⟩ := hE.form
  have hcell : CellsAt w2 (b.add (k * 2)) _ := hcell
  have e1 : IntKind.i64.wrap ((k : Int) + 1) = ((k + 1 : Nat) : Int) := by rw [wrap_i64 (by omega) (by omega)]; omega
  rw [e1]
  have et : Int.toNat (k : Int) = k := Int.toNat_natCast k
  have hput := fun w5 (s5 : Still w2 w5) => each_put (w := w) (l := l.map tx) (k := k) (by omega) hr hs s5 (K := fun w' => EachI w (l.map tx) ((k + 1 : Nat) : Int) w' ∧ l.length - ((k + 1 : Nat) : Int).toNat < l.length - ((k : Int)).toNat) fun w' h' => ⟨h', by rw [Int.toNat_natCast, Int.toNat_natCast]; omega⟩
  rw [et] at hput ⊢
  refine ⟨by omega, by omega, _, _, _, _, hcell.zero, hcell 1 _ rfl, boxK rfl (by simp [Value.oneCell']) fun w4 r4 s4 z4 => ?_⟩
  refine ⟨_, _, _, _, r4.lget rfl, r4.lget rfl, callee_of (bsel_of (fun _ => ?_) (fun h => by rw [hc] at h; cases h))⟩
  refine (ih l[k] (List.getElem_mem hk) w4 _ (hs.trans s4) (hE.still s4)).mono ?_
  rintro _ w5 ⟨rfl, s5⟩
  have ek : (l.map tx)[k]'(by omega) = tx l[k] := List.getElem_map ..
  have hput := hput w5 (s4.trans s5)
  rw [ek] at hput
  exact .inl ⟨_, rfl, by omega, by omega, hput⟩
set_option maxRecDepth 10000 in
theorem eachW_of {F : Nat → Prop} {l : List (List Pt)} {p : Option Addr} {n c : Nat} {fn : FuncId} (hv : wsE.At w F l (.slice p n c)) (hl : l.length ≤ 1000000000) (hc : callable Tryd.prog fn = true) (tx : List Pt → Txt)
    (ih : ∀ x ∈ l, ∀ (w1 : World) (v : Value), Still w w1 → SlAt w1 F x v → Calls Tryd.prog fn #[v] w1 (fun e w' => e = .returned (.string (S (tx x))) ∧ Still w1 w')) :
    Calls Tryd.prog 41 #[.slice p n c, .func (.func fn) #[] #[]] w (Told w (l.map tx)) := by
  obtain ⟨rfl, _⟩ := hv.len
  have hm : (l.map tx).length = l.length := List.length_map ..
  refine unparse_each_api_Part_calls _ _ _ _ _ _ ?_
  refine ⟨by omega, by omega, by omega, by omega, each_start hm fun w1 h1 => ⟨EachI w (l.map tx), fun x _ => l.length - x.toNat, h1, ?_⟩⟩
  rintro x _ w2 h2
  refine bsel_of (fun hx => ?_) (fun hx => ?_)
  rotate_left
  · obtain ⟨p', c', he, hS, hs⟩ := each_end hm (by omega) (of_decide_eq_false hx) h2
    exact ⟨p', c', congrArg Ending.returned he, hS, hs⟩
  obtain ⟨k, rfl, hk, hr, hs⟩ := h2
  have hk : k < l.length := by have := of_decide_eq_true hx; omega
  obtain ⟨b, cs, rfl, _, ⟨v, rfl, hE⟩, hcell⟩ := (hv.still hs).get (List.getElem?_eq_getElem hk)
  obtain ⟨q, d, rfl⟩ := hE.form
  have hcell : CellsAt w2 (b.add (k * 1)) _ := hcell
  have e1 : IntKind.i64.wrap ((k : Int) + 1) = ((k + 1 : Nat) : Int) := by rw [wrap_i64 (by omega) (by omega)]; omega
  rw [e1]
  have et : Int.toNat (k : Int) = k := Int.toNat_natCast k
  have hput := fun w5 (s5 : Still w2 w5) => each_put (w := w) (l := l.map tx) (k := k) (by omega) hr hs s5 (K := fun w' => EachI w (l.map tx) ((k + 1 : Nat) : Int) w' ∧ l.length - ((k + 1 : Nat) : Int).toNat < l.length - ((k : Int)).toNat) fun w' h' => ⟨h', by rw [Int.toNat_natCast, Int.toNat_natCast]; omega⟩
  rw [et] at hput ⊢
  refine ⟨by omega, by omega, _, _, _, hcell.zero, callee_of (bsel_of (fun _ => ?_) (fun h => by rw [hc] at h; cases h))⟩
  refine (ih l[k] (List.getElem_mem hk) w2 _ hs hE).mono ?_
  rintro _ w5 ⟨rfl, s5⟩
  have ek : (l.map tx)[k]'(by omega) = tx l[k] := List.getElem_map ..
  have hput := hput w5 s5
  rw [ek] at hput
  exact .inl ⟨_, rfl, by omega, by omega, hput⟩
theorem uredir_spec {F : Nat → Prop} {x : Txt × List Pt} {v : Value} (hv : SlAt w F x.2 v) (hl : wtL x.2 < 1000000) (hx : x.1.length ≤ 1000000) : Calls Tryd.prog fn_unparse_redir #[.agg #[.string (S x.1), v]] w (fun e w' => e = .returned (.string (S (prR x))) ∧ Still w w') := by
  obtain ⟨q, d, rfl⟩ := hv.form
  have hp := prL_len x.2
  refine unparse_redir_calls _ _ _ _ _ _ ?_
  refine allocK fun w1 r1 s1 z1 => ?_
  have sD := s1.trans (drew_still w1)
  refine ⟨fun wq => Still w1 wq, drew_still w1, x.1, fun wq hq => (r1.still hq).lget rfl, q, x.2.length, d, fun wq hq => (r1.still hq).lget rfl, (Print_spec (hv.still sD) hl).mono ?_⟩
  rintro _ w2 ⟨rfl, s2⟩
  refine .inl ⟨_, rfl, (drew_still w1).trans s2, allocK fun w3 r3 s3 z3 => ?_⟩
  have hS : Ss w3 w2.heap.size [x.1, prL x.2] (.slice (some ⟨w2.heap.size, 0, none⟩) 2 2) := Ss.made (l := [x.1, prL x.2]) r3 (Nat.le_refl _) (show 2 ≤ 1000000000 by decide)
  have ej : joinT [32] [x.1, prL x.2] = prR x := by simp [joinT, prR]
  have hj := ujoin_spec hS (show 2 ≤ 1000000000 by decide) (by rw [ej]; simp only [prR, List.length_append, List.length_cons, List.length_nil]; omega)
  rw [ej] at hj
  refine hj.mono ?_
  rintro _ w4 ⟨rfl, s4⟩
  exact .inl ⟨_, rfl, rfl, ((sD.trans s2).trans s3).trans s4⟩
theorem uassign_spec {F : Nat → Prop} {x : Txt × List Pt} {v : Value} (hv : SlAt w F x.2 v) (hl : wtL x.2 < 1000000) (hx : x.1.length ≤ 1000000) : Calls Tryd.prog fn_unparse_assign #[.agg #[.string (S x.1), v]] w (fun e w' => e = .returned (.string (S (prA x))) ∧ Still w w') := by
  obtain ⟨q, d, rfl⟩ := hv.form
  have hp := prL_len x.2
  refine unparse_assign_calls _ _ _ _ _ _ ?_
  refine allocK fun w1 r1 s1 z1 => ?_
  have sD := s1.trans (drew_still w1)
  refine ⟨fun wq => Still w1 wq, drew_still w1, x.1, fun wq hq => (r1.still hq).lget rfl, by simp only [List.length_cons, List.length_nil]; omega, q, x.2.length, d, fun wq hq => (r1.still hq).lget rfl, (Print_spec (hv.still sD) hl).mono ?_⟩
  rintro _ w2 ⟨rfl, s2⟩
  exact .inl ⟨_, rfl, (drew_still w1).trans s2, by simp only [List.length_append, List.length_cons, List.length_nil]; omega, rfl, sD.trans s2⟩
def Say (w : World) (t : Txt) (e : Ending) (w' : World) : Prop := e = .returned (.string (S t)) ∧ Still w w'
def KidsOk (fn : FuncId) (x : Nd) : Prop := ∀ y ∈ x.ks, ∀ (w : World) (F : Nat → Prop) (cs : List Value), NdE w F y cs → Calls Tryd.prog fn #[.agg ⟨cs⟩] w (Say w (prN y))
theorem kidT_get {x : Nd} {i : Nat} (h : i < x.ks.length) : kidT (prNs x.ks) i = prN x.ks[i] := by
  rw [kidT, prNs_map, List.getD_eq_getElem?_getD, List.getElem?_map, List.getElem?_eq_getElem h]
  rfl
theorem kidT_none {x : Nd} {i : Nat} (h : x.ks.length ≤ i) : kidT (prNs x.ks) i = [] := by
  rw [kidT, prNs_map, List.getD_eq_getElem?_getD, List.getElem?_map, List.getElem?_eq_none h]
  rfl
theorem kidT_len (x : Nd) (i : Nat) : (kidT (prNs x.ks) i).length ≤ 30 * x.wt := by
  have h1 := getD_len (prNs x.ks) i
  have h2 := prNs_len x.ks
  have h3 := x.wt_eq
  unfold kidT
  omega
theorem ukid_spec {F : Nat → Prop} {x : Nd} {cs : List Value} (hx : NdE w F x cs) (_hl : x.wt ≤ 1000000) (ih : KidsOk fn_unparse_Print x) (i : Nat) : Calls Tryd.prog fn_unparse_kid #[.agg ⟨cs⟩, .int .i64 (i : Int)] w (Say w (kidT (prNs x.ks) i)) := by
  obtain ⟨pw, cw, pa, ca, pr, cr, po, co, pk, ck, rfl, _, _, _, _, hk⟩ := hx.outs
  have hwt := x.wt_eq
  have hnl := wtNs_len x.ks
  refine unparse_kid_calls _ _ _ _ _ _ _ _ _ _ _ _ _ _ _ _ _ _ _ _ _ ?_
  refine allocK fun w1 r1 s1 z1 => ⟨_, _, _, r1.lget rfl, bsel_of (fun h => ?_) (fun h => ?_)⟩
  · rw [kidT_none (by have := of_decide_eq_true h; omega)]
    exact ⟨rfl, s1⟩
  have hi : i < x.ks.length := by have := of_decide_eq_false h; omega
  rw [kidT_get hi]
  obtain ⟨b, cs, rfl, _, hE, hcell⟩ := (hk.still s1).get (List.getElem?_eq_getElem hi)
  have hE : NdE w1 F x.ks[i] cs := hE
  have hcell : CellsAt w1 (b.add (i * 8)) cs := hcell
  obtain ⟨pw', cw', pa', ca', pr', cr', po', co', pk', ck', rfl, _⟩ := hE.outs
  rw [Int.toNat_natCast]
  refine ⟨_, _, _, r1.lget rfl, by omega, by omega, _, _, _, _, _, _, _, _, _, _, _, _, _, _, _, _, _, _, hcell.zero, hcell 1 _ rfl, hcell 2 _ rfl, hcell 3 _ rfl, hcell 4 _ rfl, hcell 5 _ rfl, hcell 6 _ rfl, hcell 7 _ rfl, (ih _ (List.getElem_mem hi) w1 F _ hE).mono ?_⟩
  rintro _ w2 ⟨rfl, s2⟩
  exact .inl ⟨_, rfl, rfl, s1.trans s2⟩
theorem ugroup_spec {F : Nat → Prop} {x : Nd} {cs : List Value} (hx : NdE w F x cs) (hl : x.wt ≤ 1000000) (ih : KidsOk fn_unparse_Print x) : Calls Tryd.prog fn_unparse_group #[.agg ⟨cs⟩] w (Say w ([123, 32] ++ kidT (prNs x.ks) 0 ++ [59, 32, 125])) := by
  have hx' := hx
  obtain ⟨pw, cw, pa, ca, pr, cr, po, co, pk, ck, rfl, _⟩ := hx.outs
  have hkl := kidT_len x 0
  refine unparse_group_calls _ _ _ _ _ _ _ _ _ _ _ _ _ _ _ _ _ _ _ _ ?_
  refine allocK fun w1 r1 s1 z1 => ⟨_, _, _, _, _, _, _, _, _, _, _, _, _, _, _, _, _, _, r1.lget rfl, r1.lget rfl, r1.lget rfl, r1.lget rfl, r1.lget rfl, r1.lget rfl, r1.lget rfl, r1.lget rfl, (ukid_spec (hx'.still s1) hl ih 0).mono ?_⟩
  rintro _ w2 ⟨rfl, s2⟩
  exact .inl ⟨_, rfl, by simp only [List.length_cons, List.length_nil]; omega, by simp only [List.length_append, List.length_cons, List.length_nil]; omega, rfl, s1.trans s2⟩
theorem usub_spec {F : Nat → Prop} {x : Nd} {cs : List Value} (hx : NdE w F x cs) (hl : x.wt ≤ 1000000) (ih : KidsOk fn_unparse_Print x) : Calls Tryd.prog fn_unparse_sub #[.agg ⟨cs⟩] w (Say w ([40, 32] ++ kidT (prNs x.ks) 0 ++ [32, 41])) := by
  have hx' := hx
  obtain ⟨pw, cw, pa, ca, pr, cr, po, co, pk, ck, rfl, _⟩ := hx.outs
  have hkl := kidT_len x 0
  refine unparse_sub_calls _ _ _ _ _ _ _ _ _ _ _ _ _ _ _ _ _ _ _ _ ?_
  refine allocK fun w1 r1 s1 z1 => ⟨_, _, _, _, _, _, _, _, _, _, _, _, _, _, _, _, _, _, r1.lget rfl, r1.lget rfl, r1.lget rfl, r1.lget rfl, r1.lget rfl, r1.lget rfl, r1.lget rfl, r1.lget rfl, (ukid_spec (hx'.still s1) hl ih 0).mono ?_⟩
  rintro _ w2 ⟨rfl, s2⟩
  exact .inl ⟨_, rfl, by simp only [List.length_cons, List.length_nil]; omega, by simp only [List.length_append, List.length_cons, List.length_nil]; omega, rfl, s1.trans s2⟩
theorem ufunction_spec {F : Nat → Prop} {x : Nd} {cs : List Value} (hx : NdE w F x cs) (hl : x.wt ≤ 1000000) (ih : KidsOk fn_unparse_Print x) : Calls Tryd.prog fn_unparse_function #[.agg ⟨cs⟩] w (Say w (x.nm ++ [40, 41, 32] ++ kidT (prNs x.ks) 0)) := by
  have hx' := hx
  obtain ⟨pw, cw, pa, ca, pr, cr, po, co, pk, ck, rfl, _⟩ := hx.outs
  have hkl := kidT_len x 0
  have hwt := x.wt_eq
  refine unparse_function_calls _ _ _ _ _ _ _ _ _ _ _ _ _ _ _ _ _ _ _ _ ?_
  refine allocK fun w1 r1 s1 z1 => ?_
  have sD := drew_still w1
  refine ⟨fun wq => Still w1 wq, sD, x.nm, fun wq hq => (r1.still hq).lget rfl, by simp only [List.length_cons, List.length_nil]; omega, _, _, _, _, _, _, _, _, _, _, _, _, _, _, _, _, _, _, fun wq hq => (r1.still hq).lget rfl, fun wq hq => (r1.still hq).lget rfl, fun wq hq => (r1.still hq).lget rfl, fun wq hq => (r1.still hq).lget rfl, fun wq hq => (r1.still hq).lget rfl, fun wq hq => (r1.still hq).lget rfl, fun wq hq => (r1.still hq).lget rfl, fun wq hq => (r1.still hq).lget rfl, (ukid_spec (hx'.still (s1.trans sD)) hl ih 0).mono ?_⟩
  rintro _ w2 ⟨rfl, s2⟩
  exact .inl ⟨_, rfl, sD.trans s2, by simp only [List.length_append, List.length_cons, List.length_nil]; omega, rfl, (s1.trans sD).trans s2⟩
theorem callable_print : callable Tryd.prog fn_unparse_Print = true := by kernel_rfl
theorem kids_told {F : Nat → Prop} {x : Nd} {p : Option Addr} {c : Nat} (hk : ndE.At w F x.ks (.slice p x.ks.length c)) (hl : x.wt ≤ 1000000) (ih : KidsOk fn_unparse_Print x) : Calls Tryd.prog 44 #[.slice p x.ks.length c, .func (.func fn_unparse_Print) #[] #[]] w (Told w (prNs x.ks)) := by
  rw [prNs_map]
  have hwt := x.wt_eq
  have hnl := wtNs_len x.ks
  exact eachN_of hk (by omega) callable_print prN fun y hy w1 cs _ hE => ih y hy w1 F cs hE
theorem joinK_len (x : Nd) (sep : Txt) (hs : sep.length ≤ 4) : (joinT sep (prNs x.ks)).length ≤ 30 * x.wt := by
  have h1 := joinT_len sep hs (prNs x.ks)
  have h2 := prNs_len x.ks
  have h3 := x.wt_eq
  omega
theorem prNs_length (l : List Nd) : (prNs l).length = l.length := by rw [prNs_map, List.length_map]
theorem ulist_spec {F : Nat → Prop} {x : Nd} {cs : List Value} (hx : NdE w F x cs) (hl : x.wt ≤ 1000000) (ih : KidsOk fn_unparse_Print x) : Calls Tryd.prog fn_unparse_list #[.agg ⟨cs⟩] w (Say w (joinT [59, 32] (prNs x.ks))) := by
  obtain ⟨pw, cw, pa, ca, pr, cr, po, co, pk, ck, rfl, _, _, _, _, hk⟩ := hx.outs
  have hj := joinK_len x [59, 32] (by decide)
  have hpl := prNs_length x.ks
  have hwt := x.wt_eq
  have hnl := wtNs_len x.ks
  refine unparse_list_calls _ _ _ _ _ _ _ _ _ _ _ _ _ _ _ _ _ _ _ _ ?_
  refine allocK fun w1 r1 s1 z1 => ⟨_, _, _, r1.lget rfl, (kids_told (hk.still s1) hl ih).mono ?_⟩
  rintro _ w2 ⟨p, c, rfl, hS, s2⟩
  refine .inl ⟨_, _, _, rfl, (sjoin_spec hS [59, 32] (by omega) (by omega)).mono ?_⟩
  rintro _ w3 ⟨rfl, s3⟩
  exact .inl ⟨_, rfl, rfl, (s1.trans s2).trans s3⟩
theorem upipe_spec {F : Nat → Prop} {x : Nd} {cs : List Value} (hx : NdE w F x cs) (hl : x.wt ≤ 1000000) (ih : KidsOk fn_unparse_Print x) : Calls Tryd.prog fn_unparse_pipe #[.agg ⟨cs⟩] w (Say w ((if x.neg = true then [33, 32] else []) ++ joinT [32, 124, 32] (prNs x.ks))) := by
  obtain ⟨pw, cw, pa, ca, pr, cr, po, co, pk, ck, rfl, _, _, _, _, hk⟩ := hx.outs
  have hj := joinK_len x [32, 124, 32] (by decide)
  have hpl := prNs_length x.ks
  have hwt := x.wt_eq
  have hnl := wtNs_len x.ks
  refine unparse_pipe_calls _ _ _ _ _ _ _ _ _ _ _ _ _ _ _ _ _ _ _ _ ?_
  refine allocK fun w1 r1 s1 z1 => ⟨_, _, _, r1.lget rfl, (kids_told (hk.still s1) hl ih).mono ?_⟩
  rintro _ w2 ⟨p, c, rfl, hS, s2⟩
  refine .inl ⟨_, _, _, rfl, (sjoin_spec hS [32, 124, 32] (by omega) (by omega)).mono ?_⟩
  rintro _ w3 ⟨rfl, s3⟩
  have s03 := (s1.trans s2).trans s3
  refine .inl ⟨_, rfl, x.neg, ((r1.still s2).still s3).lget rfl, bsel_of (fun h => ?_) (fun h => ?_)⟩
  · rw [if_pos h]
    exact ⟨by simp only [List.length_cons, List.length_nil]; omega, rfl, s03⟩
  · rw [if_neg (by rw [h]; decide)]
    exact ⟨rfl, s03⟩
theorem Ss.app {w0 : World} {B n m : Nat} {l k : List Txt} {p q : Option Addr} {c : Nat} {K : Option Addr → Nat → World → Prop} (h : Ss w B l (.slice p n c)) (h0 : Still w0 w) (hB0 : w0.heap.size ≤ B) (hB : B ≤ w.heap.size) (hk : StrsAt w q m k) (hs : n + m ≤ 1000000000)
    (hK : ∀ p' c' w', Ss w' B (l ++ k) (.slice p' (n + m) c') → Still w0 w' → w.heap.size ≤ w'.heap.size → K p' c' w') : appK w 9 1 16 p n c q m K := by
  obtain ⟨p', c', he, ho⟩ := h
  injection he with e1 e2 e3
  subst e1 e2 e3
  refine appK_push ho hB (strs k) (by rw [strs_length, hk.1, Nat.mul_one]) (strs_one k) (fun hm => hk.2 hm) (by omega) (by omega) fun p' c' w' ho' hm _ => ?_
  have hz := hm.size
  refine hK p' c' w' ⟨p', c', by rw [List.length_append, hk.1], ?_⟩ (h0.own ho hB0 hm) hz
  rw [strs_append, List.length_append, hk.1]
  exact ho'
theorem Ss.strs {B n : Nat} {l : List Txt} {p : Option Addr} {c : Nat} (h : Ss w B l (.slice p n c)) : StrsAt w p n l := by
  obtain ⟨p', c', he, ho⟩ := h
  injection he with e1 e2 e3
  subst e1 e2 e3
  exact StrsAt.of ho
theorem ujoin_of {B n : Nat} {l : List Txt} {p : Option Addr} {c : Nat} (h : Ss w B l (.slice p n c)) (hl : n ≤ 1000000000) (hj : (joinT [32] l).length ≤ 140737488355328) :
    Calls Tryd.prog fn_unparse_join #[.slice p n c] w (Say w (joinT [32] l)) := by
  have h' := h
  obtain ⟨p', c', he, ho⟩ := h'
  injection he with e1 e2 e3
  subst e1 e2 e3
  exact ujoin_spec h hl hj
theorem callable_word : callable Tryd.prog fn_word_Print = true := by kernel_rfl
theorem callable_redir : callable Tryd.prog fn_unparse_redir = true := by kernel_rfl
theorem callable_assign : callable Tryd.prog fn_unparse_assign = true := by kernel_rfl
theorem words_told {F : Nat → Prop} {l : List (List Pt)} {p : Option Addr} {n c : Nat} (hw : wsE.At w F l (.slice p n c)) (hl : wtW l < 1000000) : Calls Tryd.prog 41 #[.slice p n c, .func (.func fn_word_Print) #[] #[]] w (Told w (l.map prL)) := by
  have := wtW_len l
  exact eachW_of hw (by omega) callable_word prL fun x hx w1 v _ hE => Print_spec hE (by have := wtW_mem hx; omega)
theorem redirs_told {F : Nat → Prop} {l : List (Txt × List Pt)} {p : Option Addr} {n c : Nat} (hw : nsE.At w F l (.slice p n c)) (hl : wtP l < 1000000) : Calls Tryd.prog 27 #[.slice p n c, .func (.func fn_unparse_redir) #[] #[]] w (Told w (l.map prR)) := by
  have := wtP_len l
  exact eachR_of hw (by omega) callable_redir prR fun x hx w1 v _ hE => by have := wtP_mem hx; exact uredir_spec hE (by omega) (by omega)
theorem assigns_told {F : Nat → Prop} {l : List (Txt × List Pt)} {p : Option Addr} {n c : Nat} (hw : nsE.At w F l (.slice p n c)) (hl : wtP l < 1000000) : Calls Tryd.prog 39 #[.slice p n c, .func (.func fn_unparse_assign) #[] #[]] w (Told w (l.map prA)) := by
  have := wtP_len l
  exact eachA_of hw (by omega) callable_assign prA fun x hx w1 v _ hE => by have := wtP_mem hx; exact uassign_spec hE (by omega) (by omega)
theorem usimple_spec {F : Nat → Prop} {x : Nd} {cs : List Value} (hx : NdE w F x cs) (hl : x.wt ≤ 1000000) : Calls Tryd.prog fn_unparse_simple #[.agg ⟨cs⟩] w (Say w (joinT [32] (x.rs.map prR ++ x.as.map prA ++ x.ws.map prL))) := by
  obtain ⟨pw, cw, pa, ca, pr, cr, po, co, pk, ck, rfl, hw, ha, hr, _, _⟩ := hx.outs
  have hwt := x.wt_eq
  have l1 := wtW_len x.ws
  have l2 := wtP_len x.as
  have l3 := wtP_len x.rs
  have m1 := lenT_words x.ws
  have m2 := lenT_asgs x.as
  have m3 := lenT_reds x.rs
  have hj := joinT_len [32] (by decide) (x.rs.map prR ++ x.as.map prA ++ x.ws.map prL)
  rw [lenT_append, lenT_append] at hj
  have g1 : (x.ws.map prL).length = x.ws.length := List.length_map ..
  have g2 : (x.as.map prA).length = x.as.length := List.length_map ..
  have g3 : (x.rs.map prR).length = x.rs.length := List.length_map ..
  refine unparse_simple_calls _ _ _ _ _ _ _ _ _ _ _ _ _ _ _ _ _ _ _ _ ?_
  refine allocK fun w1 r1 s1 z1 => ⟨_, _, _, r1.lget rfl, (redirs_told (hr.still s1) (by omega)).mono ?_⟩
  rintro _ w2 ⟨p1, c1, rfl, hS1, s2⟩
  refine .inl ⟨_, _, _, rfl, _, _, _, (r1.still s2).lget rfl, (assigns_told ((ha.still s1).still s2) (by omega)).mono ?_⟩
  rintro _ w3 ⟨p2, c2, rfl, hS2, s3⟩
  refine .inl ⟨_, _, _, rfl, (hS1.still s3).app (s2.trans s3) (Nat.le_refl _) (by have := s2.size; have := s3.size; omega) hS2.strs (by omega) fun p3 c3 w4 hS4 s4 z4 => ?_⟩
  refine ⟨_, _, _, (r1.still s4).lget rfl, (words_told ((hw.still s1).still s4) (by omega)).mono ?_⟩
  rintro _ w5 ⟨p5, c5, rfl, hS5, s5⟩
  refine .inl ⟨_, _, _, rfl, (hS4.still s5).app (s4.trans s5) (Nat.le_refl _) (by have := s4.size; have := s5.size; omega) hS5.strs (by omega) fun p6 c6 w6 hS6 s6 z6 => ?_⟩
  refine (ujoin_of hS6 (by omega) (by omega)).mono ?_
  rintro _ w7 ⟨rfl, s7⟩
  exact .inl ⟨_, rfl, rfl, (s1.trans s6).trans s7⟩
theorem uloop_spec {F : Nat → Prop} {x : Nd} {cs : List Value} (hx : NdE w F x cs) (hl : x.wt ≤ 1000000) (ih : KidsOk fn_unparse_Print x) : Calls Tryd.prog fn_unparse_loop #[.agg ⟨cs⟩] w (Say w (x.nm ++ [32] ++ kidT (prNs x.ks) 0 ++ [59, 32, 100, 111, 32] ++ kidT (prNs x.ks) 1 ++ [59, 32, 100, 111, 110, 101])) := by
  have hx' := hx
  obtain ⟨pw, cw, pa, ca, pr, cr, po, co, pk, ck, rfl, _⟩ := hx.outs
  have hkl := kidT_len x 0
  have hkl1 := kidT_len x 1
  have hwt := x.wt_eq
  refine unparse_loop_calls _ _ _ _ _ _ _ _ _ _ _ _ _ _ _ _ _ _ _ _ ?_
  refine allocK fun w1 r1 s1 z1 => ?_
  have sD := drew_still w1
  refine ⟨fun wq => Still w1 wq, sD, x.nm, fun wq hq => (r1.still hq).lget rfl, by simp only [List.length_cons, List.length_nil]; omega, _, _, _, _, _, _, _, _, _, _, _, _, _, _, _, _, _, _, fun wq hq => (r1.still hq).lget rfl, fun wq hq => (r1.still hq).lget rfl, fun wq hq => (r1.still hq).lget rfl, fun wq hq => (r1.still hq).lget rfl, fun wq hq => (r1.still hq).lget rfl, fun wq hq => (r1.still hq).lget rfl, fun wq hq => (r1.still hq).lget rfl, fun wq hq => (r1.still hq).lget rfl, _, _, _, _, _, _, _, _, _, _, _, _, _, _, _, _, _, _, fun wq hq => (r1.still hq).lget rfl, fun wq hq => (r1.still hq).lget rfl, fun wq hq => (r1.still hq).lget rfl, fun wq hq => (r1.still hq).lget rfl, fun wq hq => (r1.still hq).lget rfl, fun wq hq => (r1.still hq).lget rfl, fun wq hq => (r1.still hq).lget rfl, fun wq hq => (r1.still hq).lget rfl, (ukid_spec (hx'.still (s1.trans sD)) hl ih 0).mono ?_⟩
  rintro _ w2 ⟨rfl, s2⟩
  refine .inl ⟨_, rfl, sD.trans s2, by simp only [List.length_append, List.length_cons, List.length_nil]; omega, by simp only [List.length_append, List.length_cons, List.length_nil]; omega, (ukid_spec ((hx'.still (s1.trans sD)).still s2) hl ih 1).mono ?_⟩
  rintro _ w3 ⟨rfl, s3⟩
  exact .inl ⟨_, rfl, (sD.trans s2).trans s3, by simp only [List.length_append, List.length_cons, List.length_nil]; omega, by simp only [List.length_append, List.length_cons, List.length_nil]; omega, rfl, ((s1.trans sD).trans s2).trans s3⟩
theorem uchoice_spec {F : Nat → Prop} {x : Nd} {cs : List Value} (hx : NdE w F x cs) (hl : x.wt ≤ 1000000) (ih : KidsOk fn_unparse_Print x) : Calls Tryd.prog fn_unparse_choice #[.agg ⟨cs⟩] w (Say w ([105, 102, 32] ++ kidT (prNs x.ks) 0 ++ [59, 32, 116, 104, 101, 110, 32] ++ kidT (prNs x.ks) 1 ++ (if 2 < (prNs x.ks).length then [59, 32, 101, 108, 115, 101, 32] ++ kidT (prNs x.ks) 2 else []) ++ [59, 32, 102, 105])) := by
  have hx' := hx
  obtain ⟨pw, cw, pa, ca, pr, cr, po, co, pk, ck, rfl, _⟩ := hx.outs
  have hkl := kidT_len x 0
  have hkl1 := kidT_len x 1
  have hkl2 := kidT_len x 2
  have hpl := prNs_length x.ks
  refine unparse_choice_calls _ _ _ _ _ _ _ _ _ _ _ _ _ _ _ _ _ _ _ _ ?_
  refine allocK fun w1 r1 s1 z1 => ?_
  have sD := drew_still w1
  refine ⟨fun wq => Still w1 wq, sD, _, _, _, _, _, _, _, _, _, _, _, _, _, _, _, _, _, _, fun wq hq => (r1.still hq).lget rfl, fun wq hq => (r1.still hq).lget rfl, fun wq hq => (r1.still hq).lget rfl, fun wq hq => (r1.still hq).lget rfl, fun wq hq => (r1.still hq).lget rfl, fun wq hq => (r1.still hq).lget rfl, fun wq hq => (r1.still hq).lget rfl, fun wq hq => (r1.still hq).lget rfl, _, _, _, _, _, _, _, _, _, _, _, _, _, _, _, _, _, _, fun wq hq => (r1.still hq).lget rfl, fun wq hq => (r1.still hq).lget rfl, fun wq hq => (r1.still hq).lget rfl, fun wq hq => (r1.still hq).lget rfl, fun wq hq => (r1.still hq).lget rfl, fun wq hq => (r1.still hq).lget rfl, fun wq hq => (r1.still hq).lget rfl, fun wq hq => (r1.still hq).lget rfl, (ukid_spec (hx'.still (s1.trans sD)) hl ih 0).mono ?_⟩
  rintro _ w2 ⟨rfl, s2⟩
  have s02 := (s1.trans sD).trans s2
  refine .inl ⟨_, rfl, sD.trans s2, by simp only [List.length_cons, List.length_nil]; omega, by simp only [List.length_append, List.length_cons, List.length_nil]; omega, (ukid_spec (hx'.still s02) hl ih 1).mono ?_⟩
  rintro _ w3 ⟨rfl, s3⟩
  have s03 := s02.trans s3
  have r3 := ((r1.still sD).still s2).still s3
  refine .inl ⟨_, rfl, by simp only [List.length_append, List.length_cons, List.length_nil]; omega, _, _, _, r3.lget rfl, bsel_of (fun h => ?_) (fun h => ?_)⟩
  · rw [if_pos (by have := of_decide_eq_true h; omega)]
    refine ⟨_, _, _, _, _, _, _, _, _, _, _, _, _, _, _, _, _, _, r3.lget rfl, r3.lget rfl, r3.lget rfl, r3.lget rfl, r3.lget rfl, r3.lget rfl, r3.lget rfl, r3.lget rfl, (ukid_spec (hx'.still s03) hl ih 2).mono ?_⟩
    rintro _ w4 ⟨rfl, s4⟩
    exact .inl ⟨_, rfl, by simp only [List.length_cons, List.length_nil]; omega, by simp only [List.length_append, List.length_cons, List.length_nil]; omega, by simp only [List.length_append, List.length_cons, List.length_nil]; omega, rfl, s03.trans s4⟩
  · rw [if_neg (by have := of_decide_eq_false h; omega), List.append_nil]
    exact ⟨by simp only [List.length_append, List.length_cons, List.length_nil]; omega, rfl, s03⟩
theorem uitem_spec {F : Nat → Prop} {x : Nd} {cs : List Value} (hx : NdE w F x cs) (hl : x.wt ≤ 1000000) (ih : KidsOk fn_unparse_Print x) : Calls Tryd.prog fn_unparse_item #[.agg ⟨cs⟩] w (Say w ([40, 32] ++ joinT [32, 124, 32] (x.ws.map prL) ++ [32, 41, 32] ++ kidT (prNs x.ks) 0 ++ [59, 59])) := by
  have hx' := hx
  obtain ⟨pw, cw, pa, ca, pr, cr, po, co, pk, ck, rfl, hw, _⟩ := hx.outs
  have hkl := kidT_len x 0
  have hwt := x.wt_eq
  have l1 := wtW_len x.ws
  have m1 := lenT_words x.ws
  have g1 : (x.ws.map prL).length = x.ws.length := List.length_map ..
  have hj := joinT_len [32, 124, 32] (by decide) (x.ws.map prL)
  refine unparse_item_calls _ _ _ _ _ _ _ _ _ _ _ _ _ _ _ _ _ _ _ _ ?_
  refine allocK fun w1 r1 s1 z1 => ?_
  have sD := drew_still w1
  refine ⟨fun wq => Still w1 wq, sD, _, _, _, fun wq hq => (r1.still hq).lget rfl, _, _, _, _, _, _, _, _, _, _, _, _, _, _, _, _, _, _, fun wq hq => (r1.still hq).lget rfl, fun wq hq => (r1.still hq).lget rfl, fun wq hq => (r1.still hq).lget rfl, fun wq hq => (r1.still hq).lget rfl, fun wq hq => (r1.still hq).lget rfl, fun wq hq => (r1.still hq).lget rfl, fun wq hq => (r1.still hq).lget rfl, fun wq hq => (r1.still hq).lget rfl, (words_told (hw.still (s1.trans sD)) (by omega)).mono ?_⟩
  rintro _ w2 ⟨p2, c2, rfl, hS2, s2⟩
  refine .inl ⟨_, _, _, rfl, sD.trans s2, (sjoin_spec hS2 [32, 124, 32] (by omega) (by omega)).mono ?_⟩
  rintro _ w3 ⟨rfl, s3⟩
  have s03 := ((s1.trans sD).trans s2).trans s3
  refine .inl ⟨_, rfl, (sD.trans s2).trans s3, by simp only [List.length_cons, List.length_nil]; omega, by simp only [List.length_append, List.length_cons, List.length_nil]; omega, (ukid_spec (hx'.still s03) hl ih 0).mono ?_⟩
  rintro _ w4 ⟨rfl, s4⟩
  exact .inl ⟨_, rfl, by simp only [List.length_append, List.length_cons, List.length_nil]; omega, by simp only [List.length_append, List.length_cons, List.length_nil]; omega, rfl, s03.trans s4⟩
theorem uforEach_spec {F : Nat → Prop} {x : Nd} {cs : List Value} (hx : NdE w F x cs) (hl : x.wt ≤ 1000000) (ih : KidsOk fn_unparse_Print x) : Calls Tryd.prog fn_unparse_forEach #[.agg ⟨cs⟩] w (Say w ([102, 111, 114, 32] ++ x.nm ++ (if x.os = [] then [] else joinT [32] ([32, 105, 110] :: x.ws.map prL)) ++ [59, 32, 100, 111, 32] ++ kidT (prNs x.ks) 0 ++ [59, 32, 100, 111, 110, 101])) := by
  have hx' := hx
  obtain ⟨pw, cw, pa, ca, pr, cr, po, co, pk, ck, rfl, hw, _⟩ := hx.outs
  have hkl := kidT_len x 0
  have hwt := x.wt_eq
  have l1 := wtW_len x.ws
  have m1 := lenT_words x.ws
  have g1 : (x.ws.map prL).length = x.ws.length := List.length_map ..
  have hj := joinT_len [32] (by decide) ([32, 105, 110] :: x.ws.map prL)
  simp only [lenT, List.length_cons, List.length_nil] at hj
  refine unparse_forEach_calls _ _ _ _ _ _ _ _ _ _ _ _ _ _ _ _ _ _ _ _ ?_
  refine allocK fun w1 r1 s1 z1 => ⟨x.nm, r1.lget rfl, by simp only [List.length_cons, List.length_nil]; omega, fun s w6 => s = [102, 111, 114, 32] ++ x.nm ++ (if x.os = [] then [] else joinT [32] ([32, 105, 110] :: x.ws.map prL)) ∧ s.length ≤ 40000000 ∧ Still w1 w6, ⟨_, _, _, r1.lget rfl, bsel_of (fun h => ?_) (fun h => ?_)⟩, ?_⟩
  · have h0 : ¬ x.os = [] := fun e => by rw [e] at h; cases of_decide_eq_true h
    refine allocK fun w2 r2 s2 z2 => ⟨_, _, _, (r1.still s2).lget rfl, (words_told ((hw.still s1).still s2) (by omega)).mono ?_⟩
    have hI : Ss w2 w1.heap.size [[32, 105, 110]] (.slice (some ⟨w1.heap.size, 0, none⟩) 1 1) := Ss.made (l := [[32, 105, 110]]) r2 (Nat.le_refl _) (show 1 ≤ 1000000000 by decide)
    rintro _ w3 ⟨p3, c3, rfl, hS3, s3⟩
    refine .inl ⟨_, _, _, rfl, (hI.still s3).app (s2.trans s3) (Nat.le_refl _) (by have := s3.size; omega) hS3.strs (by omega) fun p4 c4 w4 hS4 s4 z4 => ?_⟩
    refine (ujoin_of hS4 (by omega) (by show (joinT [32] ([32, 105, 110] :: x.ws.map prL)).length ≤ _; omega)).mono ?_
    rintro _ w5 ⟨rfl, s5⟩
    refine .inl ⟨_, rfl, ?_, ?_, ?_, s4.trans s5⟩
    · show _ + (joinT [32] ([32, 105, 110] :: x.ws.map prL)).length ≤ _
      simp only [List.length_append, List.length_cons, List.length_nil]; omega
    · rw [if_neg h0]; rfl
    · show ([102, 111, 114, 32] ++ x.nm ++ joinT [32] ([32, 105, 110] :: x.ws.map prL) : Txt).length ≤ _
      simp only [List.length_append, List.length_cons, List.length_nil]; omega
  · have h0 : x.os = [] := by
      have := of_decide_eq_false h
      exact List.length_eq_zero_iff.1 (by omega)
    exact ⟨by rw [if_pos h0, List.append_nil], by simp only [List.length_append, List.length_cons, List.length_nil]; omega, Still.refl _⟩
  rintro s _ w6 ⟨hs, hsl, s6⟩
  have r6 := r1.still s6
  refine ⟨by simp only [List.length_cons, List.length_nil]; omega, _, _, _, _, _, _, _, _, _, _, _, _, _, _, _, _, _, _, r6.lget rfl, r6.lget rfl, r6.lget rfl, r6.lget rfl, r6.lget rfl, r6.lget rfl, r6.lget rfl, r6.lget rfl, (ukid_spec ((hx'.still s1).still s6) hl ih 0).mono ?_⟩
  rintro _ w7 ⟨rfl, s7⟩
  exact .inl ⟨_, rfl, by simp only [List.length_append, List.length_cons, List.length_nil]; omega, by simp only [List.length_append, List.length_cons, List.length_nil]; omega, by rw [hs], (s1.trans s6).trans s7⟩
theorem cases_join (W0 : Txt) (K : List Txt) : joinT [32] ([[99, 97, 115, 101], W0, [105, 110]] ++ K ++ [[101, 115, 97, 99]]) = [99, 97, 115, 101, 32] ++ W0 ++ [32, 105, 110, 32] ++ joinT [32] (K ++ [[101, 115, 97, 99]]) := by
  rw [List.append_assoc]
  show joinT [32] ([99, 97, 115, 101] :: W0 :: [105, 110] :: (K ++ [[101, 115, 97, 99]])) = _
  cases K with
  | nil => simp [joinT]
  | cons k r => simp [joinT]
theorem ucases_spec {F : Nat → Prop} {x : Nd} {cs : List Value} (hx : NdE w F x cs) (hl : x.wt ≤ 1000000) (ih : KidsOk fn_unparse_Print x) : Calls Tryd.prog fn_unparse_cases #[.agg ⟨cs⟩] w (Say w ([99, 97, 115, 101, 32] ++ (x.ws.map prL).getD 0 [] ++ [32, 105, 110, 32] ++ joinT [32] (prNs x.ks ++ [[101, 115, 97, 99]]))) := by
  obtain ⟨pw, cw, pa, ca, pr, cr, po, co, pk, ck, rfl, hw, _, _, _, hk⟩ := hx.outs
  have hwt := x.wt_eq
  have hnl := wtNs_len x.ks
  have hpl := prNs_length x.ks
  have l1 := wtW_len x.ws
  have m1 := lenT_words x.ws
  have hW0 := getD_len (x.ws.map prL) 0
  have hpk := prNs_len x.ks
  have hj := joinT_len [32] (by decide) ([[99, 97, 115, 101], (x.ws.map prL).getD 0 [], [105, 110]] ++ prNs x.ks ++ [[101, 115, 97, 99]])
  rw [lenT_append, lenT_append] at hj
  simp only [lenT, List.length_cons, List.length_nil] at hj
  rw [← cases_join]
  refine unparse_cases_calls _ _ _ _ _ _ _ _ _ _ _ _ _ _ _ _ _ _ _ _ ?_
  refine allocK fun w1 r1 s1 z1 => allocK fun w2 r2 s2 z2 => ?_
  refine ⟨fun w5 => Row w5 w1.heap.size 9 ⟨strs [[99, 97, 115, 101], (x.ws.map prL).getD 0 [], [105, 110]]⟩ ∧ Still w1 w5, ⟨_, _, _, (r1.still s2).lget rfl, bsel_of (fun h => ?_) (fun h => ?_)⟩, ?_⟩
  · have hi : 0 < x.ws.length := by have := of_decide_eq_true h; omega
    obtain ⟨b, cs, rfl, _, ⟨v, rfl, hE⟩, hcell⟩ := ((hw.still s1).still s2).get (List.getElem?_eq_getElem hi)
    obtain ⟨q, d, rfl⟩ := hE.form
    have hcell : CellsAt w2 (b.add (0 * 1)) _ := hcell
    have hm := wtW_mem (List.getElem_mem hi)
    have e0 : (x.ws.map prL).getD 0 [] = prL x.ws[0] := by
      rw [List.getD_eq_getElem?_getD, List.getElem?_map, List.getElem?_eq_getElem hi]
      rfl
    refine ⟨_, _, _, (r1.still s2).lget rfl, by omega, by omega, _, _, _, hcell.zero, (Print_spec hE (by omega)).mono ?_⟩
    rintro _ w3 ⟨rfl, s3⟩
    refine .inl ⟨_, rfl, by omega, by omega, ?_⟩
    rw [add_row, show 0 + Int.toNat 1 * 1 = 1 from rfl]
    refine stK (r2.still s3) (by show 1 + 1 ≤ 3; decide) (by simp [Value.oneCell']) fun w4 r4 m4 z4 => ⟨?_, Mod.trans (s2.trans s3) m4 (fun _ h => h) (fun i hi e => by omega)⟩
    rw [e0]
    exact r4
  · have h0 : x.ws = [] := by
      have := of_decide_eq_false h
      exact List.length_eq_zero_iff.1 (by omega)
    refine ⟨?_, s2⟩
    rw [h0]
    exact r2
  rintro _ w5 ⟨r5, s5⟩
  refine ⟨_, _, _, (r1.still s5).lget rfl, (kids_told ((hk.still s1).still s5) hl ih).mono ?_⟩
  have hI : Ss w5 w1.heap.size [[99, 97, 115, 101], (x.ws.map prL).getD 0 [], [105, 110]] (.slice (some ⟨w1.heap.size, 0, none⟩) 3 3) := Ss.made (l := [[99, 97, 115, 101], (x.ws.map prL).getD 0 [], [105, 110]]) r5 (Nat.le_refl _) (show 3 ≤ 1000000000 by decide)
  rintro _ w6 ⟨p6, c6, rfl, hS6, s6⟩
  refine .inl ⟨_, _, _, rfl, (hI.still s6).app (s5.trans s6) (Nat.le_refl _) (by have := s5.size; have := s6.size; omega) hS6.strs (by omega) fun p7 c7 w7 hS7 s7 z7 => ?_⟩
  refine allocK fun w8 r8 s8 z8 => ?_
  have hE8 : StrsAt w8 (some ⟨w7.heap.size, 0, none⟩) 1 [[101, 115, 97, 99]] := StrsAt.row (l := [[101, 115, 97, 99]]) r8
  refine (hS7.still s8).app (s7.trans s8) (Nat.le_refl _) (by have := s7.size; omega) hE8 (by omega) fun p9 c9 w9 hS9 s9 z9 => ?_
  refine (ujoin_of hS9 (by omega) (by omega)).mono ?_
  rintro _ w10 ⟨rfl, s10⟩
  exact .inl ⟨_, rfl, rfl, (s1.trans s9).trans s10⟩
theorem Bd.write2 {g B gr : Nat} {t : TypeId} {cs : Array Value} {bs : Txt} (h : Bd w g B bs) (s : Txt) (hB : B ≤ w.heap.size) (hs : bs.length + s.length ≤ 140737488355328) {w0 : World} (h0 : Still w0 w) (hg : w0.heap.size ≤ g) (hB0 : w0.heap.size ≤ B) (hr : Row w gr t cs) (hgr : gr ≠ g) (ht : t ≠ 5) :
    Calls Tryd.prog fn_strings_Builder_WriteString #[.pointer (some ⟨g, 0, none⟩), .string (S s)] w (fun e w' => e = .returned (.tuple #[.int .i64 (s.length : Int), .nilIface]) ∧ Bd w' g B (bs ++ s) ∧ Still w0 w' ∧ w.heap.size ≤ w'.heap.size ∧ Row w' gr t cs) := by
  obtain ⟨cs', v, h1, h2⟩ := h
  have hl : LiesB 73 cs'.length 0 := by rw [h1]; exact liesB_own
  refine (writeString_spec h2 hl s hB hs).mono ?_
  rintro _ w' ⟨rfl, v', h3, h4⟩
  refine ⟨rfl, ⟨_, v', by simp [h1], h3⟩, Mod.trans h0 h4 (fun _ h => h) (fun k hk e => ?_), h4.size, hr.mod h4 fun e => ?_⟩
  · rcases e with e | e
    · omega
    · have := (h2.own.lt k e).1; omega
  · rcases e with e | e
    · exact hgr e
    · obtain ⟨cur, hc⟩ := h2.own.typed e
      exact hr.ne hc ht rfl
theorem chain_take {os P : List Txt} {k : Nat} (hk : k < P.length) : chainT os (P.take (k + 1)) = chainT os (P.take k) ++ (if 0 < k then [32] ++ os.getD (k - 1) [] ++ [32] else []) ++ P[k] := by
  cases P with
  | nil => cases hk
  | cons x r =>
    cases k with
    | zero => simp [chainT]
    | succ k =>
      have hk' : k < r.length := by simpa using hk
      have e : (r.take (k + 1)).zipIdx = (r.take k).zipIdx ++ [(r[k], k)] := by
        rw [take_snoc hk', List.zipIdx_append]
        simp [Nat.min_eq_left (Nat.le_of_lt hk')]
      rw [List.take_succ_cons, List.take_succ_cons, if_pos (Nat.succ_pos k)]
      simp only [chainT, e, List.flatMap_append]
      simp
theorem uandOr_spec {F : Nat → Prop} {x : Nd} {cs : List Value} (hx : NdE w F x cs) (hl : x.wt ≤ 1000000) (ih : KidsOk fn_unparse_Print x) : Calls Tryd.prog fn_unparse_andOr #[.agg ⟨cs⟩] w (Say w (chainT x.os (prNs x.ks))) := by
  obtain ⟨pw, cw, pa, ca, pr, cr, po, co, pk, ck, rfl, _, _, _, ho, hk⟩ := hx.outs
  have hwt := x.wt_eq
  have hnl := wtNs_len x.ks
  have hol := wtO_len x.os
  have hpl := prNs_length x.ks
  have hpk := prNs_len x.ks
  have hlo := lenT_ops x.os
  refine unparse_andOr_calls _ _ _ _ _ _ _ _ _ _ _ _ _ _ _ _ _ _ _ _ ?_
  refine allocK fun w1 r1 s1 z1 => allocK fun w2 r2 s2 z2 => ?_
  have hb0 : Bd w2 w1.heap.size (w1.heap.size + 1) [] := ⟨_, _, rfl, BldAt.fresh r2 rfl rfl⟩
  refine ⟨_, _, _, (r1.still s2).lget rfl, fun x' w3 => ∃ k : Nat, x' = (k : Int) ∧ k ≤ x.ks.length ∧ Bd w3 w1.heap.size (w1.heap.size + 1) (chainT x.os ((prNs x.ks).take k)) ∧ Still w1 w3 ∧ w2.heap.size ≤ w3.heap.size, fun x' _ => x.ks.length - x'.toNat, ⟨0, rfl, Nat.zero_le _, hb0, s2, Nat.le_refl _⟩, ?_⟩
  rintro _ _ w3 ⟨k, rfl, hkl, hb, s3, z3⟩
  have hcl := chainT_len x.os ((prNs x.ks).take k)
  refine bsel_of (fun hx => ?_) (fun hx => ?_)
  rotate_left
  · have hx : k = (prNs x.ks).length := by have := of_decide_eq_false hx; omega
    rw [hx, List.take_length] at hb hcl
    refine (hb.told (by omega) s3 (by omega)).mono ?_
    rintro _ w4 ⟨rfl, s4⟩
    exact .inl ⟨_, rfl, rfl, s1.trans s4⟩
  have hx : k < x.ks.length := by have := of_decide_eq_true hx; omega
  have hkx := hx
  have hx' : k < (prNs x.ks).length := by omega
  have hct := chain_take (os := x.os) hx'
  have hcl1 := chainT_len x.os ((prNs x.ks).take (k + 1))
  have ht : ∀ (l : List Txt) (j : Nat), lenT (l.take j) ≤ lenT l := by
    intro l
    induction l with
    | nil => intro j; simp [lenT]
    | cons a r ihr =>
      intro j
      cases j with
      | zero => simp [lenT]
      | succ j =>
        have := ihr j
        simp only [List.take_succ_cons, lenT]
        omega
  have ht1 := ht (prNs x.ks) k
  have ht2 := ht (prNs x.ks) (k + 1)
  have hcl2 := congrArg List.length hct
  simp only [List.length_append] at hcl2
  obtain ⟨b, cs, rfl, _, hE, hcell⟩ := hk.get (List.getElem?_eq_getElem hx)
  have hE : NdE w F x.ks[k] cs := hE
  obtain ⟨pw', cw', pa', ca', pr', cr', po', co', pk', ck', rfl, _⟩ := hE.outs
  have hcell : CellsAt w3 (b.add (k * 8)) (ncell x.ks[k] (.slice pw' x.ks[k].ws.length cw') (.slice pa' x.ks[k].as.length ca') (.slice pr' x.ks[k].rs.length cr') (.slice po' x.ks[k].os.length co') (.slice pk' x.ks[k].ks.length ck')) := fun j u hu => (s1.trans s3).cell (hcell j u hu)
  rw [Int.toNat_natCast]
  refine ⟨by omega, by omega, _, _, _, _, _, _, _, _, _, _, _, _, _, _, _, _, _, _, hcell.zero, hcell 1 _ rfl, hcell 2 _ rfl, hcell 3 _ rfl, hcell 4 _ rfl, hcell 5 _ rfl, hcell 6 _ rfl, hcell 7 _ rfl, boxK rfl (by simp [Value.oneCell']) fun w5 r5 s5 z5 => ?_⟩
  have s05 := s3.trans s5
  have hEo : Still w w5 := s1.trans s05
  refine ⟨fun w8 => Bd w8 w1.heap.size (w1.heap.size + 1) (chainT x.os ((prNs x.ks).take k) ++ (if 0 < k then [32] ++ x.os.getD (k - 1) [] ++ [32] else [])) ∧ Still w1 w8 ∧ w5.heap.size ≤ w8.heap.size ∧ Row w8 w3.heap.size 32 ⟨ncell x.ks[k] (.slice pw' x.ks[k].ws.length cw') (.slice pa' x.ks[k].as.length ca') (.slice pr' x.ks[k].rs.length cr') (.slice po' x.ks[k].os.length co') (.slice pk' x.ks[k].ks.length ck')⟩, bsel_of (fun h => ?_) (fun h => ?_), ?_⟩
  · have h0 : 0 < k := by have := of_decide_eq_true h; omega
    rw [if_pos h0] at hcl2 ⊢
    have e1 : IntKind.i64.wrap ((k : Int) - 1) = ((k - 1 : Nat) : Int) := by rw [wrap_i64 (by omega) (by omega)]; omega
    rw [e1]
    refine ⟨fun op w6 => op = x.os.getD (k - 1) [] ∧ w6 = w5, ⟨_, _, _, (r1.still s05).lget rfl, bsel_of (fun h1 => ?_) (fun h1 => ?_)⟩, ?_⟩
    · have h1 : k - 1 < x.os.length := by have := of_decide_eq_true h1; omega
      obtain ⟨b', cs', rfl, _, hE', hcell'⟩ := (ho.still hEo).get (List.getElem?_eq_getElem h1)
      obtain rfl : cs' = [.string (S x.os[k - 1])] := hE'
      have hcell' : CellsAt w5 (b'.add ((k - 1) * 1)) _ := hcell'
      rw [Int.toNat_natCast]
      exact ⟨_, _, _, (r1.still s05).lget rfl, by omega, by omega, _, hcell'.zero, by rw [List.getD_eq_getElem?_getD, List.getElem?_eq_getElem h1]; rfl, rfl⟩
    · have h1 : x.os.length ≤ k - 1 := by have := of_decide_eq_false h1; omega
      exact ⟨by rw [List.getD_eq_getElem?_getD, List.getElem?_eq_none h1]; rfl, rfl⟩
    rintro _ _ w6 ⟨rfl, rfl⟩
    simp only [List.length_append, List.length_cons, List.length_nil] at hcl2
    refine ⟨by simp only [List.length_cons, List.length_nil]; omega, by simp only [List.length_append, List.length_cons, List.length_nil]; omega, ?_⟩
    refine ((hb.still s5).write2 ([32] ++ x.os.getD (k - 1) [] ++ [32]) (by omega) (by simp only [List.length_append, List.length_cons, List.length_nil]; omega) s05 (Nat.le_refl _) (by omega) r5 (by omega) (by decide)).mono ?_
    rintro _ w7 ⟨rfl, h7, s7, z7, r7⟩
    exact .inl ⟨_, _, rfl, rfl, h7, s7, z7, r7⟩
  · have h0 : ¬ 0 < k := by have := of_decide_eq_false h; omega
    rw [if_neg h0, List.append_nil]
    exact ⟨hb.still s5, s05, Nat.le_refl _, r5⟩
  rintro _ w8 ⟨h8, s8, z8, r8⟩
  have ek : (prNs x.ks)[k] = prN x.ks[k] := by simp [prNs_map]
  refine ⟨_, _, _, _, _, _, _, _, _, _, _, _, _, _, _, _, _, _, r8.lget rfl, r8.lget rfl, r8.lget rfl, r8.lget rfl, r8.lget rfl, r8.lget rfl, r8.lget rfl, r8.lget rfl, (ih _ (List.getElem_mem hkx) w8 F _ (hE.still (s1.trans s8))).mono ?_⟩
  rintro _ w9 ⟨rfl, s9⟩
  rw [ek] at hct hcl2
  refine .inl ⟨_, rfl, ((h8.still s9).write (prN x.ks[k]) (by have := s9.size; omega) (by rw [List.length_append]; omega) (s8.trans s9) (Nat.le_refl _) (by omega)).mono ?_⟩
  rintro _ w10 ⟨rfl, h10, s10, z10⟩
  rw [← hct] at h10
  rw [show IntKind.i64.wrap ((k : Int) + 1) = ((k + 1 : Nat) : Int) by rw [wrap_i64 (by omega) (by omega)]; omega]
  exact .inl ⟨_, _, rfl, rfl, ⟨k + 1, rfl, hkx, h10, s10, by have := s9.size; omega⟩, by dsimp only; rw [Int.toNat_natCast]; omega⟩
def tells : List Value := [.func (.func fn_unparse_simple) #[] #[], .func (.func fn_unparse_pipe) #[] #[], .func (.func fn_unparse_andOr) #[] #[], .func (.func fn_unparse_list) #[] #[], .func (.func fn_unparse_group) #[] #[], .func (.func fn_unparse_sub) #[] #[], .func (.func fn_unparse_choice) #[] #[], .func (.func fn_unparse_loop) #[] #[], .func (.func fn_unparse_forEach) #[] #[], .func (.func fn_unparse_cases) #[] #[], .func (.func fn_unparse_item) #[] #[], .func (.func fn_unparse_function) #[] #[]]
theorem callable_simple : callable Tryd.prog fn_unparse_simple = true := by kernel_rfl
theorem callable_pipe : callable Tryd.prog fn_unparse_pipe = true := by kernel_rfl
theorem callable_andOr : callable Tryd.prog fn_unparse_andOr = true := by kernel_rfl
theorem callable_list : callable Tryd.prog fn_unparse_list = true := by kernel_rfl
theorem callable_group : callable Tryd.prog fn_unparse_group = true := by kernel_rfl
theorem callable_sub : callable Tryd.prog fn_unparse_sub = true := by kernel_rfl
theorem callable_choice : callable Tryd.prog fn_unparse_choice = true := by kernel_rfl
theorem callable_loop : callable Tryd.prog fn_unparse_loop = true := by kernel_rfl
theorem callable_forEach : callable Tryd.prog fn_unparse_forEach = true := by kernel_rfl
theorem callable_cases : callable Tryd.prog fn_unparse_cases = true := by kernel_rfl
theorem callable_item : callable Tryd.prog fn_unparse_item = true := by kernel_rfl
theorem callable_function : callable Tryd.prog fn_unparse_function = true := by kernel_rfl
theorem formT_out {k : Int} (h : k < 0 ∨ 12 ≤ k) (neg : Bool) (nm : Txt) (W A R O K : List Txt) : formT k neg nm W A R O K = [] := by
  unfold formT
  rw [if_neg (by omega), if_neg (by omega), if_neg (by omega), if_neg (by omega), if_neg (by omega), if_neg (by omega), if_neg (by omega)]
theorem teller {x : Nd} (hl : x.wt ≤ 1000000) (ih : KidsOk fn_unparse_Print x) (h0 : 0 ≤ x.k) (h1 : x.k < 12) : ∃ (fn : FuncId) (t : Txt), tells[x.k.toNat]? = some (.func (.func fn) #[] #[]) ∧ callable Tryd.prog fn = true ∧ (∀ (w : World) (F : Nat → Prop) (cs : List Value), NdE w F x cs → Calls Tryd.prog fn #[.agg ⟨cs⟩] w (Say w t)) ∧ prN x = if 4 ≤ x.k ∧ x.k ≤ 9 then joinT [32] (t :: x.rs.map prR) else t := by
  have hk : x.k = 0 ∨ x.k = 1 ∨ x.k = 2 ∨ x.k = 3 ∨ x.k = 4 ∨ x.k = 5 ∨ x.k = 6 ∨ x.k = 7 ∨ x.k = 8 ∨ x.k = 9 ∨ x.k = 10 ∨ x.k = 11 := by omega
  rw [prN_eq]
  rcases hk with hk | hk | hk | hk | hk | hk | hk | hk | hk | hk | hk | hk <;> rw [hk]
  · exact ⟨_, _, rfl, callable_simple, fun w F cs hx => usimple_spec hx hl, rfl⟩
  · exact ⟨_, _, rfl, callable_pipe, fun w F cs hx => upipe_spec hx hl ih, rfl⟩
  · exact ⟨_, _, rfl, callable_andOr, fun w F cs hx => uandOr_spec hx hl ih, rfl⟩
  · exact ⟨_, _, rfl, callable_list, fun w F cs hx => ulist_spec hx hl ih, rfl⟩
  · exact ⟨_, _, rfl, callable_group, fun w F cs hx => ugroup_spec hx hl ih, rfl⟩
  · exact ⟨_, _, rfl, callable_sub, fun w F cs hx => usub_spec hx hl ih, rfl⟩
  · exact ⟨_, _, rfl, callable_choice, fun w F cs hx => uchoice_spec hx hl ih, rfl⟩
  · exact ⟨_, _, rfl, callable_loop, fun w F cs hx => uloop_spec hx hl ih, rfl⟩
  · exact ⟨_, _, rfl, callable_forEach, fun w F cs hx => uforEach_spec hx hl ih, rfl⟩
  · exact ⟨_, _, rfl, callable_cases, fun w F cs hx => ucases_spec hx hl ih, rfl⟩
  · exact ⟨_, _, rfl, callable_item, fun w F cs hx => uitem_spec hx hl ih, rfl⟩
  · exact ⟨_, _, rfl, callable_function, fun w F cs hx => ufunction_spec hx hl ih, rfl⟩
set_option maxRecDepth 10000 in
theorem uprint_of : ∀ (n : Nat) (x : Nd), x.wt < n → x.wt ≤ 1000000 → ∀ (w : World) (F : Nat → Prop) (cs : List Value), NdE w F x cs → Calls Tryd.prog fn_unparse_Print #[.agg ⟨cs⟩] w (Say w (prN x)) := by
  intro n
  induction n with
  | zero => intro x h; omega
  | succ n ihn =>
    intro x hn hl w F cs hx
    have hwt := x.wt_eq
    have hx' := hx
    obtain ⟨pw, cw, pa, ca, pr, cr, po, co, pk, ck, rfl, _, _, hr, _⟩ := hx.outs
    have ih : KidsOk fn_unparse_Print x := fun y hy w F cs hE => by
      have := wtNs_mem hy
      exact ihn y (by omega) (by omega) w F cs hE
    have hpl := prN_len x
    have l3 := wtP_len x.rs
    have g3 : (x.rs.map prR).length = x.rs.length := List.length_map ..
    refine unparse_Print_calls _ _ _ _ _ _ _ _ _ _ _ _ _ _ _ _ _ _ _ _ ?_
    refine allocK fun w1 r1 s1 z1 => boxK rfl (by simp [Value.oneCell']) fun w3 r3 s3 z3 => ?_
    have r3 : Row w3 w1.heap.size _ ⟨tells⟩ := r3
    refine ⟨_, (r1.still s3).lget rfl, bsel_of (fun h => ?_) (fun h => ⟨_, (r1.still s3).lget rfl, bsel_of (fun h1 => ?_) (fun h1 => ?_)⟩)⟩
    · rw [prN_eq, formT_out (.inl (of_decide_eq_true h))]
      exact ⟨rfl, s1.trans s3⟩
    · rw [prN_eq, formT_out (.inr (of_decide_eq_true h1))]
      exact ⟨rfl, s1.trans s3⟩
    have k0 : 0 ≤ x.k := by have := of_decide_eq_false h; omega
    have k1 : x.k < 12 := by have := of_decide_eq_false h1; omega
    obtain ⟨fn, t, ht, hc, hsp, hpr⟩ := teller hl ih k0 k1
    have sD := drew_still w3
    have s03 := (s1.trans s3).trans sD
    refine ⟨fun wq => Still w3 wq, sD, x.k, fun wq hq => ((r1.still s3).still hq).lget rfl, k0, k1, _, rfl, fun wq hq => ?_, _, _, _, _, _, _, _, _, _, _, _, _, _, _, _, _, _, _, fun wq hq => ((r1.still s3).still hq).lget rfl, fun wq hq => ((r1.still s3).still hq).lget rfl, fun wq hq => ((r1.still s3).still hq).lget rfl, fun wq hq => ((r1.still s3).still hq).lget rfl, fun wq hq => ((r1.still s3).still hq).lget rfl, fun wq hq => ((r1.still s3).still hq).lget rfl, fun wq hq => ((r1.still s3).still hq).lget rfl, fun wq hq => ((r1.still s3).still hq).lget rfl, callee_of (fn := fn) (bsel_of (fun _ => ?_) (fun h => by rw [hc] at h; cases h))⟩
    · rw [add_row, Nat.zero_add, Nat.mul_one]
      exact (r3.still hq).lget ht
    refine (hsp w3.drew F _ (hx'.still s03)).mono ?_
    rintro _ w4 ⟨rfl, s4⟩
    have s04 := s03.trans s4
    have r4 := ((r1.still s3).still sD).still s4
    refine .inl ⟨_, rfl, _, r4.lget rfl, bsel_of (fun h4 => ⟨_, r4.lget rfl, bsel_of (fun h9 => ?_) (fun h9 => ?_)⟩) (fun h4 => ?_)⟩
    · rw [if_pos ⟨of_decide_eq_true h4, of_decide_eq_true h9⟩] at hpr
      refine allocK fun w5 r5 s5 z5 => ⟨_, _, _, (r4.still s5).lget rfl, (redirs_told ((hr.still s04).still s5) (by omega)).mono ?_⟩
      have hI : Ss w5 w4.heap.size [t] (.slice (some ⟨w4.heap.size, 0, none⟩) 1 1) := Ss.made (l := [t]) r5 (Nat.le_refl _) (show 1 ≤ 1000000000 by decide)
      rintro _ w6 ⟨p6, c6, rfl, hS6, s6⟩
      refine .inl ⟨_, _, _, rfl, (hI.still s6).app (s5.trans s6) (Nat.le_refl _) (by have := s6.size; omega) hS6.strs (by omega) fun p7 c7 w7 hS7 s7 z7 => ?_⟩
      refine (ujoin_of hS7 (by omega) (by show (joinT [32] (t :: x.rs.map prR)).length ≤ _; rw [← hpr]; omega)).mono ?_
      rintro _ w8 ⟨rfl, s8⟩
      exact .inl ⟨_, rfl, by rw [hpr]; rfl, (s04.trans s7).trans s8⟩
    · rw [if_neg (by have := of_decide_eq_false h9; omega)] at hpr
      exact ⟨by rw [hpr], s04⟩
    · rw [if_neg (by have := of_decide_eq_false h4; omega)] at hpr
      exact ⟨by rw [hpr], s04⟩
theorem uprint_spec {F : Nat → Prop} {x : Nd} {cs : List Value} (hx : NdE w F x cs) (hl : x.wt ≤ 1000000) : Calls Tryd.prog fn_unparse_Print #[.agg ⟨cs⟩] w (Say w (prN x)) := uprint_of _ x (Nat.lt_succ_self _) hl w F cs hx
theorem Rs.ok_and {α β : Type} (x : α) (f : α → Rs β) : (Rs.ok x).and f = f x := rfl
theorem simpleS_red {a : List (List Pt) × List (Txt × List Pt) × List (Txt × List Pt)} {s : Ts} (h : redirB s = true) : simpleS a s = (redirF s).and fun x => .ok (.inl ((a.1, a.2.1, a.2.2 ++ [x.1]), x.2)) := by
  unfold simpleS
  rw [if_pos h]
theorem simpleS_end {a : List (List Pt) × List (Txt × List Pt) × List (Txt × List Pt)} {s : Ts} (h : redirB s = false) (hk : isW s = false) : simpleS a s = if a.1.length + a.2.1.length + a.2.2.length = 0 then .bad 100 else .ok (.inr (.mk 0 false [] a.1 a.2.1 a.2.2 [] [], s)) := by
  unfold simpleS
  rw [if_neg (by rw [h]; decide)]
  match s, hk with
  | [], _ => rfl
  | (k, t) :: r, hk => simp only [if_neg (of_decide_eq_false hk)]
theorem simpleS_word {a : List (List Pt) × List (Txt × List Pt) × List (Txt × List Pt)} {t : Txt} {r : Ts} (h : redirB ((0, t) :: r) = false) (ha : a.1 ≠ [] ∨ asgR ((0, t) :: r) = none) : simpleS a ((0, t) :: r) = (partsF ((0, t) :: r)).and fun x => .ok (.inl ((a.1 ++ [x.1], a.2.1, a.2.2), x.2)) := by
  unfold simpleS
  rw [if_neg (by rw [h]; decide)]
  have hn : (if a.1 = [] then asgF t else none) = none := by
    rcases ha with ha | ha
    · rw [if_neg ha]
    · split
      · cases hy : asgF t with
        | none => rfl
        | some y => simp only [asgR, hy] at ha; cases ha
      · rfl
  simp only [hn, partsF, ↓reduceIte]
  cases wpL 30 t <;> rfl
end Go.Proofs.YthommfjiaalecaaDoor
namespace Go.Proofs.YthommfjiaalecaaDoor
open Go.RowKit Vc
variable {w : World}
abbrev Nd.noR (x : Nd) : Nd := .mk x.k x.neg x.nm x.ws x.as [] x.os x.ks
structure NR (w0 w : World) (g gn B : Nat) (X : Nat → Prop) (x : Nd) (vw va vr vo vk : Value) : Prop where
  row : Row w gn 32 ⟨ncell x vw va vr vo vk⟩
  only : Only g w0 w
  hg : g < w0.heap.size
  hB : w0.heap.size ≤ B
  hgn : B ≤ gn
  xs : ∀ k, X k → k < w.heap.size ∧ B ≤ k
  xg : X gn
  ord : nsE.OutX w B 52 X gn x.rs vr
  rest : NdE w (fun k => B ≤ k ∧ k < w.heap.size ∧ ¬ X k) x.noR (ncell x.noR vw va (.slice none 0 0) vo vk)
section
variable {w0 w1 w' : World} {g gn B : Nat} {X : Nat → Prop} {x : Nd} {vw va vr vo vk : Value}
theorem NR.on (h : NR w0 w g gn B X x vw va vr vo vk) (hm : Only g w w') : NR w0 w' g gn B X x vw va vr vo vk := by
  have hz := hm.size
  have hg := h.hg
  have hB := h.hB
  have hgn := h.hgn
  refine ⟨h.row.mod hm (by omega), h.only.tr hm, hg, hB, hgn, fun k hk => ⟨Nat.lt_of_lt_of_le (h.xs k hk).1 hz, (h.xs k hk).2⟩, h.xg, h.ord.mod hm (fun k h1 h2 (h3 : k = g) => by omega) (fun _ h => h) (fun _ h => .inl h), ?_⟩
  exact (h.rest.mod hm fun k hk (e : k = g) => by omega).mono fun k hk => ⟨hk.1, by omega, hk.2.2⟩
theorem NR.still (h : NR w0 w g gn B X x vw va vr vo vk) (hm : Still w w') : NR w0 w' g gn B X x vw va vr vo vk := h.on hm.only
theorem NR.nde (h : NR w0 w g gn B X x vw va vr vo vk) : NdE w (fun k => B ≤ k ∧ k < w.heap.size) x (ncell x vw va vr vo vk) := by
  obtain ⟨vw', va', vr', vo', vk', he, a1, a2, _, a4, a5⟩ := (h.rest.mono (G := fun k => B ≤ k ∧ k < w.heap.size) fun k hk => ⟨hk.1, hk.2.1⟩).out
  simp only [ncell, List.cons.injEq, true_and, and_true] at he
  obtain ⟨rfl, rfl, _, rfl, rfl⟩ := he
  exact NdE.of a1 a2 h.ord.at a4 a5
theorem NR.addR {p : Option Addr} {n c : Nat} {y : Txt × List Pt} {cs : List Value} (h : NR w0 w1 g gn B X x vw va (.slice p n c) vo vk) (o : Only g w1 w) (hy : nsE.E w (fun k => w1.heap.size ≤ k ∧ k < w.heap.size) y cs) (hn : x.rs.length < 1000000) {K : World → Prop}
    (hK : ∀ p' c' w' X', NR w0 w' g gn B X' (x.addR y) vw va (.slice p' (n + 1) c') vo vk → Mod (fun k => B ≤ k) w w' → K w') :
    letW (w.alloc (.cells ⟨cs⟩ 52)) (fun w2 => w2.cell? (Addr.mk gn 5 none) = some (.slice p n c) ∧ appK w2 52 2 40 p n c (some (Addr.mk w.heap.size 0 none)) 1 (fun p' c' w9 => stCells (Addr.mk gn 5 none) K 0 [.slice p' (n + 1) c'] w9)) := by
  have h2 := h.on o
  obtain ⟨_, _, _, he, _, hg, _⟩ := id h2.ord
  injection he with _ en _
  have hgl := h2.row.lt
  have hsz := h.only.size
  have hoz := o.size
  have hgn := h2.hgn
  have hB := h2.hB
  refine Enc.OutX.push (Sw := fun wq => wq.cell? (Addr.mk gn 5 none) = some (.slice p n c)) h2.ord (by omega) (fun k hk => (h2.xs k hk).1) hgl (fun wq hq => (h2.row.still hq).lget rfl) (nsE.turn (fun k hk => ⟨?_, hk.2, fun hx => ?_⟩) (fun _ _ _ h => h) hy) (by omega) (by omega) fun p' c' w9 ho9 hm9 hw9 hl9 => ?_
  · have := h.row.lt
    omega
  · have := (h.xs k hx).1
    omega
  have hr9 := h2.row.mod hm9 (fun hk => (hg gn hk).2 rfl)
  refine stK hr9 (by simp) (by simp [Value.oneCell']) fun w10 r10 m10 z10 => hK p' c' w10 (fun k => X k ∨ (Value.slice p' (n + 1) c').ownBlock = some k) ?_ ?_
  rotate_left
  · exact Mod.trans hm9 m10 (fun k hk => (h2.xs k (hg k hk).1).2) (fun k _ hk => by omega)
  have hz9 := hm9.size
  have hz10 := m10.size
  have own10 := ho9.mod m10 (X' := fun k => X k ∨ (Value.slice p' (n + 1) c').ownBlock = some k) (fun k _ _ e => by
    subst e
    obtain ⟨_, _, _, _, _, hgv, _⟩ := id ho9
    exact ⟨.inl h2.xg, fun hk => (hgv _ hk).2 rfl⟩) (fun _ h => h) (fun _ h => .inl h)
  have hlow : ∀ k, (Value.slice p' (n + 1) c').ownBlock = some k → B ≤ k := fun k hk => by
    rcases hw9 k hk with hk | hk
    · exact (h2.xs k hk).2
    · omega
  have rest9 : NdE w9 (fun k => B ≤ k ∧ k < w9.heap.size ∧ ¬ (X k ∨ (Value.slice p' (n + 1) c').ownBlock = some k)) x.noR _ := (h2.rest.mod hm9 fun k hk hs => hk.2.2 (hg k hs).1).mono fun k hk => ⟨hk.1, by omega, fun hx => hx.elim hk.2.2 fun hx => (hw9 k hx).elim hk.2.2 (fun h => by omega)⟩
  have rest10 := (rest9.mod m10 fun k hk (e : k = gn) => hk.2.2 (.inl (e ▸ h2.xg))).mono (G := fun k => B ≤ k ∧ k < w10.heap.size ∧ ¬ (X k ∨ (Value.slice p' (n + 1) c').ownBlock = some k)) fun k hk => ⟨hk.1, by omega, hk.2.2⟩
  refine ⟨r10, Mod.trans (Mod.trans h2.only hm9 (fun _ h => h) (fun i hi hk => by have := (h2.xs _ (hg _ hk).1).2; omega)) m10 (fun _ h => h) (fun i hi e => by omega), h2.hg, hB, hgn, fun k hk => ?_, .inl h2.xg, own10, rest10⟩
  rcases hk with hk | hk
  · have := h2.xs k hk
    exact ⟨by omega, this.2⟩
  · have := hl9 k hk
    exact ⟨by omega, hlow k hk⟩
theorem NR.mk0 (hr : Row w gn 32 ⟨ncell x vw va (.slice none 0 0) vo vk⟩) (ho : Only g w0 w) (hg : g < w0.heap.size) (hB : w0.heap.size ≤ B) (hgn : B ≤ gn) (hx : x.rs = []) (hn : NdE w (fun k => B ≤ k ∧ k < w.heap.size ∧ k ≠ gn) x (ncell x vw va (.slice none 0 0) vo vk)) : NR w0 w g gn B (fun k => k = gn) x vw va (.slice none 0 0) vo vk := by
  refine ⟨hr, ho, hg, hB, hgn, fun k hk => by subst hk; exact ⟨hr.lt, hgn⟩, rfl, by rw [hx]; exact Enc.OutX.nil _ _ _ _ _ _, ?_⟩
  have e : x.noR = x := by
    cases x
    simp only [Nd.noR, Nd.rs] at hx ⊢
    rw [hx]
    rfl
  rw [e]
  exact hn
end
theorem peek_isT (r : Ts) (k : Nat) {t : Txt} (ht : t ≠ []) : (decide (((((r[0]?).getD (2, [])).1 : Nat) : Int) = (k : Int)) && ((decide (((r[0]?).getD (2, [])).2 = t)) && true)) = isT k t r := by
  cases r with
  | nil =>
    show (_ && ((decide (([] : Txt) = t)) && true)) = false
    have e : decide (([] : Txt) = t) = false := decide_eq_false (fun e => ht e.symm)
    rw [e]
    simp
  | cons x r =>
    obtain ⟨k', t'⟩ := x
    show (decide ((k' : Int) = (k : Int)) && (decide (t' = t) && true)) = decide (some (k', t') = some (k, t))
    by_cases hk : k' = k
    · subst hk
      simp
    · simp [hk]
      omega
theorem zero_nde (w : World) (F : Nat → Prop) : NdE w F nd0 zcell := by
  refine ⟨_, _, _, _, none, 0, rfl, ?_, ?_, ?_, ?_, Nat.le_refl _, fun h => absurd rfl h⟩
  · exact ⟨none, 0, rfl, Nat.le_refl _, fun h => absurd rfl h⟩
  · exact ⟨none, 0, rfl, Nat.le_refl _, fun h => absurd rfl h⟩
  · exact ⟨none, 0, rfl, Nat.le_refl _, fun h => absurd rfl h⟩
  · exact ⟨none, 0, rfl, Nat.le_refl _, fun h => absurd rfl h⟩
theorem tc_cs (w : World) (F : Nat → Prop) : ∀ l : List Tok, tkE.Cs w F l (tc l)
  | [] => rfl
  | x :: r => ⟨[.int .i64 (x.1 : Int), .string (S x.2)], tc r, rfl, rfl, tc_cs w F r⟩
theorem toks_at {B : Nat} {v : Value} {l : List Tok} (hv : ∃ p C, v = .slice p l.length C) (h : Owns w B 59 2 v l.length (tc l)) : tkE.At w (fun k => B ≤ k ∧ k < w.heap.size) l v := by
  obtain ⟨p, C, rfl⟩ := hv
  exact Enc.OutX.at (X := fun k => k < w.heap.size) (gn := w.heap.size) ⟨p, C, tc l, rfl, h, fun k hk => ⟨(h.lt k hk).2, Nat.ne_of_lt (h.lt k hk).2⟩, tc_cs _ _ _⟩
def Parsed (w : World) (r : Nd × Int) (e : Ending) (w' : World) : Prop := ∃ cs, e = .returned (.tuple #[.agg ⟨cs⟩, .int .i64 r.2]) ∧ NdE w' (fun k => w.heap.size ≤ k ∧ k < w'.heap.size) r.1 cs ∧ Still w w'
def Rz (w : World) (g : Nat) (s : Ts) : Prop := ∃ (all : Ts) (a : Option Addr) (c n : Nat), s = all.drop n ∧ n ≤ all.length ∧ all.length ≤ 20000 ∧ Row w g 45 ⟨[.slice a all.length c, .int .i64 (n : Int)]⟩ ∧ tkE.At w (fun k => k < g) all (.slice a all.length c)
theorem Rz.lt {g : Nat} {s : Ts} (h : Rz w g s) : g < w.heap.size := by
  obtain ⟨_, _, _, _, _, _, _, h, _⟩ := h
  exact h.lt
theorem Rz.mod {S : Nat → Prop} {g : Nat} {s : Ts} {w' : World} (h : Rz w g s) (hm : Mod S w w') (hS : ∀ k, k ≤ g → ¬ S k) : Rz w' g s := by
  obtain ⟨all, a, c, n, h1, h2, h3, h4, h5⟩ := h
  exact ⟨all, a, c, n, h1, h2, h3, h4.mod hm (hS g (Nat.le_refl _)), h5.turn (fun _ h => h) fun a v ⟨k, hk, ea⟩ hcell => mod_cell hm (by rw [ea]; exact hS k (Nat.le_of_lt hk)) hcell⟩
theorem Rz.still {g : Nat} {s : Ts} {w' : World} (h : Rz w g s) (hm : Still w w') : Rz w' g s := h.mod hm fun _ _ h => h
def rzLen (g : Nat) (w : World) : Nat := match w.cell? ⟨g, 0, none⟩, w.cell? ⟨g, 1, none⟩ with
  | some (.slice _ l _), some (.int _ n) => l - n.toNat
  | _, _ => 0
theorem Rz.len {g : Nat} {s : Ts} (h : Rz w g s) : rzLen g w = s.length := by
  obtain ⟨all, a, c, n, rfl, _, _, hr, _⟩ := h
  have e0 : w.cell? ⟨g, 0, none⟩ = some (.slice a all.length c) := hr.lget rfl
  have e1 : w.cell? ⟨g, 1, none⟩ = some (.int .i64 (n : Int)) := hr.lget rfl
  unfold rzLen
  rw [e0, e1]
  simp
theorem rzis_spec {g : Nat} {s : Ts} (h : Rz w g s) (k : Nat) (t : Txt) : Calls Tryd.prog fn_ref09_parser_is #[.pointer (some ⟨g, 0, none⟩), .int .i64 (k : Int), .string (S t)] w (fun e w' => e = .returned (.bool (isT k t s)) ∧ Still w w') := by
  refine ref09_parser_is_calls _ _ _ _ _ ?_
  obtain ⟨all, a, c, n, rfl, hn, hl, hr, ht⟩ := h
  refine ⟨(n : Int), hr.lget rfl, a, all.length, c, hr.lget rfl, bsel_of (fun hx => ?_) (fun hx => ⟨?_, drew_still _⟩)⟩
  · have hx : n < all.length := by have := of_decide_eq_true hx; omega
    obtain ⟨b, cs, rfl, _, he, hc⟩ := ht.get (List.getElem?_eq_getElem hx)
    obtain rfl : cs = [.int .i64 (all[n].1 : Int), .string (S all[n].2)] := he
    have hd : all.drop n = all[n] :: all.drop (n + 1) := List.drop_eq_getElem_cons hx
    have hi : isT k t (all.drop n) = (decide (all[n].1 = k) && decide (all[n].2 = t)) := by
      rw [hd]
      show decide (some all[n] = some (k, t)) = _
      rw [← Bool.decide_and]
      exact decide_eq_decide.2 ⟨fun h => by rw [Option.some.inj h]; exact ⟨rfl, rfl⟩, fun h => congrArg some (Prod.ext h.1 h.2)⟩
    rw [hi]
    refine ⟨some b, all.length, c, hr.lget rfl, (n : Int), hr.lget rfl, by omega, by omega, (all[n].1 : Int), hc.zero, bsel_of (fun hk => ?_) (fun hk => ⟨?_, drew_still _⟩)⟩
    · have hk : all[n].1 = k := by have := of_decide_eq_true hk; omega
      refine ⟨some b, all.length, c, hr.lget rfl, (n : Int), hr.lget rfl, by omega, by omega, all[n].2, hc 1 _ rfl, ?_, drew_still _⟩
      rw [decide_eq_true hk, Bool.true_and]
    · have hk : ¬ all[n].1 = k := by have := of_decide_eq_false hk; omega
      rw [decide_eq_false hk, Bool.false_and]
  · have hx : all.length ≤ n := by have := of_decide_eq_false hx; omega
    rw [List.drop_eq_nil_of_le hx]
    rfl
theorem Rz.step {g : Nat} {x : Nat × Txt} {r : Ts} (h : Rz w g (x :: r)) {K : World → Prop} (hK : ∀ w', Only g w w' → Rz w' g r → K w') : ∃ v : Int, w.cell? (Addr.mk g 1 none) = some (.int .i64 v) ∧ stCells (Addr.mk g 1 none) (fun w2 => K w2) 0 [(.int .i64 (IntKind.i64.wrap (v + 1)))] w := by
  obtain ⟨all, a, c, n, he, hn, hl, hr, ht⟩ := h
  have hx : n < all.length := by
    rcases Nat.lt_or_ge n all.length with h | h
    · exact h
    · rw [List.drop_eq_nil_of_le h] at he
      cases he
  have hd : all.drop n = all[n] :: all.drop (n + 1) := List.drop_eq_getElem_cons hx
  rw [hd] at he
  injection he with _ he
  refine ⟨(n : Int), hr.lget rfl, stK hr (by simp) (by simp [Value.oneCell']) fun w' r' m' z' => hK w' m' ?_⟩
  have e1 : IntKind.i64.wrap ((n : Int) + 1) = ((n + 1 : Nat) : Int) := by rw [wrap_i64 (by omega) (by omega)]; omega
  rw [e1] at r'
  exact ⟨all, a, c, n + 1, he, hx, hl, r', ht.turn (fun _ h => h) fun a v ⟨k, hk, ea⟩ hcell => mod_cell m' (by rw [ea]; show ¬ k = g; have : k < g := hk; omega) hcell⟩
theorem rztake_spec {g : Nat} {s : Ts} (h : Rz w g s) (k : Nat) (t : Txt) : Calls Tryd.prog fn_ref09_parser_take #[.pointer (some ⟨g, 0, none⟩), .int .i64 (k : Int), .string (S t)] w (fun e w' => e = .returned (.bool (isT k t s)) ∧ Only g w w' ∧ Rz w' g (if isT k t s = true then s.tail else s)) := by
  refine ref09_parser_take_calls _ _ _ _ _ ?_
  refine (rzis_spec h k t).mono ?_
  rintro _ w1 ⟨rfl, s1⟩
  have h1 := h.still s1
  refine .inl ⟨_, rfl, bsel_of (fun hx => ?_) (fun hx => ⟨rfl, s1.only, by rw [if_neg (by rw [hx]; decide)]; exact h1⟩)⟩
  rw [if_pos hx]
  have e := isT_cons hx
  rw [e] at h1
  exact h1.step fun w2 o2 h2 => ⟨rfl, s1.only.tr o2, h2⟩
theorem rzlines_spec {g : Nat} {s : Ts} (h : Rz w g s) : Calls Tryd.prog fn_ref09_parser_lines #[.pointer (some ⟨g, 0, none⟩)] w (fun e w' => e = .returned (.tuple #[]) ∧ Only g w w' ∧ Rz w' g (linesF s)) := by
  refine ref09_parser_lines_calls _ _ _ ?_
  refine ⟨fun w1 => ∃ s1, Rz w1 g s1 ∧ linesF s1 = linesF s ∧ Only g w w1, rzLen g, ⟨s, h, rfl, Mod.refl _ _⟩, ?_⟩
  rintro _ w1 ⟨s1, h1, e1, o1⟩
  refine (rztake_spec h1 2 [10]).mono ?_
  rintro _ w2 ⟨rfl, o2, h2⟩
  refine .inl ⟨_, rfl, bsel_of (fun hx => ?_) (fun hx => ?_)⟩
  · rw [hx, if_pos rfl] at h2
    have hl := isT_len hx
    refine ⟨⟨_, h2, ?_, Mod.trans o1 o2 (fun _ h => h) (fun _ _ h => h)⟩, by rw [h2.len, h1.len]; omega⟩
    rw [← e1, isT_cons hx]
    simp only [linesF, List.tail_cons]
    rw [if_pos (show ((2, [10]) : Nat × Txt) = lineT from rfl)]
  · rw [hx, if_neg (by decide)] at h2
    refine ⟨rfl, Mod.trans o1 o2 (fun _ h => h) (fun _ _ h => h), ?_⟩
    have : linesF s1 = s1 := by
      cases s1 with
      | nil => rfl
      | cons x r =>
        simp only [linesF]
        rw [if_neg]
        intro e
        rw [e] at hx
        exact absurd hx (by unfold isT; simp [lineT])
    rw [← e1, this]
    exact h2
theorem Rz.at {g : Nat} {x : Nat × Txt} {r : Ts} (h : Rz w g (x :: r)) : ∃ (L c n : Nat) (b : Addr), n < L ∧ L ≤ 20000 ∧ L = n + (x :: r).length ∧ ∀ w', Still w w' → w'.cell? (Addr.mk g 0 none) = some (.slice (some b) L c) ∧ w'.cell? (Addr.mk g 1 none) = some (.int .i64 (n : Int)) ∧ tkE.At w' (fun k => k < g) (x :: r) (.slice (some (b.add (n * 2))) (x :: r).length (x :: r).length) ∧ w'.cell? (b.add (n * 2)) = some (.int .i64 (x.1 : Int)) ∧ w'.cell? ((b.add (n * 2)).add 1) = some (.string (S x.2)) := by
  obtain ⟨all, a, c, n, he, hn, hl, hr, ht⟩ := h
  have hx : n < all.length := by
    rcases Nat.lt_or_ge n all.length with h | h
    · exact h
    · rw [List.drop_eq_nil_of_le h] at he
      cases he
  have hd : all.drop n = all[n] :: all.drop (n + 1) := List.drop_eq_getElem_cons hx
  have hlen := congrArg List.length he
  rw [List.length_drop] at hlen
  obtain ⟨b, cs, rfl, hF, hE, hc⟩ := ht.get (List.getElem?_eq_getElem hx)
  have hxe : x = all[n] := by
    rw [hd] at he
    injection he
  obtain rfl : cs = [.int .i64 (all[n].1 : Int), .string (S all[n].2)] := hE
  refine ⟨all.length, c, n, b, hx, hl, by omega, fun w' hs => ⟨hs.cell (hr.lget rfl), hs.cell (hr.lget rfl), ?_, by rw [hxe]; exact hs.cell hc.zero, by rw [hxe]; exact hs.cell (hc 1 _ rfl)⟩⟩
  obtain ⟨p, c', hv, hle, hne⟩ := ht.still hs
  injection hv with e1 e2 e3
  obtain ⟨b', xs, hb', hF', hCs, hat⟩ := hne (by intro e; rw [e] at hx; exact absurd hx (by simp))
  rw [hb'] at e1
  obtain rfl := Option.some.inj e1
  refine ⟨_, _, rfl, Nat.le_refl _, fun _ => ⟨_, xs.drop (n * 2), rfl, by show (b.add (n * 2)).block < g; unfold Addr.add; split <;> exact hF', ?_, fun j u hu => ?_⟩⟩
  · have key : ∀ (m : Nat) (l : Ts) (ys : List Value), tkE.Cs w' (fun k => k < g) l ys → tkE.Cs w' (fun k => k < g) (l.drop m) (ys.drop (m * 2)) := by
      intro m
      induction m with
      | zero => intro l ys h; exact h
      | succ m ih =>
        intro l ys h
        cases l with
        | nil =>
          have : ys = [] := h
          subst this
          simp only [List.drop_nil]
          rfl
        | cons y l =>
          obtain ⟨cs, zs, rfl, hE, hC⟩ := h
          have hcs : cs = [.int .i64 (y.1 : Int), .string (S y.2)] := hE
          subst hcs
          have := ih l zs hC
          rw [show (m + 1) * 2 = m * 2 + 1 + 1 by omega]
          exact this
    rw [he]
    exact key n all xs hCs
  · rw [List.getElem?_drop] at hu
    have := hat _ _ hu
    rwa [Go.Deep.add_add]
theorem Rz.nil {g : Nat} (h : Rz w g []) : ∃ (a : Option Addr) (L c : Nat), ∀ w', Still w w' → w'.cell? (Addr.mk g 0 none) = some (.slice a L c) ∧ w'.cell? (Addr.mk g 1 none) = some (.int .i64 (L : Int)) := by
  obtain ⟨all, a, c, n, he, hn, hl, hr, ht⟩ := h
  have : n = all.length := by
    have := congrArg List.length he
    rw [List.length_drop] at this
    simp only [List.length_nil] at this
    omega
  subst this
  exact ⟨a, _, c, fun w' hs => ⟨hs.cell (hr.lget rfl), hs.cell (hr.lget rfl)⟩⟩
theorem rzword_spec {g : Nat} {s : Ts} (h : Rz w g s) : Calls Tryd.prog fn_ref09_parser_word #[.pointer (some ⟨g, 0, none⟩)] w (fun e w' => e = .returned (.bool (isW s)) ∧ Still w w') := by
  refine ref09_parser_word_calls _ _ _ ?_
  cases s with
  | nil =>
    obtain ⟨a, L, c, hs⟩ := h.nil
    obtain ⟨h0, h1⟩ := hs w (Still.refl w)
    exact ⟨_, h1, _, _, _, h0, bsel_of (fun hx => absurd (of_decide_eq_true hx) (by omega)) (fun _ => ⟨rfl, drew_still w⟩)⟩
  | cons x r =>
    obtain ⟨L, c, n, b, hn, hl, _, hs⟩ := h.at
    obtain ⟨h0, h1, _, h2, h3⟩ := hs w (Still.refl w)
    refine ⟨_, h1, _, _, _, h0, bsel_of (fun _ => ?_) (fun hx => absurd (show (n : Int) < (L : Int) by omega) (of_decide_eq_false hx))⟩
    refine ⟨_, _, _, h0, _, h1, by omega, by omega, _, h2, ?_, drew_still w⟩
    obtain ⟨k, t⟩ := x
    show _ = Ending.returned (.bool (decide (k = 0)))
    rw [decide_eq_decide.2 (show ((k : Int) = 0) ↔ k = 0 by omega)]
theorem rzredir_spec {g : Nat} {s : Ts} (h : Rz w g s) : Calls Tryd.prog fn_ref09_parser_redir #[.pointer (some ⟨g, 0, none⟩)] w (fun e w' => e = .returned (.bool (redirB s)) ∧ Still w w') := by
  refine ref09_parser_redir_calls _ _ _ ?_
  refine (rzis_spec h 1 tLess).mono ?_
  rintro _ w1 ⟨rfl, s1⟩
  refine .inl ⟨_, rfl, bsel_of (fun hx => ⟨by unfold redirB; rw [hx]; rfl, s1⟩) (fun hx => ?_)⟩
  refine (rzis_spec (h.still s1) 1 tMore).mono ?_
  rintro _ w2 ⟨rfl, s2⟩
  refine .inl ⟨_, rfl, bsel_of (fun hy => ⟨by unfold redirB; rw [hx, hy]; rfl, s1.trans s2⟩) (fun hy => ?_)⟩
  refine (rzis_spec ((h.still s1).still s2) 1 tMore2).mono ?_
  rintro _ w3 ⟨rfl, s3⟩
  exact .inl ⟨_, rfl, by unfold redirB; rw [hx, hy]; rfl, (s1.trans s2).trans s3⟩
def RzW (w : World) (g : Nat) (r : Rs (List Pt × Ts)) (e : Ending) (w' : World) : Prop := Only g w w' ∧ match r with
  | .ok x => ∃ v, e = .returned (.tuple #[v, .int .i64 0]) ∧ SlAt w' (fun k => w.heap.size ≤ k ∧ k < w'.heap.size) x.1 v ∧ Rz w' g x.2
  | .bad k => k ≠ 0 ∧ e = .returned (.tuple #[.slice none 0 0, .int .i64 (k : Int)])
theorem rzparts_spec {g : Nat} {s : Ts} (h : Rz w g s) (hb : TB s) : Calls Tryd.prog fn_ref09_parser_parts #[.pointer (some ⟨g, 0, none⟩)] w (RzW w g (partsF s)) := by
  refine ref09_parser_parts_calls _ _ _ ?_
  refine (rzword_spec h).mono ?_
  rintro _ w1 ⟨rfl, s1⟩
  refine .inl ⟨_, rfl, bsel_of (fun hx => ?_) (fun hx => ?_)⟩
  · have hx : isW s = false := by simpa using hx
    have : partsF s = .bad 100 := by
      match s, hx with
      | [], _ => rfl
      | (k, t) :: r, hx =>
        simp only [partsF]
        rw [if_neg (of_decide_eq_false hx)]
    rw [this]
    exact ⟨s1.only, by decide, rfl⟩
  have hx : isW s = true := by simpa using hx
  obtain ⟨t, r, rfl⟩ : ∃ t r, s = (0, t) :: r := by
    match s, hx with
    | (k, t) :: r, hx => exact ⟨t, r, by rw [show k = 0 from of_decide_eq_true hx]⟩
  obtain ⟨L, c, n, b, hn, hl, _, hs⟩ := h.at
  have hpf : partsF ((0, t) :: r) = (wpL 30 t).and fun l => .ok (l, r) := rfl
  rw [hpf]
  refine ⟨fun wq => Still w wq, s1.trans (drew_still w1), some b, L, c, fun wq hq => (hs wq hq).1, n, fun wq hq => (hs wq hq).2.1, by omega, by omega, t, fun wq hq => (hs wq hq).2.2.2.2, (ref_Parse_spec t hb.head.1).mono ?_⟩
  rintro e2 w2 ⟨hp, s2⟩
  have s02 := (s1.trans (drew_still w1)).trans s2
  have hz1 := s1.size
  have hz2 := s02.size
  have h2 := h.still s02
  cases hw : wpL 30 t with
  | bad j =>
    rw [hw] at hp
    have hj : j ≠ 0 := fun e => wpL_nz 30 t (by rw [hw, e])
    refine .inl ⟨_, _, _, _, hp, h2.step fun w3 o3 h3 => ⟨s02.only.tr o3, hj, rfl⟩⟩
  | ok l =>
    rw [hw] at hp
    obtain ⟨v, rfl, hsl⟩ := hp
    have hsl := hsl.here
    obtain ⟨p, c, rfl⟩ := hsl.form
    refine .inl ⟨_, _, _, _, rfl, h2.step fun w3 o3 h3 => ⟨s02.only.tr o3, _, rfl, ?_, h3⟩⟩
    have hg := h.lt
    have hz3 := o3.size
    have hzd : w1.drew.heap.size = w1.heap.size := rfl
    exact (hsl.mod o3 fun k hk (e : k = g) => by have hk1 : w1.drew.heap.size ≤ k := hk.1; omega).mono fun k hk => by
      have hk1 : w1.drew.heap.size ≤ k := hk.1
      have hk2 : k < w2.heap.size := hk.2
      exact ⟨by omega, by omega⟩
def RzR (w : World) (g : Nat) (r : Rs ((Txt × List Pt) × Ts)) (e : Ending) (w' : World) : Prop := Only g w w' ∧ match r with
  | .ok x => ∃ v, e = .returned (.tuple #[.agg #[.string (S x.1.1), v], .int .i64 0]) ∧ SlAt w' (fun k => w.heap.size ≤ k ∧ k < w'.heap.size) x.1.2 v ∧ Rz w' g x.2
  | .bad k => k ≠ 0 ∧ ∃ t, e = .returned (.tuple #[.agg #[.string (S t), .slice none 0 0], .int .i64 (k : Int)])
theorem rzredirect_spec {g : Nat} {x : Nat × Txt} {r : Ts} (h : Rz w g (x :: r)) (hb : TB (x :: r)) : Calls Tryd.prog fn_ref09_parser_redirect #[.pointer (some ⟨g, 0, none⟩)] w (RzR w g (redirF (x :: r))) := by
  refine ref09_parser_redirect_calls _ _ _ ?_
  have hg := h.lt
  refine allocK fun w1 r1 s1 z1 => ?_
  obtain ⟨L, c, n, b, hn, hl, _, hs⟩ := h.at
  have s01 := s1.trans (drew_still w1)
  refine ⟨fun wq => Still w wq, s01, some b, L, c, fun wq hq => (hs wq hq).1, n, fun wq hq => (hs wq hq).2.1, by omega, by omega, x.2, fun wq hq => (hs wq hq).2.2.2.2, allocK fun w2 r2 s2 z2 => ⟨s01.trans s2, stK r2 (by simp) (by simp [Value.oneCell']) fun w3 r3 m3 z3 => ?_⟩⟩
  have hzd : w1.drew.heap.size = w1.heap.size := rfl
  have s03 : Still w w3 := Mod.trans (s01.trans s2) m3 (fun _ h => h) (fun i hi e => by omega)
  have h3 := h.still s03
  have res3 := ((r1.still (drew_still w1)).still s2).mod m3 (by omega)
  refine h3.step fun w4 o4 h4 => ?_
  have hz4 := o4.size
  have o04 := s03.only.tr o4
  refine (rzparts_spec h4 hb.tail).mono ?_
  rintro e5 w5 ⟨o5, hp⟩
  have hz5 := o5.size
  have o05 := o04.tr o5
  have hrf : redirF (x :: r) = (partsF r).and fun y => .ok ((x.2, y.1), y.2) := by cases x; rfl
  rw [hrf]
  have r3 : Row w3 w1.drew.heap.size 52 ⟨[.string (S x.2), .slice none 0 0]⟩ := r3
  have r5 := (r3.mod o4 (by omega)).mod o5 (by omega)
  have res5 := (res3.mod o4 (by omega)).mod o5 (by omega)
  cases hr : partsF r with
  | bad k =>
    rw [hr] at hp
    obtain ⟨hk, rfl⟩ := hp
    refine .inl ⟨_, _, _, _, rfl, stK r5 (by simp) (by simp [Value.oneCell']) fun w6 r6 m6 z6 => ?_⟩
    refine ⟨_, _, _, _, r6.lget rfl, r6.lget rfl, stK (res5.mod m6 (by omega)) (by simp) (by simp [Value.oneCell']) fun w7 r7 m7 z7 => ⟨_, _, _, _, r7.lget rfl, r7.lget rfl, ?_⟩⟩
    exact ⟨Mod.trans (Mod.trans o05 m6 (fun _ h => h) (fun i hi e => by omega)) m7 (fun _ h => h) (fun i hi e => by omega), hk, _, rfl⟩
  | ok y =>
    rw [hr] at hp
    obtain ⟨v, rfl, hsl, h5⟩ := hp
    obtain ⟨p, c, rfl⟩ := hsl.form
    refine .inl ⟨_, _, _, _, rfl, stK r5 (by simp) (by simp [Value.oneCell']) fun w6 r6 m6 z6 => ?_⟩
    refine ⟨_, _, _, _, r6.lget rfl, r6.lget rfl, stK (res5.mod m6 (by omega)) (by simp) (by simp [Value.oneCell']) fun w7 r7 m7 z7 => ⟨_, _, _, _, r7.lget rfl, r7.lget rfl, ?_⟩⟩
    refine ⟨Mod.trans (Mod.trans o05 m6 (fun _ h => h) (fun i hi e => by omega)) m7 (fun _ h => h) (fun i hi e => by omega), _, rfl, ?_, (h5.mod m6 (by intro k hk e; omega)).mod m7 (by intro k hk e; omega)⟩
    exact ((hsl.mod m6 fun k hk (e : k = _) => by have hk1 : w4.heap.size ≤ k := hk.1; omega).mod m7 fun k hk (e : k = _) => by have hk1 : w4.heap.size ≤ k := hk.1; omega).mono fun k hk => by
      have hk1 : w4.heap.size ≤ k := hk.1
      have hk2 : k < w5.heap.size := hk.2
      exact ⟨by omega, by omega⟩
def resT (t : Txt) : Bool := closL.contains t || decide (t = tBang)
theorem rzreserved_spec (t : Txt) : Calls Tryd.prog fn_ref09_Reserved #[.string (S t)] w (fun e w' => e = .returned (.bool (resT t)) ∧ w' = w) := by
  refine ref09_Reserved_calls _ _ _ ?_
  refine ⟨fun b w1 => w1 = w ∧ b = resT t, bsel_of (fun n1 => ⟨rfl, by have e := of_decide_eq_true n1; subst e; rfl⟩) (fun n1 => bsel_of (fun n2 => ⟨rfl, by have e := of_decide_eq_true n2; subst e; rfl⟩) (fun n2 => bsel_of (fun n3 => ⟨rfl, by have e := of_decide_eq_true n3; subst e; rfl⟩) (fun n3 => bsel_of (fun n4 => ⟨rfl, by have e := of_decide_eq_true n4; subst e; rfl⟩) (fun n4 => bsel_of (fun n5 => ⟨rfl, by have e := of_decide_eq_true n5; subst e; rfl⟩) (fun n5 => bsel_of (fun n6 => ⟨rfl, by have e := of_decide_eq_true n6; subst e; rfl⟩) (fun n6 => bsel_of (fun n7 => ⟨rfl, by have e := of_decide_eq_true n7; subst e; rfl⟩) (fun n7 => bsel_of (fun n8 => ⟨rfl, by have e := of_decide_eq_true n8; subst e; rfl⟩) (fun n8 => ?_)))))))), ?_⟩
  · have hc : closL.contains t = false := by
      cases hc : closL.contains t with
      | false => rfl
      | true =>
        have hm := List.contains_iff_mem.1 hc
        simp only [closL, List.mem_cons, List.not_mem_nil, or_false] at hm
        rcases hm with e | e | e | e | e | e | e | e
        · exact absurd e (of_decide_eq_false n1)
        · exact absurd e (of_decide_eq_false n2)
        · exact absurd e (of_decide_eq_false n3)
        · exact absurd e (of_decide_eq_false n4)
        · exact absurd e (of_decide_eq_false n5)
        · exact absurd e (of_decide_eq_false n6)
        · exact absurd e (of_decide_eq_false n7)
        · exact absurd e (of_decide_eq_false n8)
    exact ⟨rfl, by unfold resT; rw [hc]; rfl⟩
  · rintro b _ w1 ⟨rfl, rfl⟩
    exact bsel_of (fun h => ⟨by rw [h], rfl⟩) (fun h => ⟨by rw [h], rfl⟩)
theorem rzends_spec {g : Nat} {s : Ts} (h : Rz w g s) : Calls Tryd.prog fn_ref09_parser_ends #[.pointer (some ⟨g, 0, none⟩)] w (fun e w' => e = .returned (.bool (endsF s)) ∧ Still w w') := by
  refine ref09_parser_ends_calls _ _ _ ?_
  cases s with
  | nil =>
    obtain ⟨a, L, c, hs⟩ := h.nil
    obtain ⟨h0, h1⟩ := hs w (Still.refl w)
    exact ⟨_, h1, _, _, _, h0, bsel_of (fun _ => ⟨rfl, drew_still w⟩) (fun hx => absurd rfl (of_decide_eq_false hx))⟩
  | cons x r =>
    obtain ⟨L, c, n, b, hn, hl, _, hs⟩ := h.at
    obtain ⟨h0, h1, _, h2, h3⟩ := hs w (Still.refl w)
    obtain ⟨k, t⟩ := x
    refine ⟨_, h1, _, _, _, h0, bsel_of (fun hx => absurd (of_decide_eq_true hx) (by omega)) (fun _ => ?_)⟩
    refine ⟨fun wq => Still w wq, (drew_still w).trans (drew_still _), _, _, _, fun wq hq => (hs wq hq).1, _, fun wq hq => (hs wq hq).2.1, by omega, by omega, _, _, fun wq hq => (hs wq hq).2.2.2.1, fun wq hq => (hs wq hq).2.2.2.2, allocK fun w1 r1 s1 z1 => ⟨((drew_still w).trans (drew_still _)).trans s1, stK r1 (by simp) (by simp [Value.oneCell']) fun w2 r2 m2 z2 => ?_⟩⟩
    have hz : w.drew.drew.heap.size = w.heap.size := rfl
    have s02 : Still w w2 := Mod.trans (((drew_still w).trans (drew_still _)).trans s1) m2 (fun _ h => h) (fun i hi e => by omega)
    have r2 : Row w2 w.drew.drew.heap.size 59 ⟨[.int .i64 (k : Int), .string (S t)]⟩ := r2
    have he : endsF ((k, t) :: r) = ((decide (k = 1) && (decide (t = tShut) || decide (t = tSemi2))) || (decide (k = 0) && closL.contains t)) := rfl
    rw [he]
    refine ⟨_, r2.lget rfl, bsel_of (fun hk => ?_) (fun hk => ?_)⟩
    · have hk : k = 1 := by have := of_decide_eq_true hk; omega
      subst hk
      refine ⟨_, r2.lget rfl, bsel_of (fun ht => ⟨?_, s02⟩) (fun ht => ⟨_, r2.lget rfl, bsel_of (fun ht2 => ⟨?_, s02⟩) (fun ht2 => ⟨_, r2.lget rfl, bsel_of (fun hf => absurd (of_decide_eq_true hf) (by decide)) (fun _ => ⟨?_, s02⟩)⟩)⟩)⟩
      · rw [ht]; rfl
      · rw [ht2, ht]; rfl
      · rw [ht, ht2]; rfl
    · have hk : ¬ k = 1 := by have := of_decide_eq_false hk; omega
      rw [decide_eq_false hk, Bool.false_and, Bool.false_or]
      refine ⟨_, r2.lget rfl, bsel_of (fun hk0 => ?_) (fun hk0 => ⟨?_, s02⟩)⟩
      rotate_left
      · have : ¬ k = 0 := by have := of_decide_eq_false hk0; omega
        rw [decide_eq_false this]
        rfl
      have hk0 : k = 0 := by have := of_decide_eq_true hk0; omega
      rw [decide_eq_true hk0, Bool.true_and]
      refine ⟨_, r2.lget rfl, bsel_of (fun hb => ?_) (fun hb => ⟨?_, s02⟩)⟩
      · have hb : decide (t = tBang) = false := by simpa using hb
        refine ⟨_, r2.lget rfl, (rzreserved_spec t).mono ?_⟩
        rintro _ w3 ⟨rfl, rfl⟩
        exact .inl ⟨_, rfl, by unfold resT; rw [hb, Bool.or_false], s02⟩
      · have hb : t = tBang := by simpa using hb
        rw [hb]
        rfl
theorem Rz.all {g : Nat} {x : Nat × Txt} {r : Ts} (h : Rz w g (x :: r)) : ∃ (L c n : Nat) (b : Addr), L ≤ 20000 ∧ L = n + (r.length + 1) ∧ ∀ w', Still w w' → w'.cell? (Addr.mk g 0 none) = some (.slice (some b) L c) ∧ w'.cell? (Addr.mk g 1 none) = some (.int .i64 (n : Int)) ∧ ∀ (i : Nat) (y : Nat × Txt), (x :: r)[i]? = some y → w'.cell? (b.add ((n + i) * 2)) = some (.int .i64 (y.1 : Int)) ∧ w'.cell? ((b.add ((n + i) * 2)).add 1) = some (.string (S y.2)) := by
  obtain ⟨all, a, c, n, he, hn, hl, hr, ht⟩ := h
  have hlen := congrArg List.length he
  rw [List.length_drop, List.length_cons] at hlen
  have h0 : all[n]? = some x := by
    have := congrArg (fun l : Ts => l[0]?) he
    simp only [List.getElem?_cons_zero, List.getElem?_drop, Nat.add_zero] at this
    exact this.symm
  obtain ⟨b, _, rfl, _, _, _⟩ := ht.get h0
  refine ⟨all.length, c, n, b, hl, by omega, fun w' hs => ⟨hs.cell (hr.lget rfl), hs.cell (hr.lget rfl), fun i y hy => ?_⟩⟩
  rw [he, List.getElem?_drop] at hy
  obtain ⟨b', cs, hb', _, hE, hc⟩ := ht.get hy
  obtain rfl := Option.some.inj hb'
  obtain rfl : cs = [.int .i64 (y.1 : Int), .string (S y.2)] := hE
  exact ⟨hs.cell hc.zero, hs.cell (hc 1 _ rfl)⟩
theorem rzfunction_spec {g : Nat} {s : Ts} (h : Rz w g s) (hb : TB s) : Calls Tryd.prog fn_ref09_parser_function #[.pointer (some ⟨g, 0, none⟩)] w (fun e w' => e = .returned (.bool (funcB s)) ∧ Still w w') := by
  refine ref09_parser_function_calls _ _ _ ?_
  refine ⟨fun wq => Still w wq, drew_still w, (rzword_spec (h.still (drew_still w))).mono ?_⟩
  rintro _ w1 ⟨rfl, s1⟩
  have s01 := (drew_still w).trans s1
  refine .inl ⟨_, rfl, s01, bsel_of (fun hx => ⟨?_, s01⟩) (fun hx => ?_)⟩
  · have hx : isW s = false := by simpa using hx
    match s, hx with
    | [], _ => rfl
    | (k, t) :: r, hx =>
      have hk : decide (k = 0) = false := hx
      show _ = Ending.returned (.bool (decide (k = 0) && isName t && isT 1 tOpen r && isT 1 tShut r.tail))
      rw [hk]
      rfl
  have hx : isW s = true := by simpa using hx
  obtain ⟨t, r, rfl⟩ : ∃ t r, s = (0, t) :: r := by
    match s, hx with
    | (k, t) :: r, hx => exact ⟨t, r, by rw [show k = 0 from of_decide_eq_true hx]⟩
  have hfe : funcB ((0, t) :: r) = (isName t && isT 1 tOpen r && isT 1 tShut r.tail) := rfl
  rw [hfe]
  obtain ⟨L, c, n, b, hl, hL, hs⟩ := h.all
  have e1 : IntKind.i64.wrap ((n : Int) + 1) = ((n + 1 : Nat) : Int) := by rw [wrap_i64 (by omega) (by omega)]; omega
  have e2 : IntKind.i64.wrap ((n : Int) + 2) = ((n + 2 : Nat) : Int) := by rw [wrap_i64 (by omega) (by omega)]; omega
  refine ⟨(n : Int), fun wq hq => (hs wq hq).2.1, _, _, _, fun wq hq => (hs wq hq).1, ?_⟩
  rw [e2]
  refine bsel_of (fun hlt => ⟨?_, s01⟩) (fun hlt => ?_)
  · have hlt := of_decide_eq_true hlt
    have hr : r.length ≤ 1 := by omega
    have : isT 1 tShut r.tail = false := by
      match r, hr with
      | [], _ => rfl
      | [_], _ => rfl
    rw [this, Bool.and_false]
  have hlt := of_decide_eq_false hlt
  obtain ⟨y, z, r', rfl⟩ : ∃ y z r', r = y :: z :: r' := by
    match r, hlt, hL with
    | [], h1, h2 => exact absurd (show (L : Int) ≤ ((n + 2 : Nat) : Int) by simp only [List.length_nil] at h2; omega) h1
    | [_], h1, h2 => exact absurd (show (L : Int) ≤ ((n + 2 : Nat) : Int) by simp only [List.length_cons, List.length_nil] at h2; omega) h1
    | y :: z :: r', _, _ => exact ⟨y, z, r', rfl⟩
  simp only [List.length_cons] at hL
  obtain ⟨a0, a1, a2⟩ := hs w1 s01
  refine ⟨_, _, _, a0, _, a1, by omega, by omega, t, (a2 0 _ rfl).2, fun wq => Still w wq, (s01.trans (drew_still _)).trans (drew_still _), (ref_Name_spec t hb.head.1).mono ?_⟩
  rintro _ w2 ⟨rfl, rfl⟩
  have s02 : Still w w1.drew.drew := (s01.trans (drew_still _)).trans (drew_still _)
  refine .inl ⟨_, rfl, s02, bsel_of (fun hn => ?_) (fun hn => ⟨?_, s02⟩)⟩
  rotate_left
  · have hn := of_decide_eq_false hn
    have : isName t = false := decide_eq_false fun e => hn (by rw [e.2])
    rw [this]
    rfl
  have hnm : isName t = true := decide_eq_true ⟨hb.head.2, by have := of_decide_eq_true hn; omega⟩
  rw [hnm]
  refine ⟨_, _, _, fun wq hq => (hs wq hq).1, (n : Int), fun wq hq => (hs wq hq).2.1, ?_⟩
  rw [e1]
  refine ⟨by omega, by omega, (y.1 : Int), y.2, fun wq hq => ((hs wq hq).2.2 1 y rfl).1, fun wq hq => ((hs wq hq).2.2 1 y rfl).2, ?_⟩
  rw [show (decide ((y.1 : Int) = (1 : Int)) && ((decide (y.2 = [40])) && true)) = isT 1 tOpen (y :: z :: r') from peek_isT (y :: z :: r') 1 (by decide)]
  refine bsel_of (fun ho => ?_) (fun ho => ⟨?_, s02⟩)
  rotate_left
  · rw [ho]
    rfl
  rw [ho]
  refine ⟨_, _, _, fun wq hq => (hs wq hq).1, (n : Int), fun wq hq => (hs wq hq).2.1, ?_⟩
  rw [e2]
  refine ⟨by omega, by omega, (z.1 : Int), z.2, fun wq hq => ((hs wq hq).2.2 2 z rfl).1, fun wq hq => ((hs wq hq).2.2 2 z rfl).2, ?_, s02⟩
  rw [show (decide ((z.1 : Int) = (1 : Int)) && ((decide (z.2 = [41])) && true)) = isT 1 tShut (z :: r') from peek_isT (z :: r') 1 (by decide)]
  rfl
def RzP (w : World) (g : Nat) (r : Rs (Nd × Ts)) (e : Ending) (w' : World) : Prop := Only g w w' ∧ ∃ (x : Nd) (cs : List Value) (er : Int), e = .returned (.tuple #[.agg ⟨cs⟩, .int .i64 er]) ∧ NdE w' (fun k => w.heap.size ≤ k ∧ k < w'.heap.size) x cs ∧ match r with
  | .ok y => er = 0 ∧ x = y.1 ∧ Rz w' g y.2
  | .bad k => k ≠ 0 ∧ er = (k : Int)
def RCmdS (L : Nat) : Prop := ∀ (w : World) (g : Nat) (s : Ts), Rz w g s → TB s → Calls Tryd.prog fn_ref09_parser_command #[.pointer (some ⟨g, 0, none⟩), .int .i64 (31 - (L : Int))] w (RzP w g ((lvS L).1 s))
def RBrS (L : Nat) : Prop := ∀ (w : World) (g : Nat) (s : Ts), Rz w g s → TB s → L ≠ 0 → Calls Tryd.prog fn_ref09_parser_branch #[.pointer (some ⟨g, 0, none⟩), .int .i64 (31 - (L : Int))] w (RzP w g ((lvS L).2 s))
end Go.Proofs.YthommfjiaalecaaDoor
namespace Go.Proofs.YthommfjiaalecaaDoor
open Go.RowKit Vc
variable {w : World} {α β : Type}
section
variable {e : Enc α} {B gn : Nat} {t : TypeId} {X X' : Nat → Prop} {l : List α} {v : Value}
theorem Enc.OutX.push2 {bytes : Nat} {p : Option Addr} {n c : Nat} {x : α} {cs : List Value} {K : Option Addr → Nat → World → Prop} {Sw : World → Prop} (ho : e.OutX w B t X gn l (.slice p n c)) (hB : B ≤ w.heap.size) (_hXs : ∀ k, X k → k < w.heap.size) (hgn : gn < w.heap.size)
    (hS : ∀ w1, Still w w1 → Sw w1) (hx : e.E w (fun k => B ≤ k ∧ k < w.heap.size ∧ ¬ X k) x cs) (hs : n + 1 ≤ 9223372036854775807) (hb : (n + 1) * bytes ≤ 140737488355328)
    (h : ∀ p' c' w', e.OutX w' B t (fun k => X k ∨ (Value.slice p' (n + 1) c').ownBlock = some k) gn (l ++ [x]) (.slice p' (n + 1) c') → Mod (fun k => (Value.slice p n c).ownBlock = some k) w w' → (∀ k, (Value.slice p' (n + 1) c').ownBlock = some k → X k ∨ w.heap.size ≤ k) → (∀ k, (Value.slice p' (n + 1) c').ownBlock = some k → k < w'.heap.size) → (∀ k, (Value.slice p' (n + 1) c').ownBlock = some k → (Value.slice p n c).ownBlock = some k ∨ w.heap.size ≤ k) → K p' c' w') :
    letW (w.alloc (.cells ⟨cs⟩ t)) (fun w2 => Sw w2 ∧ appK w2 t e.sz bytes p n c (some (Addr.mk w.heap.size 0 none)) 1 K) := by
  obtain ⟨p0, c0, xs, he, ho, hg, hc⟩ := ho
  injection he with e1 e2 e3
  subst e1 e2 e3
  have hl := e.len hx
  refine allocK fun w1 hr hst hz => ⟨hS w1 hst, ?_⟩
  refine appK_push (ho.still hst) (by omega) cs (by omega) (e.one hx) (fun _ => ⟨_, rfl, fun j u hu => ?_⟩) hs hb fun p' c' w' ho' hm hk => ?_
  · rw [add_row, Nat.zero_add]
    exact hr.cellv (by simpa using hu)
  have hz' := hm.size
  have hown : ∀ k, (Value.slice p' (l.length + 1) c').ownBlock = some k → (X k ∧ k ≠ gn) ∨ w.heap.size + 1 = k := by
    intro k hk'
    rcases hk.own (n := l.length) with hk | hk
    · exact .inl (hg k (hk.symm.trans hk'))
    · rw [hk'] at hk
      have := Option.some.inj hk
      exact .inr (by omega)
  refine h p' c' w' ⟨p', c', xs ++ cs, by rw [List.length_append]; rfl, by rw [List.length_append]; exact ho', fun k hk' => ⟨.inr hk', ?_⟩, ?_⟩ (Mod.trans hst hm (fun _ h => h.elim) (fun _ _ h => h)) (fun k hk' => ?_) (fun k hk' => (ho'.lt k hk').2) fun k hk' => ?_
  · rcases hown k hk' with h | h
    · exact h.2
    · omega
  · refine (hc.append (Enc.Cs.single hx)).turn (fun k hk => ⟨hk.1, by omega, fun hx => ?_⟩) fun a v ⟨k, hk, ea⟩ hcell => mod_cell hm (by rw [ea]; exact fun h => hk.2.2 (hg k h).1) (hst.cell hcell)
    rcases hx with hx | hx
    · exact hk.2.2 hx
    · rcases hown k hx with h | h
      · exact hk.2.2 h.1
      · omega
  · rcases hown k hk' with h | h
    · exact .inl h.1
    · exact .inr (by omega)
  · rcases hk.own (n := l.length) with hk | hk
    · exact .inl (hk.symm.trans hk')
    · rw [hk'] at hk
      have := Option.some.inj hk
      exact .inr (by omega)
end
theorem NB.addK2 {w0 : World} {g gn B : Nat} {X : Nat → Prop} {x : Nd} {vw va vr vo : Value} {p : Option Addr} {n c : Nat} {y : Nd} {cs : List Value} (h2 : NB w0 w g gn B X x vw va vr vo (.slice p n c)) (hy : ndE.E w (fun k => B ≤ k ∧ k < w.heap.size ∧ ¬ X k) y cs) (hn : x.ks.length < 1000000) {K : World → Prop}
    (hK : ∀ p' c' w' X', NB w0 w' g gn B X' (x.addK y) vw va vr vo (.slice p' (n + 1) c') → Mod (fun k => (Value.slice p n c).ownBlock = some k ∨ k = gn) w w' → (∀ k, X k → X' k) → (∀ k, X' k → X k ∨ w.heap.size ≤ k) → (∀ k, (Value.slice p' (n + 1) c').ownBlock = some k → (Value.slice p n c).ownBlock = some k ∨ w.heap.size ≤ k) → K w') :
    letW (w.alloc (.cells ⟨cs⟩ 32)) (fun w2 => w2.cell? (Addr.mk gn 7 none) = some (.slice p n c) ∧ appK w2 32 8 152 p n c (some (Addr.mk w.heap.size 0 none)) 1 (fun p' c' w9 => stCells (Addr.mk gn 7 none) K 0 [.slice p' (n + 1) c'] w9)) := by
  obtain ⟨_, _, _, he, _, hg, _⟩ := id h2.ok
  injection he with _ en _
  have hgl := h2.row.lt
  have hsz := h2.only.size
  have hgn := h2.hgn
  have hB := h2.hB
  refine Enc.OutX.push2 (Sw := fun wq => wq.cell? (Addr.mk gn 7 none) = some (.slice p n c)) h2.ok (by omega) (fun k hk => (h2.xs k hk).1) hgl (fun wq hq => (h2.row.still hq).lget rfl) hy (by omega) (by omega) fun p' c' w9 ho9 hm9 hw9 hl9 hf9 => ?_
  have hr9 := h2.row.mod hm9 (fun hk => (hg gn hk).2 rfl)
  refine stK hr9 (by simp) (by simp [Value.oneCell']) fun w10 r10 m10 z10 => hK p' c' w10 (fun k => X k ∨ (Value.slice p' (n + 1) c').ownBlock = some k) ?_ ?_ (fun _ h => .inl h) (fun k hk => hk.elim .inl fun h => hw9 k h) hf9
  rotate_left
  · exact Mod.trans hm9 m10 (fun k hk => .inl hk) (fun k _ hk => .inr hk)
  have hz9 := hm9.size
  have hz10 := m10.size
  have oth : ∀ {β : Type} {f : Enc β} {u : TypeId} {m : List β} {v' : Value}, f.OutX w B u X gn m v' → (∀ k, (Value.slice p n c).ownBlock = some k → v'.ownBlock ≠ some k) → f.OutX w10 B u (fun k => X k ∨ (Value.slice p' (n + 1) c').ownBlock = some k) gn m v' := by
    intro β f u m v' hf hne
    obtain ⟨_, _, _, _, _, hgv, _⟩ := id hf
    exact (hf.mod hm9 (fun k _ _ hs => ⟨(hg k hs).1, hne k hs⟩) (fun _ h => .inl h) (fun k hk => hk.elim .inl (fun h => hw9 k h))).mod m10 (fun k _ _ e => by subst e; exact ⟨.inl h2.xg, fun hk => (hgv _ hk).2 rfl⟩) (fun _ h => h) (fun _ h => .inl h)
  have own10 := ho9.mod m10 (X' := fun k => X k ∨ (Value.slice p' (n + 1) c').ownBlock = some k) (fun k _ _ e => by
    subst e
    obtain ⟨_, _, _, _, _, hgv, _⟩ := id ho9
    exact ⟨.inl h2.xg, fun hk => (hgv _ hk).2 rfl⟩) (fun _ h => h) (fun _ h => .inl h)
  have hlow : ∀ k, (Value.slice p' (n + 1) c').ownBlock = some k → B ≤ k := fun k hk => by
    rcases hw9 k hk with hk | hk
    · exact (h2.xs k hk).2
    · omega
  refine ⟨r10, Mod.trans (Mod.trans h2.only hm9 (fun _ h => h) (fun i hi hk => by have := (h2.xs _ (hg _ hk).1).2; omega)) m10 (fun _ h => h) (fun i hi e => by omega), h2.hg, hB, hgn, fun k hk => ?_, .inl h2.xg, oth h2.ow (fun k hk => h2.ok.apart h2.ow (by decide) hk), oth h2.oa (fun k hk => h2.ok.apart h2.oa (by decide) hk), oth h2.ord (fun k hk => h2.ok.apart h2.ord (by decide) hk), oth h2.oo (fun k hk => h2.ok.apart h2.oo (by decide) hk), own10⟩
  rcases hk with hk | hk
  · have := h2.xs k hk
    exact ⟨by omega, this.2⟩
  · have := hl9 k hk
    exact ⟨by omega, hlow k hk⟩
theorem NB.beside {w0 w' : World} {g gn B kb : Nat} {X : Nat → Prop} {x : Nd} {vw va vr vo vk : Value} (h : NB w0 w g gn B X x vw va vr vo vk) (hX : X kb) (hne : kb ≠ gn) (hv : ∀ v ∈ [vw, va, vr, vo, vk], v.ownBlock ≠ some kb) (hm : Mod (fun k => k = kb) w w') : NB w0 w' g gn B X x vw va vr vo vk := by
  have hz := hm.size
  have hB := h.hB
  have hk := (h.xs kb hX).2
  refine ⟨h.row.mod hm (fun e => hne e.symm), Mod.trans h.only hm (fun _ h => h) (fun i hi e => by omega), h.hg, hB, h.hgn, fun k hk => ⟨Nat.lt_of_lt_of_le (h.xs k hk).1 hz, (h.xs k hk).2⟩, h.xg, ?_, ?_, ?_, ?_, ?_⟩
  · exact h.ow.mod hm (fun k _ _ e => by subst e; exact ⟨hX, hv _ (by simp)⟩) (fun _ h => h) (fun _ h => .inl h)
  · exact h.oa.mod hm (fun k _ _ e => by subst e; exact ⟨hX, hv _ (by simp)⟩) (fun _ h => h) (fun _ h => .inl h)
  · exact h.ord.mod hm (fun k _ _ e => by subst e; exact ⟨hX, hv _ (by simp)⟩) (fun _ h => h) (fun _ h => .inl h)
  · exact h.oo.mod hm (fun k _ _ e => by subst e; exact ⟨hX, hv _ (by simp)⟩) (fun _ h => h) (fun _ h => .inl h)
  · exact h.ok.mod hm (fun k _ _ e => by subst e; exact ⟨hX, hv _ (by simp)⟩) (fun _ h => h) (fun _ h => .inl h)
theorem setK2_spec {w0 : World} {g gn B : Nat} {X : Nat → Prop} {x y : Nd} {vw va vr vo vk : Value} {cs : List Value} (nb : NB w0 w g gn B X x vw va vr vo vk) (hn : NdE w (fun k => B ≤ k ∧ k < w.heap.size ∧ ¬ X k) y cs) {K : World → Prop}
    (hK : ∀ w' X', NB w0 w' g gn B X' (x.setK y) vw va vr vo (.slice (some ⟨w.heap.size, 0, none⟩) 1 1) → Mod (fun k => k = gn) w w' → w'.heap.size = w.heap.size + 1 → (∀ k, X k → X' k) → (∀ k, X' k → X k ∨ w.heap.size ≤ k) → K w') :
    letW (w.alloc (.cells ⟨cs⟩ 32)) (fun w2 => stCells (Addr.mk gn 7 none) K 0 [.slice (some (Addr.mk w.heap.size 0 none)) 1 1] w2) := by
  have hl := nb.row.lt
  have hB := nb.hB
  have hgn := nb.hgn
  refine allocK fun w2 r2 s2 z2 => ?_
  have nb2 := nb.more (Y := fun k => X k ∨ k = w.heap.size) s2 (fun k hk => .inl hk) (fun k hk => hk.imp_right fun e => by omega)
  refine stK nb2.row (by simp) (by simp [Value.oneCell']) fun w3 r3 m3 z3 => hK w3 _ (nb2.put m3 (y := x.setK y) r3 (.inr ⟨rfl, rfl⟩) ⟨rfl, rfl⟩ ⟨rfl, rfl⟩ (.inr ⟨rfl, rfl⟩) (.inl ?_)) (Mod.trans s2 m3 (fun _ h => h.elim) (fun k _ e => e)) (by omega) (fun k hk => .inl hk) (fun k hk => hk.imp_right fun e => by omega)
  have hn3 := (hn.still s2).mod m3 (fun k hk (e : k = gn) => hk.2.2 (e ▸ nb.xg))
  refine Enc.OutX.row (l := [y]) (r2.mod m3 (by omega)) (by omega) (by omega) (.inr rfl) (show 1 ≤ 1000000 by decide) (Enc.Cs.single (hn3.mono fun k hk => ⟨hk.1, by have := hk.2.1; omega, fun hx => ?_⟩))
  rcases hx with hx | hx
  · exact hk.2.2 hx
  · have := hk.2.1
    omega
end Go.Proofs.YthommfjiaalecaaDoor
namespace Go.Proofs.YthommfjiaalecaaDoor
open Go.RowKit Vc
variable {w : World}
structure NK (w0 w : World) (g gn kb B : Nat) (X : Nat → Prop) (x : Nd) (vo vk : Value) (y : Nd) : Prop where
  nb : NB w0 w g gn B X x (.slice none 0 0) (.slice none 0 0) (.slice none 0 0) vo vk
  xk : X kb
  ne : kb ≠ gn
  ownO : vo.ownBlock ≠ some kb
  ownK : vk.ownBlock ≠ some kb
  last : ∃ cs, Row w kb 32 ⟨cs⟩ ∧ NdE w (fun k => B ≤ k ∧ k < w.heap.size ∧ ¬ X k) y cs
theorem NK.on {w0 w' : World} {g gn kb B : Nat} {X : Nat → Prop} {x y : Nd} {vo vk : Value} (h : NK w0 w g gn kb B X x vo vk y) (hm : Only g w w') : NK w0 w' g gn kb B X x vo vk y := by
  obtain ⟨nb, xk, ne, o1, o2, cs, hr, hn⟩ := h
  have hg := nb.hg
  have hB := nb.hB
  have hk := (nb.xs kb xk).2
  have hz := hm.size
  refine ⟨nb.on hm, xk, ne, o1, o2, cs, hr.mod hm (by omega), ?_⟩
  exact (hn.mod hm fun k hk (e : k = g) => by have := hk.1; omega).mono fun k hk => ⟨hk.1, by have := hk.2.1; omega, hk.2.2⟩
theorem NK.still {w0 w' : World} {g gn kb B : Nat} {X : Nat → Prop} {x y : Nd} {vo vk : Value} (h : NK w0 w g gn kb B X x vo vk y) (hm : Still w w') : NK w0 w' g gn kb B X x vo vk y := h.on hm.only
theorem NK.next {w0 w1 : World} {g gn kb B : Nat} {X : Nat → Prop} {x y z : Nd} {vo : Value} {p : Option Addr} {n c : Nat} {cs : List Value} (h : NK w0 w1 g gn kb B X x vo (.slice p n c) y) (o : Only g w1 w) (hz : NdE w (fun k => w1.heap.size ≤ k ∧ k < w.heap.size) z cs) (hn : x.ks.length < 1000000) {K K2 : World → Prop}
    (hK : ∀ p' c' w' X', NK w0 w' g gn kb B X' (x.addK z) vo (.slice p' (n + 1) c') z → Mod (fun k => B ≤ k) w w' → K w')
    (hK2 : ∀ w2, w2.cell? (Addr.mk gn 7 none) = some (.slice p n c) → Row w2 kb 32 ⟨cs⟩ → letW (w2.alloc (.cells ⟨cs⟩ 32)) (fun w3 => appK w3 32 8 152 p n c (some (Addr.mk w2.heap.size 0 none)) 1 (fun p' c' w9 => stCells (Addr.mk gn 7 none) K 0 [.slice p' (n + 1) c'] w9)) → K2 w2) : stCells (Addr.mk kb 0 none) K2 0 cs w := by
  have h1 := h.on o
  obtain ⟨nb, xk, ne, o1, o2, cs0, hr, hn0⟩ := h1
  have hxs := h.nb.xs
  have hkb := nb.xs kb xk
  have hgl := h.nb.row.lt
  have hgn := h.nb.hgn
  have hB := h.nb.hB
  have hzo := o.size
  have hl0 : cs0.length = 8 := by
    obtain ⟨_, _, _, _, _, rfl, _⟩ := hn0.raw
    rfl
  have hl : cs.length = 8 := by
    obtain ⟨_, _, _, _, _, rfl, _⟩ := hz.raw
    rfl
  have h1c : ∀ v ∈ cs, v.oneCell' = true := ndE.one hz
  refine stK hr (by omega) h1c fun w2 r2 m2 z2 => ?_
  have e2 : ovw cs0 0 cs = cs := by
    obtain ⟨a0, a1, a2, a3, a4, a5, a6, a7, rfl⟩ : ∃ a0 a1 a2 a3 a4 a5 a6 a7, cs0 = [a0, a1, a2, a3, a4, a5, a6, a7] := by
      match cs0, hl0 with
      | [a0, a1, a2, a3, a4, a5, a6, a7], _ => exact ⟨_, _, _, _, _, _, _, _, rfl⟩
    obtain ⟨b0, b1, b2, b3, b4, b5, b6, b7, rfl⟩ : ∃ b0 b1 b2 b3 b4 b5 b6 b7, cs = [b0, b1, b2, b3, b4, b5, b6, b7] := by
      match cs, hl with
      | [b0, b1, b2, b3, b4, b5, b6, b7], _ => exact ⟨_, _, _, _, _, _, _, _, rfl⟩
    rfl
  rw [e2] at r2
  have nb2 := nb.beside xk ne (by
    intro v hv
    simp only [List.mem_cons, List.not_mem_nil, or_false] at hv
    rcases hv with rfl | rfl | rfl | rfl | rfl
    · exact fun h => by cases h
    · exact fun h => by cases h
    · exact fun h => by cases h
    · exact o1
    · exact o2) m2
  have hz2 : NdE w2 (fun k => B ≤ k ∧ k < w2.heap.size ∧ ¬ X k) z cs := (hz.mod m2 fun k hk (e : k = kb) => by have h1 : w1.heap.size ≤ k := hk.1; have := (hxs kb xk).1; omega).mono fun k hk => ⟨by have h1 : w1.heap.size ≤ k := hk.1; omega, by have h1 : k < w.heap.size := hk.2; omega, fun hx => by have h1 : w1.heap.size ≤ k := hk.1; have := (hxs k hx).1; omega⟩
  refine hK2 w2 (nb2.row.lget rfl) r2 (NB.addK2 nb2 hz2 hn fun p' c' w' X' nb3 m3 hXX hXY hown => hK p' c' w' X' ⟨nb3, hXX _ xk, ne, o1, fun hk => ?_, cs, r2.mod m3 (fun hk => ?_), ?_⟩ ?_).2
  · rcases hown _ hk with hk | hk
    · exact o2 hk
    · omega
  · rcases hk with hk | hk
    · exact o2 hk
    · exact ne hk
  · have hz3 := m3.size
    obtain ⟨_, _, _, _, _, hg, _⟩ := id nb2.ok
    exact (hz2.mod m3 fun k hk hs => hk.2.2 (hs.elim (fun h => (hg k h).1) (fun h => h ▸ nb2.xg))).mono fun k hk => ⟨hk.1, by have := hk.2.1; omega, fun hx => (hXY k hx).elim hk.2.2 fun h => by have := hk.2.1; omega⟩
  · obtain ⟨_, _, _, _, _, hg, _⟩ := id nb2.ok
    exact Mod.trans m2 m3 (fun k (e : k = kb) => by omega) (fun k _ hs => hs.elim (fun h => (nb2.xs k (hg k h).1).2) (fun h => by omega))
def NExitT (gn gr : Nat) (er : Int) (w : World) (R : Ending → World → Prop) : Prop :=
  ∃ vKind : Int, ∃ vNot : Bool, ∃ vName : List UInt8, ∃ (vWords : Option Addr) (vWordsL vWordsC : Nat), ∃ (vAssigns : Option Addr) (vAssignsL vAssignsC : Nat), ∃ (vRedirs : Option Addr) (vRedirsL vRedirsC : Nat), ∃ (vOps : Option Addr) (vOpsL vOpsC : Nat), ∃ (vKids : Option Addr) (vKidsL vKidsC : Nat), w.cell? (Addr.mk gn 0 none) = some (.int .i64 vKind) ∧ w.cell? (Addr.mk gn 1 none) = some (.bool vNot) ∧ w.cell? (Addr.mk gn 2 none) = some (.string (S vName)) ∧ w.cell? (Addr.mk gn 3 none) = some (.slice vWords vWordsL vWordsC) ∧ w.cell? (Addr.mk gn 4 none) = some (.slice vAssigns vAssignsL vAssignsC) ∧ w.cell? (Addr.mk gn 5 none) = some (.slice vRedirs vRedirsL vRedirsC) ∧ w.cell? (Addr.mk gn 6 none) = some (.slice vOps vOpsL vOpsC) ∧ w.cell? (Addr.mk gn 7 none) = some (.slice vKids vKidsL vKidsC) ∧ stCells (Addr.mk gr 0 none) (fun (w7 : World) => ∃ vKind1 : Int, ∃ vNot1 : Bool, ∃ vName1 : List UInt8, ∃ (vWords1 : Option Addr) (vWordsL1 vWordsC1 : Nat), ∃ (vAssigns1 : Option Addr) (vAssignsL1 vAssignsC1 : Nat), ∃ (vRedirs1 : Option Addr) (vRedirsL1 vRedirsC1 : Nat), ∃ (vOps1 : Option Addr) (vOpsL1 vOpsC1 : Nat), ∃ (vKids1 : Option Addr) (vKidsL1 vKidsC1 : Nat), w7.cell? (Addr.mk gr 0 none) = some (.int .i64 vKind1) ∧ w7.cell? (Addr.mk gr 1 none) = some (.bool vNot1) ∧ w7.cell? (Addr.mk gr 2 none) = some (.string (S vName1)) ∧ w7.cell? (Addr.mk gr 3 none) = some (.slice vWords1 vWordsL1 vWordsC1) ∧ w7.cell? (Addr.mk gr 4 none) = some (.slice vAssigns1 vAssignsL1 vAssignsC1) ∧ w7.cell? (Addr.mk gr 5 none) = some (.slice vRedirs1 vRedirsL1 vRedirsC1) ∧ w7.cell? (Addr.mk gr 6 none) = some (.slice vOps1 vOpsL1 vOpsC1) ∧ w7.cell? (Addr.mk gr 7 none) = some (.slice vKids1 vKidsL1 vKidsC1) ∧ R (.returned (.tuple #[(.agg #[(.int .i64 vKind1), (.bool vNot1), (.string (S vName1)), (.slice vWords1 vWordsL1 vWordsC1), (.slice vAssigns1 vAssignsL1 vAssignsC1), (.slice vRedirs1 vRedirsL1 vRedirsC1), (.slice vOps1 vOpsL1 vOpsC1), (.slice vKids1 vKidsL1 vKidsC1)]), (.int .i64 er)])) w7) 0 [(.int .i64 vKind), (.bool vNot), (.string (S vName)), (.slice vWords vWordsL vWordsC), (.slice vAssigns vAssignsL vAssignsC), (.slice vRedirs vRedirsL vRedirsC), (.slice vOps vOpsL vOpsC), (.slice vKids vKidsL vKidsC)] w
theorem nExitT_spec {w0 : World} {g gn B : Nat} {X : Nat → Prop} {x : Nd} {vw va vr vo vk : Value} {er : Int} {R : Ending → World → Prop} (h : NB w0 w g gn B X x vw va vr vo vk) (hres : Row w w0.heap.size 32 ⟨zcell⟩) (hB : w0.heap.size < B)
    (hR : ∀ w' cs, Mod (fun k => k = w0.heap.size) w w' → Only g w0 w' → NdE w' (fun k => w0.heap.size ≤ k ∧ k < w'.heap.size) x cs → R (.returned (.tuple #[.agg ⟨cs⟩, .int .i64 er])) w') : NExitT gn w0.heap.size er w R := by
  have hn := h.nde
  obtain ⟨pw, cw, rfl⟩ := h.ow.form
  obtain ⟨pa, ca, rfl⟩ := h.oa.form
  obtain ⟨pr, cr, rfl⟩ := h.ord.form
  obtain ⟨po, co, rfl⟩ := h.oo.form
  obtain ⟨pk, ck, rfl⟩ := h.ok.form
  have hr := h.row
  refine ⟨_, _, _, _, _, _, _, _, _, _, _, _, _, _, _, _, _, _, hr.lget rfl, hr.lget rfl, hr.lget rfl, hr.lget rfl, hr.lget rfl, hr.lget rfl, hr.lget rfl, hr.lget rfl, stK hres (by simp) (by simp [Value.oneCell']) fun w' r' m' z' => ?_⟩
  refine ⟨_, _, _, _, _, _, _, _, _, _, _, _, _, _, _, _, _, _, r'.lget rfl, r'.lget rfl, r'.lget rfl, r'.lget rfl, r'.lget rfl, r'.lget rfl, r'.lget rfl, r'.lget rfl, hR w' _ m' (Mod.trans h.only m' (fun _ h => h) (fun i hi e => by omega)) ?_⟩
  exact (hn.mod m' fun k hk e => by omega).mono fun k hk => ⟨by omega, by omega⟩
theorem nExitT_row {w0 : World} {g gn B : Nat} {x : Nd} {cs : List Value} {er : Int} {R : Ending → World → Prop} (hr : Row w gn 32 ⟨cs⟩) (hn : NdE w (fun k => B ≤ k ∧ k < w.heap.size) x cs) (ho : Only g w0 w) (hres : Row w w0.heap.size 32 ⟨zcell⟩) (hB : w0.heap.size < B)
    (hR : ∀ w' cs, Mod (fun k => k = w0.heap.size) w w' → Only g w0 w' → NdE w' (fun k => w0.heap.size ≤ k ∧ k < w'.heap.size) x cs → R (.returned (.tuple #[.agg ⟨cs⟩, .int .i64 er])) w') : NExitT gn w0.heap.size er w R := by
  obtain ⟨pw, cw, pa, ca, pr, cr, po, co, pk, ck, rfl, _⟩ := hn.outs
  refine ⟨_, _, _, _, _, _, _, _, _, _, _, _, _, _, _, _, _, _, hr.lget rfl, hr.lget rfl, hr.lget rfl, hr.lget rfl, hr.lget rfl, hr.lget rfl, hr.lget rfl, hr.lget rfl, stK hres (by simp) (by simp [Value.oneCell']) fun w' r' m' z' => ?_⟩
  refine ⟨_, _, _, _, _, _, _, _, _, _, _, _, _, _, _, _, _, _, r'.lget rfl, r'.lget rfl, r'.lget rfl, r'.lget rfl, r'.lget rfl, r'.lget rfl, r'.lget rfl, r'.lget rfl, hR w' _ m' (Mod.trans ho m' (fun _ h => h) (fun i hi e => by omega)) ?_⟩
  exact (hn.mod m' fun k hk e => by omega).mono fun k hk => ⟨by omega, by omega⟩
end Go.Proofs.YthommfjiaalecaaDoor
