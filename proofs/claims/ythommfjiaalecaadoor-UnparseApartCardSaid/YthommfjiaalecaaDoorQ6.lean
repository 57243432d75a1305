/- Texts of one proof, one behind the other. Conditions: as each theorem names them. -/
import Derived.Test.YthommfjiaalecaaDoorQ5
import Derived.Tactics
import Derived.Tactics2
import Derived.Defers
import Derived.Recover
import Derived.Laws.Pointers
namespace Go.Proofs.YthommfjiaalecaaDoor
open Go.RowKit Vc
variable {w : World}
abbrev pagg (x : Pt) (v : Value) : Value := .agg #[.int .i64 x.k, .bool x.q, .string (S x.t), .string (S x.n), .string (S x.o), v]
theorem Owns.store {B : Nat} {e : TypeId} {sz n c g i : Nat} {xs : List Value} {u : Value} {K : World → Prop} (h : Owns w B e sz (.slice (some ⟨g, 0, none⟩) n c) n xs) (hi : i < n * sz) (hu : u.oneCell' = true)
    (hK : ∀ w', Owns w' B e sz (.slice (some ⟨g, 0, none⟩) n c) n (xs.set i u) → Mod (fun k => k = g) w w' → w'.heap.size = w.heap.size → K w') : stCells ((Addr.mk g 0 none).add i) K 0 [u] w := by
  obtain ⟨h1, ⟨he, hn⟩ | ⟨g', cap, cur, he, hB, hr, hc, hm, hs, ht⟩⟩ := h
  · cases he
  · injection he with e1 e2 e3
    injection e1 with e1
    injection e1 with e1
    subst e1 e3
    rw [add_row, Nat.zero_add]
    have hr' : Row w g e ⟨cur.toList⟩ := hr
    have hlen : cur.toList.length = c * sz := by rw [Array.length_toList]; exact hs
    have hle : n * sz ≤ c * sz := Nat.mul_le_mul_right sz hc
    refine stK hr' (by simp only [List.length_cons, List.length_nil]; omega) (by simpa using hu) fun w' r' m' z' => hK w' ⟨by rw [List.length_set]; exact h1, .inr ⟨g, c, _, rfl, hB, r', hc, hm, ?_, ?_⟩⟩ m' z'
    · simp only [ovw, List.size_toArray, List.length_set]
      exact hlen
    · simp only [ovw]
      rw [← ht, List.take_set]
theorem SlAt.cells {F : Nat → Prop} {l : List Pt} {p : Option Addr} {n c : Nat} (h : SlAt w F l (.slice p n c)) : ∃ xs, Cs w F l xs ∧ At w p n xs := by
  obtain ⟨p', c', he, h2, h3⟩ := h
  injection he with e1 e2 e3
  subst e1 e2 e3
  by_cases hl : l = []
  · subst hl
    exact ⟨[], rfl, fun h => absurd h (Nat.lt_irrefl _)⟩
  · obtain ⟨b, rfl, h4, h5⟩ := h3 hl
    obtain ⟨xs, h6, h7⟩ := Cs.to h5
    exact ⟨xs, h6, fun _ => ⟨b, rfl, h7⟩⟩
theorem drew_still (w : World) : Still w w.drew := (Still.refl w).toDrew
theorem box_fields {g : Nat} {x : Pt} {v : Value} (h : Row w g 81 ⟨pcell x v⟩) : w.cell? ⟨g, 0, none⟩ = some (.int .i64 x.k) ∧ w.cell? ⟨g, 1, none⟩ = some (.bool x.q) ∧ w.cell? ⟨g, 2, none⟩ = some (.string (S x.t)) ∧ w.cell? ⟨g, 3, none⟩ = some (.string (S x.n)) ∧ w.cell? ⟨g, 4, none⟩ = some (.string (S x.o)) ∧ w.cell? ⟨g, 5, none⟩ = some v :=
  ⟨h.lget rfl, h.lget rfl, h.lget rfl, h.lget rfl, h.lget rfl, h.lget rfl⟩
def AddBody (gx : Nat) (w1 : World) (l : Option Addr) (lL lC : Nat) (R : Ending → World → Prop) : Prop :=
  ∃ xJ : World → Prop, (∃ xJ1 : Bool → World → Prop, (bsel (decide ((0 : Int) ≤ (IntKind.i64.wrap ((((lL : Nat) : Int) : Int) - (1 : Int))))) (∃ v : Int, w1.cell? (Addr.mk gx 0 none) = some (.int .i64 v) ∧ bsel (decide (v = (0 : Int))) (0 ≤ (IntKind.i64.wrap ((((lL : Nat) : Int) : Int) - (1 : Int))) ∧ (IntKind.i64.wrap ((((lL : Nat) : Int) : Int) - (1 : Int))) < (lL : Nat) ∧ someK l (fun a => ∃ v1 : Int, w1.cell? (a.add (Int.toNat (IntKind.i64.wrap ((((lL : Nat) : Int) : Int) - (1 : Int))) * 6)) = some (.int .i64 v1) ∧ bsel (decide (v1 = (0 : Int))) (0 ≤ (IntKind.i64.wrap ((((lL : Nat) : Int) : Int) - (1 : Int))) ∧ (IntKind.i64.wrap ((((lL : Nat) : Int) : Int) - (1 : Int))) < (lL : Nat) ∧ someK l (fun a1 => ∃ v2 : Bool, w1.cell? ((a1.add (Int.toNat (IntKind.i64.wrap ((((lL : Nat) : Int) : Int) - (1 : Int))) * 6)).add 1) = some (.bool v2) ∧ ∃ v3 : Bool, w1.cell? (Addr.mk gx 1 none) = some (.bool v3) ∧ xJ1 (decide (v2 = v3)) w1.drew)) (xJ1 false w1.drew))) (xJ1 false w1.drew)) (xJ1 false w1.drew)) ∧ ∀ (x : Bool) (_us1 : Nat → Value) (w2 : World), (xJ1 x w2) → bsel x (∃ Sw : World → Prop, Sw w2.drew ∧ 0 ≤ (IntKind.i64.wrap ((((lL : Nat) : Int) : Int) - (1 : Int))) ∧ (IntKind.i64.wrap ((((lL : Nat) : Int) : Int) - (1 : Int))) < (lL : Nat) ∧ someK l (fun a2 => ∃ v4 : List UInt8, (∀ wq : World, Sw wq → wq.cell? ((a2.add (Int.toNat (IntKind.i64.wrap ((((lL : Nat) : Int) : Int) - (1 : Int))) * 6)).add 2) = some (.string (S v4))) ∧ ∃ v5 : List UInt8, (∀ wq : World, Sw wq → wq.cell? (Addr.mk gx 2 none) = some (.string (S v5))) ∧ v4.length + v5.length ≤ 9223372036854775807 ∧ 0 ≤ (IntKind.i64.wrap ((((lL : Nat) : Int) : Int) - (1 : Int))) ∧ (IntKind.i64.wrap ((((lL : Nat) : Int) : Int) - (1 : Int))) < (lL : Nat) ∧ someK l (fun a3 => stCells ((a3.add (Int.toNat (IntKind.i64.wrap ((((lL : Nat) : Int) : Int) - (1 : Int))) * 6)).add 2) (fun (w3 : World) => R (.returned (.slice l lL lC)) w3) 0 [(.string (S (v4 ++ v5)))] w2.drew))) (xJ w2)) ∧ ∀ (_us2 : Nat → Value) (w4 : World), (xJ w4) → ∃ vKind : Int, ∃ vQuoted : Bool, ∃ vText : List UInt8, ∃ vName : List UInt8, ∃ vOp : List UInt8, ∃ (vWord : Option Addr) (vWordL vWordC : Nat), w4.cell? (Addr.mk gx 0 none) = some (.int .i64 vKind) ∧ w4.cell? (Addr.mk gx 1 none) = some (.bool vQuoted) ∧ w4.cell? (Addr.mk gx 2 none) = some (.string (S vText)) ∧ w4.cell? (Addr.mk gx 3 none) = some (.string (S vName)) ∧ w4.cell? (Addr.mk gx 4 none) = some (.string (S vOp)) ∧ w4.cell? (Addr.mk gx 5 none) = some (.slice vWord vWordL vWordC) ∧ letW (w4.alloc (.cells #[(.int .i64 vKind), (.bool vQuoted), (.string (S vText)), (.string (S vName)), (.string (S vOp)), (.slice vWord vWordL vWordC)] 81)) (fun (w5 : World) => appK w5 81 6 88 l lL lC (some (Addr.mk w4.heap.size 0 none)) 1 (fun (p : Option Addr) (cp : Nat) (w6 : World) => R (.returned (.slice p (lL + 1) cp)) w6))
theorem addBody_spec {w1 : World} {gx B : Nat} {l : List Pt} {p : Option Addr} {c : Nat} {x : Pt} {wp : Option Addr} {wc : Nat} {R : Ending → World → Prop} (r1 : Row w1 gx 81 ⟨pcell x (.slice wp x.w.length wc)⟩) (ho : OutAt w1 B l (.slice p l.length c)) (hB : B ≤ w1.heap.size)
    (hw : SlAt w1 (fun k => B ≤ k ∧ k < w1.heap.size ∧ (Value.slice p l.length c).ownBlock ≠ some k) x.w (.slice wp x.w.length wc)) (hl : wtL l + x.wt < 1000000000)
    (hR : ∀ v' w', OutAt w' B (addP l x) v' → Mod (fun k => (Value.slice p l.length c).ownBlock = some k) w1 w' → (∀ k, v'.ownBlock = some k → (Value.slice p l.length c).ownBlock = some k ∨ w1.heap.size ≤ k) → R (.returned v') w') : AddBody gx w1 p l.length c R := by
  obtain ⟨p', c', xs, hv, hown, hcs⟩ := ho
  injection hv with hv1 _ hv2
  subst hv1 hv2
  have hwl := wtL_len l
  obtain ⟨f0, f1, f2, f3, f4, f5⟩ := box_fields (x := x) r1
  have sd : Still w1 w1.drew := drew_still w1
  -- what stands behind is put in a new place
  have push : (∀ y ∈ l.getLast?, ¬ Mg y x) → ∀ w4 : World, w4 = w1.drew →
      letW (w4.alloc (.cells ⟨pcell x (.slice wp x.w.length wc)⟩ 81)) (fun w5 => appK w5 81 6 88 p l.length c (some (Addr.mk w4.heap.size 0 none)) 1 (fun p' cp w6 => R (.returned (.slice p' (l.length + 1) cp)) w6)) := by
    rintro hno _ rfl
    have hadd : addP l x = l ++ [x] := by
      by_cases hl : l = []
      · subst hl; rfl
      · obtain ⟨m, y, rfl⟩ := snoc_of hl
        rw [addP_snoc, if_neg (show ¬ (x.k = 0 ∧ y.k = 0 ∧ y.q = x.q) from hno y (by simp))]
    refine allocK fun w5 r5 s5 z5 => ?_
    have s05 := sd.trans s5
    refine appK_push (hown.still s05) (by have := s05.size; omega) (pcell x (.slice wp x.w.length wc)) rfl (pcell_one rfl) (fun _ => ⟨_, rfl, fun j u hu => ?_⟩) (by omega) (by omega) fun p' c' w6 ho6 hm6 hbk => ?_
    · rw [add_row, Nat.zero_add]
      exact r5.lget hu
    · have hm06 : Mod (fun k => (Value.slice p l.length c).ownBlock = some k) w1 w6 := Mod.trans s05 hm6 (fun _ h => h.elim) (fun _ _ h => h)
      have hz5 : w1.heap.size ≤ w5.heap.size := s05.size
      have hown' : ∀ k, (Value.slice p' (l.length + 1) c').ownBlock = some k → (Value.slice p l.length c).ownBlock = some k ∨ w5.heap.size ≤ k := by
        intro k hk
        rcases hbk.own (n := l.length) with e | e
        · exact .inl (by rw [← e]; exact hk)
        · rw [hk] at e
          obtain rfl := Option.some.inj e
          exact .inr (Nat.le_refl _)
      refine hR _ _ ?_ hm06 fun k hk => (hown' k hk).imp_right fun h => by omega
      rw [hadd]
      refine ⟨p', c', _, by rw [List.length_append]; rfl, by rw [List.length_append]; exact ho6, ?_⟩
      have tr : ∀ {y : List Pt} {u : Value}, SlAt w1 (fun k => B ≤ k ∧ k < w1.heap.size ∧ (Value.slice p l.length c).ownBlock ≠ some k) y u → SlAt w6 (fun k => B ≤ k ∧ k < w6.heap.size ∧ (Value.slice p' (l.length + 1) c').ownBlock ≠ some k) y u := by
        intro y u h
        refine (h.mod hm06 fun k hk => hk.2.2).mono fun k hk => ⟨hk.1, Nat.lt_of_lt_of_le hk.2.1 hm06.size, fun e => ?_⟩
        rcases hown' k e with e | e
        · exact hk.2.2 e
        · omega
      exact (hcs.turn tr).snoc (tr hw)
  by_cases hl0 : l = []
  · subst hl0
    have e1 : IntKind.i64.wrap ((((([] : List Pt).length : Nat) : Int) : Int) - 1) = -1 := by decide
    unfold AddBody
    rw [e1]
    refine ⟨fun w4 => w4 = w1.drew, ⟨fun b w2 => b = false ∧ w2 = w1.drew, bsel_of (fun h => absurd h (by decide)) (fun _ => ⟨rfl, rfl⟩), ?_⟩, ?_⟩
    · rintro _ _ w2 ⟨rfl, rfl⟩
      exact rfl
    · rintro _ _ rfl
      obtain ⟨f0, f1, f2, f3, f4, f5⟩ := box_fields (x := x) (r1.still (drew_still w1))
      exact ⟨_, _, _, _, _, _, _, _, f0, f1, f2, f3, f4, f5, push (by simp) _ rfl⟩
  · obtain ⟨m, y, rfl⟩ := snoc_of hl0
    have hlen : (m ++ [y]).length = m.length + 1 := by simp
    obtain ⟨ys, vy, hxs, hcm, hvy⟩ := hcs.last
    have hyl : ys.length = m.length * 6 := hcm.len
    obtain ⟨g, cap, he, hgB, hgl, hcap, hcell⟩ := hown.ownAddr (by omega)
    injection he with e1 e2 e3
    subst e1 e3
    have e1 : IntKind.i64.wrap ((((m ++ [y]).length : Nat) : Int) - 1) = (m.length : Int) := by rw [hlen, wrap_i64 (by omega) (by omega)]; omega
    have ycell : ∀ (w' : World), Still w1 w' → ∀ j u, (pcell y vy)[j]? = some u → w'.cell? (((Addr.mk g 0 none).add (m.length * 6)).add j) = some u := by
      intro w' hs j u hu
      rw [adds, add_row, Nat.zero_add]
      refine hs.cell (hcell _ _ ?_)
      rw [hxs, List.getElem?_append_right (by rw [hyl]; omega), hyl, Nat.add_sub_cancel_left]
      exact hu
    have a0 : ∀ a : Addr, a.add 0 = a := by intro a; unfold Addr.add; simp
    have y0 := ycell w1 (Still.refl _) 0 _ rfl
    rw [a0] at y0
    unfold AddBody
    rw [e1]
    refine ⟨fun w4 => w4 = w1.drew ∧ ¬ Mg y x, ⟨fun b w2 => (b = true ↔ Mg y x) ∧ w2 = w1.drew, bsel_of (fun _ => ⟨x.k, f0, bsel_of (fun hk => ?_) (fun hk => ⟨?_, rfl⟩)⟩) (fun h => absurd (of_decide_eq_false h) (by omega)), ?_⟩, ?_⟩
    · have hk : x.k = 0 := of_decide_eq_true hk
      refine ⟨by omega, by omega, y.k, by rw [Int.toNat_natCast]; exact y0, bsel_of (fun hy => ?_) (fun hy => ⟨?_, rfl⟩)⟩
      · have hy : y.k = 0 := of_decide_eq_true hy
        refine ⟨by omega, by omega, y.q, by rw [Int.toNat_natCast]; exact ycell w1 (Still.refl _) 1 _ rfl, x.q, f1, ?_, rfl⟩
        rw [decide_eq_true_eq]
        exact ⟨fun e => ⟨hk, hy, e⟩, fun e => e.2.2⟩
      · have hy : ¬ y.k = 0 := of_decide_eq_false hy
        exact ⟨fun e => (by cases e), fun e => absurd e.2.1 hy⟩
    · have hk : ¬ x.k = 0 := of_decide_eq_false hk
      exact ⟨fun e => (by cases e), fun e => absurd e.1 hk⟩
    · rintro b _ w2 ⟨hb, rfl⟩
      refine bsel_of (fun h => ?_) (fun h => ?_)
      · have hm := hb.1 h
        have f2' := (r1.still ((drew_still w1).trans (drew_still w1.drew))).lget (i := 2) rfl
        have hty := wtL_append m [y]
        rw [wtL_one, y.wt_eq] at hty
        have hx2 := x.wt_eq
        refine ⟨fun wq => wq = w1.drew.drew, rfl, by omega, by omega, y.t, ?_, x.t, ?_, by omega, by omega, by omega, ?_⟩
        · rintro wq rfl
          rw [Int.toNat_natCast]
          exact ycell _ (sd.trans (drew_still w1.drew)) 2 _ rfl
        · rintro wq rfl
          exact f2'
        · rw [Int.toNat_natCast, someK_some, adds]
          have so : Still w1 w1.drew.drew := sd.toDrew
          refine Owns.store (hown.still so) (by omega) rfl fun w' ho' hm' hz' => hR _ _ ?_ ?_ fun k hk => .inl hk
          · rw [addP_snoc, if_pos (show x.k = 0 ∧ y.k = 0 ∧ y.q = x.q from hm)]
            have hset : xs.set (m.length * 6 + 2) (.string (S (y.t ++ x.t))) = ys ++ pcell (.mk y.k y.q (y.t ++ x.t) y.n y.o y.w) vy := by
              rw [hxs, List.set_append_right _ _ (by rw [hyl]; omega), hyl, Nat.add_sub_cancel_left]
              rfl
            rw [hset] at ho'
            have hmo : Mod (fun k => k = g) w1 w' := Mod.trans so hm' (fun _ h => h.elim) (fun _ _ h => h)
            have tr : ∀ {z : List Pt} {u : Value}, SlAt w1 (fun k => B ≤ k ∧ k < w1.heap.size ∧ (Value.slice (some ⟨g, 0, none⟩) (m ++ [y]).length c).ownBlock ≠ some k) z u → SlAt w' (fun k => B ≤ k ∧ k < w'.heap.size ∧ (Value.slice (some ⟨g, 0, none⟩) (m ++ [y]).length c).ownBlock ≠ some k) z u := by
              intro z u h
              refine (h.mod hmo fun k hk e => hk.2.2 (by rw [e]; simp [Value.ownBlock])).mono fun k hk => ⟨hk.1, Nat.lt_of_lt_of_le hk.2.1 hmo.size, hk.2.2⟩
            have hlen2 : (m ++ [Pt.mk y.k y.q (y.t ++ x.t) y.n y.o y.w]).length = (m ++ [y]).length := by simp
            exact ⟨some ⟨g, 0, none⟩, c, _, by rw [hlen2], by rw [hlen2]; exact ho', (hcm.turn tr).snoc (tr hvy)⟩
          · exact Mod.trans so hm' (fun _ h => h.elim) (fun k _ e => by rw [e]; simp [Value.ownBlock])
      · exact ⟨rfl, fun hm => by rw [hb.2 hm] at h; cases h⟩
    · rintro _ _ ⟨rfl, hno⟩
      obtain ⟨f0, f1, f2, f3, f4, f5⟩ := box_fields (x := x) (r1.still (drew_still w1))
      exact ⟨_, _, _, _, _, _, _, _, f0, f1, f2, f3, f4, f5, push (by simpa using hno) _ rfl⟩
theorem ref_Add_spec {l : List Pt} {v : Value} {x : Pt} {vw : Value} {N : Nat} (ho : SlAt w (fun k => N ≤ k) l v) (hN : N ≤ w.heap.size) (hw : SlAt w (fun k => N ≤ k) x.w vw) (hl : wtL l + x.wt < 1000000000) :
    Calls Tryd.prog fn_ref08_Add #[v, pagg x vw] w (fun e w' => ∃ v', e = .returned v' ∧ SlAt w' (fun k => N ≤ k) (addP l x) v' ∧ Still w w') := by
  obtain ⟨p, c, rfl⟩ := ho.form
  obtain ⟨wp, wc, rfl⟩ := hw.form
  have hwl := wtL_len l
  refine ref08_Add_calls _ _ _ _ _ _ _ _ _ _ _ _ _ ?_
  refine allocK fun w1 r1 s1 z1 => ?_
  obtain ⟨xs, hcs, hat⟩ := (ho.still s1).cells
  have hn : xs.length = l.length * 6 := hcs.len
  refine appK_push (B := w1.heap.size) (Owns.nil w1 _ _ 6) (Nat.le_refl _) xs hn hcs.one hat (by omega) (by omega) fun p' c' w2 ho2 hm2 hbk => ?_
  have s2 : Still w1 w2 := Mod.weaken hm2 fun k h => by cases h
  rw [List.nil_append] at ho2
  have e0 : 0 + l.length = l.length := Nat.zero_add _
  rw [e0] at ho2 ⊢
  have hown : ∀ k, (Value.slice p' l.length c').ownBlock = some k → w1.heap.size ≤ k := fun k hk => (ho2.lt k hk).1
  have ho2' : OutAt w2 N l (.slice p' l.length c') := ⟨p', c', xs, rfl, ho2.base fun k hk => by have := hown k hk; omega, hcs.turn fun h => (h.here.still s2).mono fun k hk => ⟨hk.1, Nat.lt_of_lt_of_le hk.2 s2.size, fun e => by have := hown k e; omega⟩⟩
  have key : AddBody w.heap.size w2 p' l.length c' (fun e w' => ∃ v', e = .returned v' ∧ SlAt w' (fun k => N ≤ k) (addP l x) v' ∧ Still w w') := by
    refine addBody_spec (B := N) (x := x) (r1.still s2) ho2' (by have := s2.size; omega) ((((hw.still s1).here).still s2).mono fun k hk => ⟨hk.1, Nat.lt_of_lt_of_le hk.2 s2.size, fun e => by have := hown k e; omega⟩) hl fun v' w' h1 h2 h3 => ⟨v', rfl, h1.sl.mono fun k hk => hk.1, ?_⟩
    exact Mod.trans (s1.trans s2) h2 (fun _ h => h) fun k hk e => by have := hown k e; have := s1.size; omega
  exact key
theorem SlAt.fields {F : Nat → Prop} {l : List Pt} {p : Option Addr} {n c : Nat} (h : SlAt w F l (.slice p n c)) {i : Nat} (hi : i < l.length) : ∃ b wp wc, p = some b ∧ w.cell? (b.add (i * 6)) = some (.int .i64 l[i].k) ∧ w.cell? ((b.add (i * 6)).add 1) = some (.bool l[i].q) ∧ w.cell? ((b.add (i * 6)).add 2) = some (.string (S l[i].t)) ∧ w.cell? ((b.add (i * 6)).add 3) = some (.string (S l[i].n)) ∧ w.cell? ((b.add (i * 6)).add 4) = some (.string (S l[i].o)) ∧
    w.cell? ((b.add (i * 6)).add 5) = some (.slice wp l[i].w.length wc) ∧ SlAt w F l[i].w (.slice wp l[i].w.length wc) := by
  obtain ⟨b, v, rfl, _, hc, hs⟩ := h.get (List.getElem?_eq_getElem hi)
  obtain ⟨wp, wc, rfl⟩ := hs.form
  have a0 : (b.add (i * 6)).add 0 = b.add (i * 6) := by unfold Addr.add; simp
  refine ⟨b, wp, wc, rfl, ?_, hc 1 _ rfl, hc 2 _ rfl, hc 3 _ rfl, hc 4 _ rfl, hc 5 _ rfl, hs⟩
  have := hc 0 _ rfl
  rwa [a0] at this
theorem take_one {α : Type} {l : List α} {k : Nat} (h : k < l.length) : l.take (k + 1) = l.take k ++ [l[k]] := by rw [List.take_add_one, List.getElem?_eq_getElem h]; rfl
theorem wt_take {l : List Pt} {k : Nat} (h : k < l.length) : wtL (l.take k) + l[k].wt ≤ wtL l := by
  have e : l = l.take k ++ (l[k] :: l.drop (k + 1)) := by rw [← List.drop_eq_getElem_cons h, List.take_append_drop]
  have h2 := wtL_append (l.take k) (l[k] :: l.drop (k + 1))
  rw [← e] at h2
  simp only [wtL] at h2
  omega
theorem hasL_app : ∀ a b : List Pt, hasL (a ++ b) = (hasL a || hasL b)
  | [], _ => rfl
  | p :: a, b => by simp only [List.cons_append, hasL, hasL_app a b, Bool.or_assoc]
theorem hasL_cut {l : List Pt} {k : Nat} (h : k < l.length) (hk : hasL (l.take k) = false) : (l[k].k = 2 → hasL l = true) ∧ (hasL l[k].w = true → hasL l = true) ∧ (l[k].k ≠ 2 → hasL l[k].w = false → hasL (l.take (k + 1)) = false) := by
  have hp : l[k].has = (decide (l[k].k = 2) || hasL l[k].w) := by
    generalize l[k] = p
    cases p
    rfl
  have mem : l[k].has = true → hasL l = true := fun h2 => hasL_mem.2 ⟨_, List.getElem_mem h, h2⟩
  refine ⟨fun h2 => mem (by rw [hp, h2]; rfl), fun h2 => mem (by rw [hp, h2, Bool.or_true]), fun h2 h3 => ?_⟩
  rw [take_one h, hasL_app, hk]
  simp only [hasL, hp, h3, decide_eq_false h2]
  rfl
theorem word_of {l : List Pt} {k : Nat} (h : k < l.length) : SizeOf.sizeOf l[k].w < SizeOf.sizeOf l := mem_size (List.getElem_mem h)
theorem wt_word {l : List Pt} {k : Nat} (h : k < l.length) : wtL l[k].w ≤ wtL l := by
  have h1 := wtL_mem (List.getElem_mem h)
  have h2 := l[k].wt_eq
  omega
theorem one6 {x : Pt} {wp : Option Addr} {n wc : Nat} : ∀ v ∈ [Value.int .i64 x.k, .bool x.q, .string (S x.t), .string (S x.n), .string (S x.o), .slice wp n wc], v.oneCell' = true := by simp [Value.oneCell']
theorem commands_of : ∀ (n : Nat) (l : List Pt), SizeOf.sizeOf l < n → wtL l < 500000000 → ∀ (w : World) (F : Nat → Prop) (v : Value), SlAt w F l v → Calls Tryd.prog fn_ref08_commands #[v] w (fun e w' => e = .returned (.bool (hasL l)) ∧ Still w w') := by
  intro n
  induction n with
  | zero => intro l h; omega
  | succ n ih =>
    intro l hn hl w F v hv
    obtain ⟨p, c, rfl⟩ := hv.form
    have hwl := wtL_len l
    refine ref08_commands_calls _ _ _ _ _ ?_
    refine ⟨fun x w1 => ∃ k : Nat, x = (k : Int) ∧ k ≤ l.length ∧ hasL (l.take k) = false ∧ Still w w1, fun x _ => l.length - x.toNat, ⟨0, rfl, Nat.zero_le _, rfl, Still.refl _⟩, ?_⟩
    rintro _ _ w1 ⟨k, rfl, hk, hh, hs1⟩
    refine bsel_of (fun hx => ?_) (fun hx => ?_)
    rotate_left
    · have hx : k = l.length := by have := of_decide_eq_false hx; omega
      rw [hx, List.take_length] at hh
      rw [hh]
      exact ⟨rfl, hs1⟩
    have hx : k < l.length := by have := of_decide_eq_true hx; omega
    obtain ⟨b, wp, wc, rfl, c0, c1, c2, c3, c4, c5, hsw⟩ := (hv.still hs1).fields hx
    obtain ⟨h2, h3, h4⟩ := hasL_cut hx hh
    rw [Int.toNat_natCast]
    refine ⟨by omega, by omega, _, c0, bsel_of (fun hk2 => ?_) (fun hk2 => ?_)⟩
    · rw [h2 (of_decide_eq_true hk2)]
      exact ⟨rfl, hs1⟩
    · refine ⟨by omega, by omega, _, _, _, c5, (ih _ (by have := word_of hx; omega) (by have := wt_word hx; omega) w1 F _ hsw).mono ?_⟩
      rintro _ w4 ⟨rfl, s4⟩
      refine .inl ⟨_, rfl, bsel_of (fun hb => ?_) (fun hb => ?_)⟩
      · rw [h3 hb]
        exact ⟨rfl, hs1.trans s4⟩
      · rw [show IntKind.i64.wrap ((k : Int) + 1) = ((k + 1 : Nat) : Int) by rw [wrap_i64 (by omega) (by omega)]; omega]
        exact ⟨⟨k + 1, rfl, hx, h4 (of_decide_eq_false hk2) hb, hs1.trans s4⟩, by dsimp only; omega⟩
theorem commands_spec {F : Nat → Prop} {l : List Pt} {v : Value} (hv : SlAt w F l v) (hl : wtL l < 500000000) : Calls Tryd.prog fn_ref08_commands #[v] w (fun e w' => e = .returned (.bool (hasL l)) ∧ Still w w') := commands_of _ l (Nat.lt_succ_self _) hl w F v hv
theorem qdL_step {l : List Pt} {k : Nat} (h : k < l.length) : qdL [] (l.take (k + 1)) = addP (qdL [] (l.take k)) l[k].qd := by
  rw [qdL_fold, qdL_fold, take_one h, List.map_append, List.foldl_append]
  rfl
theorem qd_shape (x : Pt) : x.qd = .mk x.k true x.t x.n x.o (qdL [] x.w) := by cases x; rfl
theorem OutAt.ownLt {B : Nat} {l : List Pt} {v : Value} (h : OutAt w B l v) {k : Nat} (hk : v.ownBlock = some k) : B ≤ k ∧ k < w.heap.size := by
  obtain ⟨p, c, xs, rfl, ho, _⟩ := h
  exact ho.lt k hk
theorem quotes_of : ∀ (n : Nat) (l : List Pt), SizeOf.sizeOf l < n → wtL l < 500000000 → ∀ (w : World) (F : Nat → Prop) (v : Value), SlAt w F l v →
    Calls Tryd.prog fn_ref08_quotes #[v] w (fun e w' => ∃ v', e = .returned v' ∧ SlAt w' (fun k => w.heap.size ≤ k) (qdL [] l) v' ∧ Still w w') := by
  intro n
  induction n with
  | zero => intro l h; omega
  | succ n ih =>
    intro l hn hl w F v hv
    obtain ⟨p, c, rfl⟩ := hv.form
    have hwl := wtL_len l
    refine ref08_quotes_calls _ _ _ _ _ ?_
    refine ⟨fun out outL outC x w1 => ∃ k : Nat, x = (k : Int) ∧ k ≤ l.length ∧ SlAt w1 (fun k => w.heap.size ≤ k) (qdL [] (l.take k)) (.slice out outL outC) ∧ Still w w1, fun _ _ _ x _ => l.length - x.toNat, ⟨0, rfl, Nat.zero_le _, SlAt.nil _ _ _ _, Still.refl _⟩, ?_⟩
    rintro out outL outC _ _ w1 ⟨k, rfl, hk, ho, hs1⟩
    refine bsel_of (fun hx => ?_) (fun hx => ?_)
    rotate_left
    · have hx : k = l.length := by have := of_decide_eq_false hx; omega
      rw [hx, List.take_length] at ho
      exact ⟨_, rfl, ho, hs1⟩
    have hx : k < l.length := by have := of_decide_eq_true hx; omega
    obtain ⟨b, wp, wc, rfl, c0, c1, c2, c3, c4, c5, hsw⟩ := (hv.still hs1).fields hx
    rw [Int.toNat_natCast]
    refine ⟨by omega, by omega, _, _, _, _, _, _, _, _, c0, c1, c2, c3, c4, c5, boxK rfl one6 fun w3 r3 s3 z3 => stK r3 (by simp) (by simp [Value.oneCell']) fun w4 r4 m4 z4 => ?_⟩
    have s4 : Still w1 w4 := s3.box (Nat.le_refl _) m4
    refine ⟨_, _, _, r4.lget rfl, (ih _ (by have := word_of hx; omega) (by have := wt_word hx; omega) w4 F _ (hsw.still s4)).mono ?_⟩
    rintro _ w5 ⟨v5, rfl, hs5, s5⟩
    obtain ⟨rp, rc, rfl⟩ := hs5.form
    refine .inl ⟨_, _, _, rfl, ?_⟩
    have s15 := s4.trans s5
    refine stK (r4.still s5) (by simp [ovw]) (by simp [Value.oneCell']) fun w6 r6 m6 z6 => ?_
    have s16 : Still w1 w6 := s15.box (Nat.le_refl _) m6
    have hsz := s3.size
    have hq6 : SlAt w6 (fun k => w.heap.size ≤ k) (qdL [] l[k].w) (.slice rp (qdL [] l[k].w).length rc) :=
      (hs5.mod m6 (fun j hj e => by omega)).mono fun j hj => by have := hs1.size; omega
    have hwk := wt_take hx
    have hq1 := wt_qdL (l.take k) []
    have hq2 := l[k].wt_qd
    simp only [wtL] at hq1
    have hadd := ref_Add_spec (x := l[k].qd) (ho.still s16) (by have := hs1.size; have := s16.size; omega) (by rw [qd_shape]; exact hq6) (by omega)
    rw [qd_shape] at hadd
    refine ⟨_, _, _, _, _, _, _, _, r6.lget rfl, r6.lget rfl, r6.lget rfl, r6.lget rfl, r6.lget rfl, r6.lget rfl, hadd.mono ?_⟩
    rintro _ w7 ⟨v7, rfl, ho7, s7⟩
    rw [← qd_shape, ← qdL_step hx] at ho7
    obtain ⟨p7, c7, rfl⟩ := ho7.form
    rw [show IntKind.i64.wrap ((k : Int) + 1) = ((k + 1 : Nat) : Int) by rw [wrap_i64 (by omega) (by omega)]; omega]
    exact .inl ⟨_, _, _, rfl, ⟨k + 1, rfl, hx, ho7, (hs1.trans s16).trans s7⟩, by dsimp only; omega⟩
theorem quotes_spec {F : Nat → Prop} {l : List Pt} {v : Value} (hv : SlAt w F l v) (hl : wtL l < 500000000) : Calls Tryd.prog fn_ref08_quotes #[v] w (fun e w' => ∃ v', e = .returned v' ∧ SlAt w' (fun k => w.heap.size ≤ k) (qdL [] l) v' ∧ Still w w') := quotes_of _ l (Nat.lt_succ_self _) hl w F v hv
end Go.Proofs.YthommfjiaalecaaDoor
namespace Go.Proofs.YthommfjiaalecaaDoor
open Go.RowKit Vc
def unitN (s : Txt) : Nat := match unitD 30 s with
  | some t => s.length - t.length
  | none => 0
theorem unitN_pos {s t : Txt} (h : unitD 30 s = some t) : unitN s = s.length - t.length ∧ 0 < unitN s ∧ unitN s ≤ s.length := by
  have := unitD_takes 30 _ _ h
  unfold unitN
  rw [h]
  dsimp only
  omega
end Go.Proofs.YthommfjiaalecaaDoor
namespace Go.Proofs.YthommfjiaalecaaDoor
open Go.RowKit Vc
variable {w : World}
abbrev MP (g B : Nat) (w w' : World) : Prop := Mod (fun k => k = g ∨ B ≤ k) w w'
theorem MP.trans {g B : Nat} {a b c : World} (h : MP g B a b) (k : MP g B b c) : MP g B a c := Mod.trans h k (fun _ h => h) (fun _ _ h => h)
theorem Still.mp {g B : Nat} {a b : World} (h : Still a b) : MP g B a b := h.weaken fun _ h => h.elim
theorem MP.still {g B : Nat} {a b c : World} (h : MP g B a b) (k : Still b c) : MP g B a c := MP.trans h k.mp
theorem bracesF_nz {P : Txt → Rs (List Pt)} (hP : ∀ s, P s ≠ .bad 0) (q : Bool) (s : Txt) : bracesF P q s ≠ .bad 0 := by
  unfold bracesF
  split
  · intro h; cases h
  · split
    · intro h; cases h
    · split
      · intro h; cases h
      · split
        · intro h; cases h
        · cases hp : P ((s.drop (paramN s)).drop (opOf (s.drop (paramN s))).length) with
          | bad k =>
            intro h
            injection h with h
            exact hP _ (hp.trans (by rw [h]))
          | ok x =>
            simp only [Rs.and]
            split <;> (intro h; cases h)
theorem dollarF_nz {P : Txt → Rs (List Pt)} (hP : ∀ s, P s ≠ .bad 0) (q : Bool) (s : Txt) : dollarF P q s ≠ .bad 0 := by
  unfold dollarF
  split
  · split
    · intro h; cases h
    · split
      · rename_i t _ _
        cases hb : bracesF P q ((s.drop 2).take (s.length - t.length - 3)) with
        | bad k =>
          intro h
          injection h with h
          exact bracesF_nz hP _ _ (hb.trans (by rw [h]))
        | ok x => intro h; cases h
      · split <;> (intro h; cases h)
  · split
    · intro h; cases h
    · split <;> (intro h; cases h)
theorem loopF_nz {one : Txt → Rs (List Pt × Nat)} (ht : Takes1 one) (ho : ∀ c r, one (c :: r) ≠ .bad 0) : ∀ (n : Nat) (acc : List Pt) (s : Txt), s.length < n → loopF one n acc s ≠ .bad 0
  | 0, _, _, h => by omega
  | n + 1, acc, [], _ => fun h => by cases h
  | n + 1, acc, c :: r, hn => by
    simp only [loopF]
    cases h1 : one (c :: r) with
    | bad k =>
      intro h
      injection h with h
      exact ho c r (h1.trans (by rw [h]))
    | ok x =>
      have h2 := ht _ _ h1
      simp only [List.length_cons] at hn h2
      exact loopF_nz ht ho n _ _ (by rw [List.length_drop, List.length_cons]; omega)
theorem dblOne_nz {P : Txt → Rs (List Pt)} (hP : ∀ s, P s ≠ .bad 0) (c : UInt8) (r : Txt) : dblOne P (c :: r) ≠ .bad 0 := by
  simp only [dblOne]
  split
  · cases hd : dollarF P true (c :: r) with
    | bad k =>
      intro h
      injection h with h
      exact dollarF_nz hP _ _ (hd.trans (by rw [h]))
    | ok x => intro h; cases h
  · split <;> (intro h; cases h)
theorem dblF_nz {P : Txt → Rs (List Pt)} (hP : ∀ s, P s ≠ .bad 0) (s : Txt) : dblF P s ≠ .bad 0 := by
  unfold dblF
  split
  · intro h; cases h
  · exact loopF_nz (dblOne_takes P) (dblOne_nz hP) _ _ _ (Nat.lt_succ_self _)
theorem outOne_nz {P : Txt → Rs (List Pt)} (hP : ∀ s, P s ≠ .bad 0) (c : UInt8) (r : Txt) : outOne P (c :: r) ≠ .bad 0 := by
  simp only [outOne]
  split
  · cases hd : dollarF P false (c :: r) with
    | bad k =>
      intro h
      injection h with h
      exact dollarF_nz hP _ _ (hd.trans (by rw [h]))
    | ok x => intro h; cases h
  · split
    · split
      · intro h; cases h
      · rename_i t _
        split
        · intro h; cases h
        · split
          · cases hd : dblF P (r.take (r.length - t.length - 1)) with
            | bad k =>
              intro h
              injection h with h
              exact dblF_nz hP _ (hd.trans (by rw [h]))
            | ok x => intro h; cases h
          · intro h; cases h
    · intro h; cases h
theorem wpL_nz : ∀ (L : Nat) (s : Txt), wpL L s ≠ .bad 0
  | 0, s => fun h => by cases h
  | L + 1, s => loopF_nz (outOne_takes _) (outOne_nz (wpL_nz L)) _ _ _ (Nat.lt_succ_self _)
theorem unit_bracket {c : UInt8} {r t : Txt} (hc : c = 40 ∨ c = 123) (h : unitD 30 (36 :: c :: r) = some t) : t.length + 3 ≤ (36 :: c :: r).length := by
  rcases hc with rfl | rfl
  · have h : untilD 29 41 r = some t := h
    have := untilD_takes _ _ _ _ h
    simp only [List.length_cons]; omega
  · have h : untilD 29 125 r = some t := h
    have := untilD_takes _ _ _ _ h
    simp only [List.length_cons]; omega
theorem dollarF_group {P : Txt → Rs (List Pt)} {q : Bool} {c : UInt8} {r : Txt} (hc : c = 40 ∨ c = 123) : dollarF P q (36 :: c :: r) = (match unitD 30 (36 :: c :: r) with
    | none => .bad 90
    | some _ => if c = 123 then (bracesF P q (r.take (unitN (36 :: c :: r) - 3))).and fun p => .ok (p, unitN (36 :: c :: r))
      else if 4 < unitN (36 :: c :: r) ∧ (36 :: c :: r)[2]? = some 40 ∧ (36 :: c :: r)[unitN (36 :: c :: r) - 2]? = some 41 then .ok (.mk 3 q (((36 :: c :: r).drop 3).take (unitN (36 :: c :: r) - 5)) [] [] [], unitN (36 :: c :: r))
      else .ok (.mk 2 q (r.take (unitN (36 :: c :: r) - 3)) [] [] [], unitN (36 :: c :: r))) := by
  unfold dollarF
  have hh : ((36 :: c :: r : Txt).drop 1).head? = some 40 ∨ ((36 :: c :: r : Txt).drop 1).head? = some 123 := by
    rcases hc with rfl | rfl
    · exact .inl rfl
    · exact .inr rfl
  rw [if_pos hh]
  cases hu : unitD 30 (36 :: c :: r) with
  | none => rfl
  | some t =>
    have := (unitN_pos hu).1
    rw [this]
    have e : (((36 :: c :: r : Txt).drop 1).head? = some 123) = (c = 123) := by
      show (some c = some 123) = _
      rw [Option.some.injEq]
    simp only [e]
    rfl
theorem byte_some {s : Txt} {i : Nat} {b c : UInt8} (h : s[i]? = some b) : (s[i]? = some c) ↔ ((b.toNat : Int) = (c.toNat : Int)) := by
  rw [h, Option.some.injEq]
  exact byte_eq.symm
theorem loop_step {one : Txt → Rs (List Pt × Nat)} (ht : Takes1 one) (l : List Pt) (c : UInt8) (r : Txt) : loopF one ((c :: r).length + 1) l (c :: r) = (one (c :: r)).and fun x => loopF one (((c :: r).drop x.2).length + 1) (x.1.foldl addP l) ((c :: r).drop x.2) := by
  show (one (c :: r)).and (fun x => loopF one (c :: r).length (x.1.foldl addP l) ((c :: r).drop x.2)) = _
  cases h : one (c :: r) with
  | bad k => rfl
  | ok x =>
    have h2 := ht _ _ h
    simp only [Rs.and]
    refine loopF_more ht _ _ _ _ ?_ (Nat.lt_succ_self _)
    rw [List.length_drop]
    omega
theorem fold_take {l' l : List Pt} {k : Nat} (h : k < l'.length) : (l'.take (k + 1)).foldl addP l = addP ((l'.take k).foldl addP l) l'[k] := by
  rw [take_one h, List.foldl_append]
  rfl
end Go.Proofs.YthommfjiaalecaaDoor
namespace Go.Proofs.YthommfjiaalecaaDoor
theorem nz_and {α β : Type} {r : Rs α} {f : α → Rs β} (h : r ≠ .bad 0) (hf : ∀ x, f x ≠ .bad 0) : r.and f ≠ .bad 0 := by
  cases r with
  | ok x => exact hf x
  | bad k => exact fun e => h (by injection e with e; rw [e])
theorem nz_ok {α : Type} {x : α} : (Rs.ok x) ≠ .bad 0 := fun e => by cases e
theorem nz_100 {α : Type} : (Rs.bad 100 : Rs α) ≠ .bad 0 := fun e => by cases e
def Nz {α : Type} (f : Pr α) : Prop := ∀ s, f s ≠ .bad 0
def NzS {σ α : Type} (step : σ → Ts → Rs ((σ × Ts) ⊕ (α × Ts))) : Prop := ∀ a s, step a s ≠ .bad 0
theorem many_nz {σ α : Type} {step : σ → Ts → Rs ((σ × Ts) ⊕ (α × Ts))} (hs : Sinks step) (hn : NzS step) : ∀ (n : Nat) (a : σ) (s : Ts), s.length < n → many step n a s ≠ .bad 0
  | 0, _, _, h => by omega
  | n + 1, a, s, h => by
    simp only [many]
    cases h1 : step a s with
    | bad k => exact fun e => hn a s (by rw [h1]; injection e with e; rw [e])
    | ok x =>
      have h3 := hs _ _ _ h1
      cases x with
      | inr y => exact nz_ok
      | inl y =>
        have h3 : y.2.length < s.length := h3
        exact many_nz hs hn n y.1 y.2 (by omega)
theorem manyF_nz {σ α : Type} {step : σ → Ts → Rs ((σ × Ts) ⊕ (α × Ts))} (hs : Sinks step) (hn : NzS step) (a : σ) : Nz (manyF step a) := fun s => many_nz hs hn _ a s (Nat.lt_succ_self _)
theorem partsF_nz : Nz partsF := by
  intro s
  match s with
  | [] => exact nz_100
  | (k, t) :: r =>
    simp only [partsF]
    split
    · exact nz_and (wpL_nz 30 t) fun _ => nz_ok
    · exact nz_100
theorem redirF_nz : Nz redirF := by
  intro s
  match s with
  | [] => exact nz_100
  | (k, t) :: r => exact nz_and (partsF_nz r) fun _ => nz_ok
theorem redirsS_nz : NzS redirsS := by
  intro a s
  unfold redirsS
  split
  · exact nz_and (redirF_nz s) fun _ => nz_ok
  · exact nz_ok
theorem simpleS_nz : NzS simpleS := by
  intro a s
  unfold simpleS
  split
  · exact nz_and (redirF_nz s) fun _ => nz_ok
  · split
    · split
      · split
        · exact nz_and (wpL_nz 30 _) fun _ => nz_ok
        · exact nz_and (wpL_nz 30 _) fun _ => nz_ok
      · split
        · exact nz_100
        · exact nz_ok
    · split
      · exact nz_100
      · exact nz_ok
theorem pipeF_nz {cmd : Pr Nd} (he : Eats cmd) (hc : Nz cmd) : Nz (pipeF cmd) := fun s => nz_and (hc _) fun x => manyF_nz (pipeS_sinks he _) (fun a s => by
  unfold pipeS
  split
  · exact nz_and (hc _) fun _ => nz_ok
  · exact nz_ok) _ _
theorem andF_nz {cmd : Pr Nd} (he : Eats cmd) (hc : Nz cmd) : Nz (andF cmd) := fun s => nz_and (pipeF_nz he hc s) fun x => manyF_nz (andS_sinks he) (fun a s => by
  unfold andS
  split
  · split
    · exact nz_and (pipeF_nz he hc _) fun _ => nz_ok
    · exact nz_ok
  · exact nz_ok) _ _
theorem listF_nz {cmd : Pr Nd} (he : Eats cmd) (hc : Nz cmd) : Nz (listF cmd) := fun s => manyF_nz (listS_sinks he) (fun a s => by
  unfold listS
  split
  · exact nz_ok
  · refine nz_and (andF_nz he hc s) fun x => ?_
    split
    · exact nz_ok
    · split
      · exact nz_ok
      · exact nz_ok) _ _
theorem someF_nz {cmd : Pr Nd} (he : Eats cmd) (hc : Nz cmd) : Nz (someF cmd) := fun s => nz_and (listF_nz he hc s) fun x => by
  split
  · exact nz_100
  · exact nz_ok
theorem tookF_nz (k : Nat) (t : Txt) (x : Nd × Ts) : tookF k t x ≠ .bad 0 := by
  unfold tookF
  split
  · exact nz_ok
  · exact nz_100
theorem insideF_nz {cmd : Pr Nd} (he : Eats cmd) (hc : Nz cmd) (kind : Int) (k : Nat) (t : Txt) : Nz (insideF cmd kind k t) := fun s => nz_and (someF_nz he hc s) fun x => tookF_nz _ _ _
theorem branchF_nz {cmd br : Pr Nd} (he : Eats cmd) (hc : Nz cmd) (hb : Nz br) : Nz (branchF cmd br) := fun s => nz_and (someF_nz he hc s) fun c => nz_and (tookF_nz _ _ _) fun c => nz_and (someF_nz he hc _) fun t => by
  split
  · exact nz_and (hb _) fun _ => nz_ok
  · split
    · exact nz_and (someF_nz he hc _) fun _ => nz_ok
    · exact nz_ok
theorem bodyF_nz {cmd : Pr Nd} (he : Eats cmd) (hc : Nz cmd) : Nz (bodyF cmd) := fun s => by
  unfold bodyF
  split
  · exact nz_and (someF_nz he hc _) fun x => tookF_nz _ _ _
  · exact nz_100
theorem loopSF_nz {cmd : Pr Nd} (he : Eats cmd) (hc : Nz cmd) (nm : Txt) : Nz (loopSF cmd nm) := fun s => nz_and (someF_nz he hc s) fun c => nz_and (bodyF_nz he hc _) fun _ => nz_ok
theorem eachE_nz {cmd : Pr Nd} (he : Eats cmd) (hc : Nz cmd) (nm : Txt) (ws : List (List Pt)) (os : List Txt) : Nz (eachE cmd nm ws os) := fun s => nz_and (bodyF_nz he hc _) fun _ => nz_ok
theorem eachF_nz {cmd : Pr Nd} (he : Eats cmd) (hc : Nz cmd) : Nz (eachF cmd) := fun s => by
  match s with
  | [] => exact nz_100
  | (k, t) :: r =>
    simp only [eachF]
    split
    · split
      · refine nz_and (manyF_nz wordsS_sinks (fun a s => ?_) _ _) fun x => ?_
        · unfold wordsS
          split
          · exact nz_and (partsF_nz _) fun _ => nz_ok
          · exact nz_ok
        · split
          · exact eachE_nz he hc _ _ _ _
          · exact nz_100
      · exact eachE_nz he hc _ _ _ _
    · exact nz_100
theorem itemF_nz {cmd : Pr Nd} (he : Eats cmd) (hc : Nz cmd) : Nz (itemF cmd) := fun s => nz_and (partsF_nz _) fun w => nz_and (manyF_nz orsS_sinks (fun a s => by
  unfold orsS
  split
  · exact nz_and (partsF_nz _) fun _ => nz_ok
  · exact nz_ok) _ _) fun ws => by
  split
  · exact nz_and (listF_nz he hc _) fun _ => nz_ok
  · exact nz_100
theorem casesF_nz {cmd : Pr Nd} (he : Eats cmd) (hc : Nz cmd) : Nz (casesF cmd) := fun s => nz_and (partsF_nz _) fun w => by
  split
  · refine manyF_nz (caseS_sinks he _) (fun a s => ?_) _ _
    unfold caseS
    split
    · exact nz_ok
    · refine nz_and (itemF_nz he hc s) fun x => ?_
      split
      · exact nz_ok
      · split
        · exact nz_ok
        · exact nz_100
  · exact nz_100
theorem defF_nz {cmd : Pr Nd} (hc : Nz cmd) : Nz (defF cmd) := fun s => by
  match s with
  | [] => exact nz_100
  | (k, t) :: r =>
    refine nz_and (hc _) fun x => ?_
    split
    · exact nz_ok
    · exact nz_100
theorem commandF_nz {cmd br : Pr Nd} (he : Eats cmd) (hc : Nz cmd) (hb : Nz br) : Nz (commandF cmd br) := fun s => by
  unfold commandF
  split
  · rename_i f hf
    refine nz_and ?_ fun x => nz_and (manyF_nz redirsS_sinks redirsS_nz _ _) fun _ => nz_ok
    unfold compF at hf
    split at hf
    · rw [← Option.some.inj hf]; exact insideF_nz he hc _ _ _ _
    split at hf
    · rw [← Option.some.inj hf]; exact insideF_nz he hc _ _ _ _
    split at hf
    · rw [← Option.some.inj hf]; exact nz_and (hb _) fun x => tookF_nz _ _ _
    split at hf
    · rw [← Option.some.inj hf]; exact loopSF_nz he hc _ _
    split at hf
    · rw [← Option.some.inj hf]; exact loopSF_nz he hc _ _
    split at hf
    · rw [← Option.some.inj hf]; exact eachF_nz he hc _
    split at hf
    · rw [← Option.some.inj hf]; exact casesF_nz he hc _
    · cases hf
  · split
    · exact nz_100
    · split
      · exact defF_nz hc _
      · exact manyF_nz simpleS_sinks simpleS_nz _ _
theorem lvS_nz : ∀ L, Nz (lvS L).1 ∧ Nz (lvS L).2
  | 0 => ⟨fun s h => (by cases h), fun s h => (by cases h)⟩
  | L + 1 => by
    obtain ⟨h1, h2⟩ := lvS_nz L
    obtain ⟨e1, e2⟩ := lvS_eats L
    have hb := branchF_nz e1 h1 h2
    exact ⟨commandF_nz e1 h1 hb, hb⟩
theorem scriptF_nz (s : Ts) : scriptF s ≠ .bad 0 := nz_and (listF_nz (lvS_eats 30).1 (lvS_nz 30).1 s) fun x => by
  split
  · exact nz_ok
  · exact nz_100
theorem toks_small : ∀ (n : Nat) (s : Txt), s.length ≤ n → ∀ l, toks s = some l → l.length ≤ s.length ∧ ∀ x ∈ l, x.2.length ≤ s.length ∧ x.2 ≠ [] ∧ x.1 < 3
  | _, [], _, l, h => by
    rw [toks_nil] at h
    obtain rfl := Option.some.inj h
    exact ⟨Nat.le_refl _, fun x hx => by cases hx⟩
  | 0, a :: r, hn, _, _ => by simp only [List.length_cons] at hn; omega
  | n + 1, a :: r, hn, l, h => by
    rw [toks_cons] at h
    cases h1 : tokOne a r with
    | none => rw [h1] at h; cases h
    | some y =>
      obtain ⟨l1, t⟩ := y
      rw [h1] at h
      simp only [Option.bind] at h
      cases h2 : toks t with
      | none => rw [h2] at h; cases h
      | some m =>
        rw [h2] at h
        obtain rfl := Option.some.inj h
        have hlen := tokOne_length h1
        simp only [List.length_cons] at hn ⊢
        obtain ⟨i1, i2⟩ := toks_small n t (by omega) m h2
        refine ⟨by rw [List.length_append]; omega, fun x hx => ?_⟩
        rcases List.mem_append.1 hx with hx | hx
        · rcases tokOne_view h1 with ⟨_, rfl, rfl⟩ | ⟨_, rfl, rfl⟩ | ⟨_, rfl, rfl⟩ | ⟨_, _, rfl, rfl⟩ | ⟨_, _, p, hp, hpt, _, rfl⟩
          · cases hx
          · cases hx
          · obtain rfl := List.mem_singleton.1 hx
            exact ⟨by simp, by simp, by show 2 < 3; decide⟩
          · obtain rfl := List.mem_singleton.1 hx
            have ho := opLen_le (a := a) (r := r)
            simp only [List.length_cons] at ho
            refine ⟨?_, fun e => ?_, by show 1 < 3; decide⟩
            · rw [List.length_take, List.length_cons]
              omega
            · have := congrArg List.length e
              rw [List.length_take, List.length_cons] at this
              simp only [List.length_nil] at this
              omega
          · obtain rfl := List.mem_singleton.1 hx
            refine ⟨?_, hp, by show 0 < 3; decide⟩
            have := congrArg List.length hpt
            simp only [List.length_cons, List.length_append] at this
            show p.length ≤ _
            omega
        · obtain ⟨j1, j2, j3⟩ := i2 x hx
          exact ⟨by omega, j2, j3⟩
theorem tokRes_tb (s : Txt) : TB (tokRes s).1 := by
  unfold tokRes
  split
  · exact ⟨by simp, fun x hx => by cases hx⟩
  · split
    · rename_i h20 _ l hl
      obtain ⟨h1, h2⟩ := toks_small _ s (Nat.le_refl _) l hl
      refine ⟨by show l.length ≤ _; omega, fun x hx => ?_⟩
      obtain ⟨j1, j2, j3⟩ := h2 x hx
      exact ⟨by omega, j2, by omega⟩
    · exact ⟨by simp, fun x hx => by cases hx⟩
def nd0 : Nd := .mk 0 false [] [] [] [] [] []
def parseR (s : Txt) : Nd × Int := if (tokRes s).2 = 0 then match scriptF (tokRes s).1 with
  | .ok x => (x, 0)
  | .bad k => (nd0, (k : Int))
  else (nd0, (tokRes s).2)
end Go.Proofs.YthommfjiaalecaaDoor
namespace Go.Proofs.YthommfjiaalecaaDoor
open Go.RowKit Vc
variable {w : World}
def RPost (w : World) (s : Txt) (L : Nat) (e : Ending) (w' : World) : Prop := (match wpL L s with
  | .ok l => ∃ v, e = .returned (.tuple #[v, .int .i64 0]) ∧ SlAt w' (fun k => w.heap.size ≤ k) l v
  | .bad k => e = .returned (.tuple #[.slice none 0 0, .int .i64 (k : Int)])) ∧ Still w w'
def RPartsS (L : Nat) : Prop := ∀ (w : World) (s : Txt), s.length < 1000000 → Calls Tryd.prog fn_ref08_parts #[.string (S s), .int .i64 (31 - (L : Int))] w (RPost w s L)
def BS (w : World) (gp : Nat) (p : Pt) (v : Value) (w' : World) : Prop := Row w' gp 81 ⟨pcell p v⟩ ∧ Row w' w.heap.size 81 ⟨pcell (.mk 0 false [] [] [] []) (.slice none 0 0)⟩ ∧ Still w w'
theorem BS.still {gp : Nat} {p : Pt} {v : Value} {w' w'' : World} (h : BS w gp p v w') (hs : Still w' w'') : BS w gp p v w'' := ⟨h.1.still hs, h.2.1.still hs, h.2.2.trans hs⟩
theorem BS.turn {gp : Nat} {p p' : Pt} {v v' : Value} {w' w'' : World} (h : BS w gp p v w') (hg : w.heap.size < gp) (hm : Mod (fun k => k = gp) w' w'') (hr : Row w'' gp 81 ⟨pcell p' v'⟩) : BS w gp p' v' w'' :=
  ⟨hr, h.2.1.mod hm (by intro e; omega), h.2.2.box (by omega) hm⟩
def RExit (gp gr : Nat) (ex : Int) (w10 : World) (R : Ending → World → Prop) : Prop :=
  ∃ vKind2 : Int, ∃ vQuoted2 : Bool, ∃ vText2 : List UInt8, ∃ vName2 : List UInt8, ∃ vOp2 : List UInt8, ∃ (vWord2 : Option Addr) (vWordL2 vWordC2 : Nat), w10.cell? (Addr.mk gp 0 none) = some (.int .i64 vKind2) ∧ w10.cell? (Addr.mk gp 1 none) = some (.bool vQuoted2) ∧ w10.cell? (Addr.mk gp 2 none) = some (.string (S vText2)) ∧ w10.cell? (Addr.mk gp 3 none) = some (.string (S vName2)) ∧ w10.cell? (Addr.mk gp 4 none) = some (.string (S vOp2)) ∧ w10.cell? (Addr.mk gp 5 none) = some (.slice vWord2 vWordL2 vWordC2) ∧ stCells (Addr.mk gr 0 none) (fun (w11 : World) => ∃ vKind3 : Int, ∃ vQuoted3 : Bool, ∃ vText3 : List UInt8, ∃ vName3 : List UInt8, ∃ vOp3 : List UInt8, ∃ (vWord3 : Option Addr) (vWordL3 vWordC3 : Nat), w11.cell? (Addr.mk gr 0 none) = some (.int .i64 vKind3) ∧ w11.cell? (Addr.mk gr 1 none) = some (.bool vQuoted3) ∧ w11.cell? (Addr.mk gr 2 none) = some (.string (S vText3)) ∧ w11.cell? (Addr.mk gr 3 none) = some (.string (S vName3)) ∧ w11.cell? (Addr.mk gr 4 none) = some (.string (S vOp3)) ∧ w11.cell? (Addr.mk gr 5 none) = some (.slice vWord3 vWordL3 vWordC3) ∧ R (.returned (.tuple #[(.agg #[(.int .i64 vKind3), (.bool vQuoted3), (.string (S vText3)), (.string (S vName3)), (.string (S vOp3)), (.slice vWord3 vWordL3 vWordC3)]), (.int .i64 ex)])) w11) 0 [(.int .i64 vKind2), (.bool vQuoted2), (.string (S vText2)), (.string (S vName2)), (.string (S vOp2)), (.slice vWord2 vWordL2 vWordC2)] w10
theorem rExit_spec {w10 : World} {gp : Nat} {ex : Int} {x : Pt} {wp : Option Addr} {wc : Nat} {R : Ending → World → Prop} (h : BS w gp x (.slice wp x.w.length wc) w10) (hR : ∀ w', Mod (fun k => k = w.heap.size) w10 w' → R (.returned (.tuple #[pagg x (.slice wp x.w.length wc), .int .i64 ex])) w') : RExit gp w.heap.size ex w10 R :=
  ⟨_, _, _, _, _, _, _, _, h.1.lget rfl, h.1.lget rfl, h.1.lget rfl, h.1.lget rfl, h.1.lget rfl, h.1.lget rfl, stK h.2.1 (by simp [pcell]) one6 fun w11 r11 m11 _ => ⟨_, _, _, _, _, _, _, _, r11.lget rfl, r11.lget rfl, r11.lget rfl, r11.lget rfl, r11.lget rfl, r11.lget rfl, hR w11 m11⟩⟩
def RBPost (w : World) (L : Nat) (q : Bool) (s : Txt) (e : Ending) (w' : World) : Prop := (∃ x vw, SlAt w' (fun k => w.heap.size ≤ k) x.w vw ∧ match bracesF (wpL L) q s with
  | .ok p => e = .returned (.tuple #[pagg x vw, .int .i64 0]) ∧ x = p
  | .bad k => e = .returned (.tuple #[pagg x vw, .int .i64 (k : Int)])) ∧ Still w w'
set_option maxHeartbeats 1000000 in
theorem ref_braces_of {L : Nat} (hL : L ≤ 30) (ih : RPartsS L) (s : Txt) (q : Bool) (hs : s.length < 1000000) : Calls Tryd.prog fn_ref08_braces #[.string (S s), .bool q, .int .i64 (30 - (L : Int))] w (RBPost w L q s) := by
  refine ref08_braces_calls _ _ _ _ _ ?_
  refine allocK fun w1 r1 s1 z1 => allocK fun w2 r2 s2 z2 => stK r2 (by simp) (by simp [Value.oneCell']) fun w3 r3 m3 z3 => ?_
  have hg : w.heap.size < w1.heap.size := by omega
  have b3 : BS w w1.heap.size (.mk 1 q [] [] [] []) (.slice none 0 0) w3 := ⟨r3, (r1.still s2).mod m3 (by intro e; omega), (s1.trans s2).box (by omega) m3⟩
  have hpl := paramN_le s
  -- an end
  have fin : ∀ (x : Pt) (wp : Option Addr) (wc : Nat) (ex : Nat) (w7 : World), BS w w1.heap.size x (.slice wp x.w.length wc) w7 → SlAt w7 (fun k => w.heap.size < k) x.w (.slice wp x.w.length wc) →
      (match bracesF (wpL L) q s with
        | .ok p => ex = 0 ∧ x = p
        | .bad k => ex = k) → RExit w1.heap.size w.heap.size (ex : Int) w7 (RBPost w L q s) := by
    intro x wp wc ex w7 b7 hsl hm
    refine rExit_spec b7 fun w8 m8 => ⟨⟨x, _, (hsl.mod m8 fun k hk e => by omega).mono fun k hk => by omega, ?_⟩, b7.2.2.box (Nat.le_refl _) m8⟩
    cases hb : bracesF (wpL L) q s with
    | ok p =>
      rw [hb] at hm
      obtain ⟨rfl, h⟩ := hm
      exact ⟨rfl, h⟩
    | bad k =>
      rw [hb] at hm
      have hm : ex = k := hm
      rw [hm]
  refine ⟨fun w9 => ¬ (1 < s.length ∧ s.head? = some 35 ∧ paramN (s.drop 1) = s.length - 1) ∧ BS w w1.heap.size (.mk 1 q [] [] [] []) (.slice none 0 0) w9, ⟨fun b w5 => (b = true ↔ (1 < s.length ∧ s.head? = some 35 ∧ paramN (s.drop 1) = s.length - 1)) ∧ BS w w1.heap.size (.mk 1 q [] [] [] []) (.slice none 0 0) w5, bsel_of (fun h => ?_) (fun h => ⟨⟨fun e => (by cases e), fun e => absurd e.1 (by have := of_decide_eq_false h; omega)⟩, b3⟩), ?_⟩, ?_⟩
  · have h : 1 < s.length := by have := of_decide_eq_true h; omega
    obtain ⟨c, r, hcr⟩ : ∃ c r, s = c :: r := by
      cases s with
      | nil => simp at h
      | cons c r => exact ⟨c, r, rfl⟩
    have hhd : s.head? = some c := by rw [hcr]; rfl
    refine ⟨by decide, c, by rw [hcr]; rfl, bsel_of (fun h1 => ?_) (fun h1 => ?_)⟩
    · have h1 : c = 35 := byte_eq.1 (of_decide_eq_true h1)
      refine ⟨by decide, by omega, (ref_param_spec (s.drop 1) (by rw [List.length_drop]; omega)).mono ?_⟩
      rintro _ w4 ⟨rfl, rfl⟩
      refine .inl ⟨_, rfl, ?_, b3⟩
      have hp1 := paramN_le (s.drop 1)
      rw [List.length_drop] at hp1
      rw [decide_eq_true_eq, wrap_i64 (by omega) (by omega)]
      exact ⟨fun e => ⟨h, by rw [hhd, h1], by omega⟩, fun e => by have := e.2.2; omega⟩
    · have h1 : ¬ c = 35 := fun e => of_decide_eq_false h1 (byte_eq.2 e)
      refine ⟨⟨fun e => (by cases e), fun e => ?_⟩, b3⟩
      rw [hhd] at e
      exact absurd (Option.some.inj e.2.1) h1
  · rintro b _ w5 ⟨hb, b5⟩
    refine bsel_of (fun h => ?_) (fun h => ⟨fun hc => (by rw [hb.2 hc] at h; cases h), b5⟩)
    have hc := hb.1 h
    refine ⟨by decide, by omega, stK b5.1 (by simp [pcell]) (by simp [Value.oneCell']) fun w6 r6 m6 z6 => stK r6 (by simp [ovw, pcell]) (by simp [Value.oneCell']) fun w7 r7 m7 z7 => ?_⟩
    have b6 : BS w w1.heap.size (.mk 1 q [] (s.drop 1) [] []) (.slice none 0 0) w6 := b5.turn hg m6 r6
    have b7 : BS w w1.heap.size (.mk 1 q [] (s.drop 1) lenO []) (.slice none 0 0) w7 := b6.turn hg m7 r7
    exact fin _ _ _ 0 w7 b7 (SlAt.nil _ _ _ _) (by
      have : bracesF (wpL L) q s = .ok (.mk 1 q [] (s.drop 1) lenO []) := by unfold bracesF; rw [if_pos hc]
      rw [this]
      exact ⟨rfl, rfl⟩)
  rintro _ w9 ⟨hno, b9⟩
  refine (ref_param_spec s hs).mono ?_
  rintro _ w10 ⟨rfl, rfl⟩
  refine .inl ⟨_, rfl, bsel_of (fun h => ?_) (fun h => ?_)⟩
  · have h : paramN s = 0 := by have := of_decide_eq_true h; omega
    refine fin _ _ _ 90 _ b9 (SlAt.nil _ _ _ _) ?_
    have : bracesF (wpL L) q s = .bad 90 := by unfold bracesF; rw [if_neg hno, if_pos h]
    rw [this]
  have h : ¬ paramN s = 0 := by have := of_decide_eq_false h; omega
  rw [Int.toNat_natCast]
  refine ⟨by omega, by omega, stK b9.1 (by simp [pcell]) (by simp [Value.oneCell']) fun w12 r12 m12 z12 => ?_⟩
  have b12 : BS w w1.heap.size (.mk 1 q [] (s.take (paramN s)) [] []) (.slice none 0 0) w12 := b9.turn hg m12 r12
  refine ⟨by omega, by omega, bsel_of (fun h2 => ?_) (fun h2 => ?_)⟩
  · have h2 : s.drop (paramN s) = [] := of_decide_eq_true h2
    refine fin _ _ _ 0 _ b12 (SlAt.nil _ _ _ _) ?_
    have : bracesF (wpL L) q s = .ok (.mk 1 q [] (s.take (paramN s)) [] []) := by unfold bracesF; rw [if_neg hno, if_neg h, if_pos h2]
    rw [this]
    exact ⟨rfl, rfl⟩
  have h2 : ¬ s.drop (paramN s) = [] := of_decide_eq_false h2
  have z12' : w.heap.size < w12.heap.size := b12.2.1.lt
  have g12 : w1.heap.size < w12.heap.size := b12.1.lt
  refine allocK fun w14 r14 s14 z14 => ?_
  have r14 : Row w14 w12.heap.size 9 ⟨strs opsL⟩ := r14
  have hop := opOf_len (s.drop (paramN s))
  have hopl : (s.drop (paramN s)).length = s.length - paramN s := List.length_drop
  refine ⟨fun i w15 => ∃ (k : Nat) (o : Txt), i = (k : Int) ∧ k ≤ 12 ∧ BS w w1.heap.size (.mk 1 q [] (s.take (paramN s)) o []) (.slice none 0 0) w15 ∧ Row w15 w12.heap.size 9 ⟨strs opsL⟩ ∧ (o = [] ∧ (opsL.drop k).find? (fun o => pf o (s.drop (paramN s))) = opsL.find? (fun o => pf o (s.drop (paramN s))) ∨ o ≠ [] ∧ o = opOf (s.drop (paramN s))), fun i _ => 12 - i.toNat, ⟨0, [], rfl, by omega, b12.still s14, r14, .inl ⟨rfl, rfl⟩⟩, ?_⟩
  rintro _ _ w15 ⟨k, o, rfl, hk, b15, r15, ho⟩
  refine ⟨fun w31 => w31 = w15 ∧ k < 12 ∧ o = [], ⟨fun b w16 => w16 = w15 ∧ (b = true ↔ k < 12 ∧ o = []), bsel_of (fun h3 => ⟨o, b15.1.lget rfl, rfl, ?_⟩) (fun h3 => ⟨rfl, fun e => (by cases e), fun e => absurd e.1 (by have := of_decide_eq_false h3; omega)⟩), ?_⟩, ?_⟩
  · rw [decide_eq_true_eq]
    exact ⟨fun e => ⟨by have := of_decide_eq_true h3; omega, e⟩, fun e => e.2⟩
  rotate_left
  · -- one operator more
    rintro _ w31 ⟨rfl, hk, rfl⟩
    have hf := (ho.resolve_right fun e => e.1 rfl).2
    have hk' : k < opsL.length := hk
    obtain ⟨a, ha, hc⟩ := (StrsAt.row r15).get hk'
    obtain rfl := Option.some.inj ha
    rw [find_step hk'] at hf
    have hlo : opsL[k].length ≤ 2 := by
      have : ∀ o ∈ opsL, o.length ≤ 2 := by decide
      exact this _ (List.getElem_mem hk')
    have hne : opsL[k] ≠ [] := by
      have : ∀ o ∈ opsL, o ≠ [] := by decide
      exact this _ (List.getElem_mem hk')
    have e1 : IntKind.i64.wrap ((k : Int) + 1) = ((k + 1 : Nat) : Int) := by rw [wrap_i64 (by omega) (by omega)]; omega
    have hc' : w31.cell? ((Addr.mk w12.heap.size 0 none).add (Int.toNat (k : Int) * 1)) = some (.string (S opsL[k])) := by rw [Int.toNat_natCast, Nat.mul_one]; exact hc
    rw [e1]
    refine ⟨by omega, by omega, _, hc', (ref_begins_spec _ _ (by omega) (by omega)).mono ?_⟩
    rintro _ w32 ⟨rfl, rfl⟩
    refine .inl ⟨_, rfl, bsel_of (fun h4 => ⟨by omega, by omega, _, hc', ?_⟩) (fun h4 => ?_)⟩
    · refine stK b15.1 (by simp [pcell]) (by simp [Value.oneCell']) fun w33 r33 m33 z33 => ⟨⟨k + 1, opsL[k], rfl, by omega, b15.turn hg m33 r33, r15.mod m33 (by intro e; omega), .inr ⟨hne, ?_⟩⟩, by dsimp only; omega⟩
      rw [if_pos h4] at hf
      unfold opOf
      rw [← hf]
      rfl
    · rw [if_neg (by rw [h4]; decide)] at hf
      exact ⟨⟨k + 1, [], rfl, by omega, b15, r15, .inl ⟨rfl, hf⟩⟩, by dsimp only; omega⟩
  rintro b _ w16 ⟨rfl, hb⟩
  refine bsel_of (fun h3 => ⟨rfl, hb.1 h3⟩) (fun h3 => ?_)
  have hoe : o = opOf (s.drop (paramN s)) := by
    rcases ho with ⟨rfl, hf⟩ | ho
    · have hk2 : k = 12 := by
        rcases Nat.lt_or_ge k 12 with e | e
        · rw [hb.2 ⟨e, rfl⟩] at h3; cases h3
        · omega
      subst hk2
      unfold opOf
      rw [← hf]
      rfl
    · exact ho.2
  subst hoe
  clear ho hb h3
  refine ⟨fun w21 => w21 = w16 ∧ ¬ (opOf (s.drop (paramN s)) = [] ∨ ((opOf (s.drop (paramN s)) = [61] ∨ opOf (s.drop (paramN s)) = [58, 61]) ∧ nameN (s.take (paramN s)) = 0)), ⟨fun b w19 => w19 = w16 ∧ (b = true ↔ (opOf (s.drop (paramN s)) = [] ∨ ((opOf (s.drop (paramN s)) = [61] ∨ opOf (s.drop (paramN s)) = [58, 61]) ∧ nameN (s.take (paramN s)) = 0))), ⟨_, b15.1.lget rfl, bsel_of (fun h3 => ⟨rfl, fun _ => .inl (of_decide_eq_true h3), fun _ => rfl⟩) (fun h3 => ⟨_, b15.1.lget rfl, bsel_of (fun h4 => ⟨_, b15.1.lget rfl, ?_⟩) (fun h4 => ⟨_, b15.1.lget rfl, bsel_of (fun h5 => ⟨_, b15.1.lget rfl, ?_⟩) (fun h5 => ⟨rfl, fun e => (by cases e), fun e => ?_⟩)⟩)⟩)⟩, ?_⟩, ?_⟩
  · have h3 := of_decide_eq_false h3
    have h4 := of_decide_eq_true h4
    refine (ref_Name_spec (s.take (paramN s)) (by rw [List.length_take]; omega)).mono ?_
    rintro _ w17 ⟨rfl, rfl⟩
    refine .inl ⟨_, rfl, rfl, ?_⟩
    rw [decide_eq_true_eq]
    exact ⟨fun e => .inr ⟨.inl h4, by omega⟩, fun e => by have := (e.resolve_left h3).2; omega⟩
  · have h3 := of_decide_eq_false h3
    have h5 := of_decide_eq_true h5
    refine (ref_Name_spec (s.take (paramN s)) (by rw [List.length_take]; omega)).mono ?_
    rintro _ w17 ⟨rfl, rfl⟩
    refine .inl ⟨_, rfl, rfl, ?_⟩
    rw [decide_eq_true_eq]
    exact ⟨fun e => .inr ⟨.inr h5, by omega⟩, fun e => by have := (e.resolve_left h3).2; omega⟩
  · have h3 := of_decide_eq_false h3
    have h4 := of_decide_eq_false h4
    have h5 := of_decide_eq_false h5
    rcases (e.resolve_left h3).1 with e | e
    · exact absurd e h4
    · exact absurd e h5
  · rintro b _ w19 ⟨rfl, hb⟩
    refine bsel_of (fun h6 => ?_) (fun h6 => ⟨rfl, fun hc => (by rw [hb.2 hc] at h6; cases h6)⟩)
    refine fin _ _ _ 90 _ b15 (SlAt.nil _ _ _ _) ?_
    have : bracesF (wpL L) q s = .bad 90 := by unfold bracesF; rw [if_neg hno, if_neg h, if_neg h2, if_pos (hb.1 h6)]
    rw [this]
  rintro _ w21 ⟨rfl, h3⟩
  have hbr : bracesF (wpL L) q s = (wpL L ((s.drop (paramN s)).drop (opOf (s.drop (paramN s))).length)).and fun w => if hasL w = true then .bad 90 else .ok (.mk 1 q [] (s.take (paramN s)) (opOf (s.drop (paramN s))) (if q = true then qdL [] w else w)) := by
    unfold bracesF
    rw [if_neg hno, if_neg h, if_neg h2, if_neg h3]
  refine ⟨opOf (s.drop (paramN s)), b15.1.lget rfl, by omega, by omega, ?_⟩
  rw [Int.toNat_natCast, show IntKind.i64.wrap (30 - (L : Int) + 1) = 31 - (L : Int) by rw [wrap_i64 (by omega) (by omega)]; omega]
  have z15 : w.heap.size < w21.heap.size := b15.2.1.lt
  have g15 : w1.heap.size < w21.heap.size := b15.1.lt
  have hinl : ((s.drop (paramN s)).drop (opOf (s.drop (paramN s))).length).length ≤ s.length - (paramN s + (opOf (s.drop (paramN s))).length) := by rw [List.length_drop, List.length_drop]; omega
  refine (ih w21 _ (by omega)).mono ?_
  rintro e22 w22 ⟨hp, s22⟩
  have b22 := b15.still s22
  have z22 := s22.size
  cases hw : wpL L ((s.drop (paramN s)).drop (opOf (s.drop (paramN s))).length) with
  | bad k =>
    rw [hw] at hp
    have hk : k ≠ 0 := fun e => wpL_nz L _ (by rw [hw, e])
    refine .inl ⟨none, 0, 0, (k : Int), hp, bsel_of (fun _ => ?_) (fun hh => absurd (nf hh) (by omega))⟩
    refine fin _ _ _ k _ b22 (SlAt.nil _ _ _ _) ?_
    rw [hbr, hw]
    rfl
  | ok l =>
    rw [hw] at hp
    obtain ⟨v, rfl, hsl⟩ := hp
    obtain ⟨wp, wc, rfl⟩ := hsl.form
    have hwl := wpL_wt L _ _ hw
    refine .inl ⟨wp, l.length, wc, 0, rfl, bsel_of (fun hh => absurd rfl (nt hh)) (fun _ => (commands_spec hsl (by omega)).mono ?_)⟩
    rintro _ w24 ⟨rfl, s24⟩
    have b24 := b22.still s24
    have z24 := s24.size
    refine .inl ⟨_, rfl, bsel_of (fun h7 => ?_) (fun h7 => stK b24.1 (by simp [pcell]) (by simp [Value.oneCell']) fun w26 r26 m26 z26 => ?_)⟩
    · refine fin _ _ _ 90 _ b24 (SlAt.nil _ _ _ _) ?_
      rw [hbr, hw]
      simp only [Rs.and]
      rw [if_pos h7]
    have b26 : BS w w1.heap.size (.mk 1 q [] (s.take (paramN s)) (opOf (s.drop (paramN s))) l) (.slice wp l.length wc) w26 := b24.turn hg m26 r26
    have hsl26 := (hsl.still s24).mod m26 fun k hk e => by omega
    refine ⟨fun w29 => RExit w1.heap.size w.heap.size 0 w29 (RBPost w L q s), bsel_of (fun hq => (quotes_spec hsl26 (by omega)).mono ?_) (fun hq => ?_), fun _ w29 h => h⟩
    · rintro _ w27 ⟨v27, rfl, hsl27, s27⟩
      obtain ⟨qp, qc, rfl⟩ := hsl27.form
      have b27 := b26.still s27
      refine .inl ⟨_, _, _, rfl, stK b27.1 (by simp [pcell]) (by simp [Value.oneCell']) fun w28 r28 m28 z28 => ?_⟩
      have b28 : BS w w1.heap.size (.mk 1 q [] (s.take (paramN s)) (opOf (s.drop (paramN s))) (qdL [] l)) (.slice qp (qdL [] l).length qc) w28 := b27.turn hg m28 r28
      refine fin _ _ _ 0 w28 b28 ((hsl27.mod m28 fun k hk e => by omega).mono fun k hk => by omega) ?_
      rw [hbr, hw]
      simp only [Rs.and]
      rw [if_neg (by rw [h7]; decide), if_pos hq]
      exact ⟨trivial, rfl⟩
    · refine fin _ _ _ 0 w26 b26 (hsl26.mono fun k hk => by omega) ?_
      rw [hbr, hw]
      simp only [Rs.and]
      rw [if_neg (by rw [h7]; decide), if_neg (by rw [hq]; decide)]
      exact ⟨trivial, rfl⟩
theorem pf_dollar (x : UInt8) (r : Txt) : pf [36, x] (36 :: r) = decide (r.head? = some x) := by
  rw [pf_isPrefixOf]
  cases r with
  | nil => rfl
  | cons c r =>
    rw [Bool.eq_iff_iff]
    simp [List.isPrefixOf]
    exact eq_comm
def RDPost (w : World) (L : Nat) (q : Bool) (s : Txt) (e : Ending) (w' : World) : Prop := (∃ (x : Pt) (vw : Value) (n : Nat), SlAt w' (fun k => w.heap.size ≤ k) x.w vw ∧ match dollarF (wpL L) q s with
  | .ok p => e = .returned (.tuple #[pagg x vw, .int .i64 (n : Int), .int .i64 0]) ∧ p = (x, n)
  | .bad k => e = .returned (.tuple #[pagg x vw, .int .i64 (n : Int), .int .i64 (k : Int)])) ∧ Still w w'
set_option maxHeartbeats 1000000 in
theorem ref_dollar_of {L : Nat} (hL : L ≤ 30) (ih : RPartsS L) (r : Txt) (q : Bool) (hl : (36 :: r).length < 1000000) : Calls Tryd.prog fn_ref08_dollar #[.string (S (36 :: r)), .bool q, .int .i64 (30 - (L : Int))] w (RDPost w L q (36 :: r)) := by
  refine ref08_dollar_calls _ _ _ _ _ ?_
  refine allocK fun w1 r1 s1 z1 => ?_
  have hl' : r.length < 999999 := by simp only [List.length_cons] at hl; omega
  -- an end
  have fin : ∀ (x : Pt) (n : Nat) (w5 : World), Row w5 w.heap.size 81 ⟨pcell (.mk 0 false [] [] [] []) (.slice none 0 0)⟩ → Still w w5 → x.w = [] → dollarF (wpL L) q (36 :: r) = .ok (x, n) →
      stCells (Addr.mk w.heap.size 0 none) (fun (w6 : World) => ∃ vKind : Int, ∃ vQuoted : Bool, ∃ vText : List UInt8, ∃ vName : List UInt8, ∃ vOp : List UInt8, ∃ (vWord : Option Addr) (vWordL vWordC : Nat), w6.cell? (Addr.mk w.heap.size 0 none) = some (.int .i64 vKind) ∧ w6.cell? (Addr.mk w.heap.size 1 none) = some (.bool vQuoted) ∧ w6.cell? (Addr.mk w.heap.size 2 none) = some (.string (S vText)) ∧ w6.cell? (Addr.mk w.heap.size 3 none) = some (.string (S vName)) ∧ w6.cell? (Addr.mk w.heap.size 4 none) = some (.string (S vOp)) ∧ w6.cell? (Addr.mk w.heap.size 5 none) = some (.slice vWord vWordL vWordC) ∧ RDPost w L q (36 :: r) (.returned (.tuple #[(.agg #[(.int .i64 vKind), (.bool vQuoted), (.string (S vText)), (.string (S vName)), (.string (S vOp)), (.slice vWord vWordL vWordC)]), (.int .i64 (n : Int)), (.int .i64 (0 : Int))])) w6) 0 [.int .i64 x.k, .bool x.q, .string (S x.t), .string (S x.n), .string (S x.o), .slice none 0 0] w5 := by
    intro x n w5 r5 s5 hx hd
    refine stK r5 (by simp [pcell]) (by simp [Value.oneCell']) fun w6 r6 m6 z6 => ⟨x.k, x.q, x.t, x.n, x.o, none, 0, 0, r6.lget rfl, r6.lget rfl, r6.lget rfl, r6.lget rfl, r6.lget rfl, r6.lget rfl, ⟨x, .slice none 0 0, n, by rw [hx]; exact SlAt.nil _ _ _ _, ?_⟩, s5.box (Nat.le_refl _) m6⟩
    rw [hd]
    exact ⟨rfl, rfl⟩
  refine ⟨fun w15 => w15 = w1 ∧ ¬ (r.head? = some 40 ∨ r.head? = some 123), ⟨fun b w4 => w4 = w1 ∧ (b = true ↔ r.head? = some 40 ∨ r.head? = some 123), (ref_begins_spec (36 :: r) [36, 40] hl (by decide)).mono ?_, ?_⟩, ?_⟩
  · rintro _ w2 ⟨rfl, rfl⟩
    rw [pf_dollar]
    refine .inl ⟨_, rfl, bsel_of (fun h => ⟨rfl, fun _ => .inl (of_decide_eq_true h), fun _ => rfl⟩) (fun h => (ref_begins_spec (36 :: r) [36, 123] hl (by decide)).mono ?_)⟩
    rintro _ w3 ⟨rfl, rfl⟩
    rw [pf_dollar]
    refine .inl ⟨_, rfl, rfl, ?_⟩
    rw [decide_eq_true_eq]
    exact ⟨.inr, fun e => e.resolve_left (of_decide_eq_false h)⟩
  · rintro b _ w4 ⟨rfl, hb⟩
    refine bsel_of (fun h => ?_) (fun h => ⟨rfl, fun e => (by rw [hb.2 e] at h; cases h)⟩)
    have hh := hb.1 h
    obtain ⟨c, y, rfl⟩ : ∃ c y, r = c :: y := by
      cases r with
      | nil => rcases hh with e | e <;> cases e
      | cons c y => exact ⟨c, y, rfl⟩
    have hc : c = 40 ∨ c = 123 := by simpa using hh
    refine (ref_skip_spec (36 :: c :: y) 0 (by simp) hl).mono ?_
    rintro _ w5 ⟨rfl, rfl⟩
    have hd := dollarF_group (P := wpL L) (q := q) (r := y) hc
    rw [List.drop_zero]
    refine .inl ⟨_, rfl, ?_⟩
    cases hu : unitD 30 (36 :: c :: y) with
    | none =>
      rw [hu] at hd
      refine bsel_of (fun _ => ?_) (fun h => absurd (show (-1 : Int) < 0 by decide) (of_decide_eq_false h))
      refine stK r1 (by simp) (by simp [Value.oneCell']) fun w6 r6 m6 z6 => ⟨0, false, [], [], [], none, 0, 0, r6.lget rfl, r6.lget rfl, r6.lget rfl, r6.lget rfl, r6.lget rfl, r6.lget rfl, ⟨.mk 0 false [] [] [] [], .slice none 0 0, 0, SlAt.nil _ _ _ _, ?_⟩, s1.box (Nat.le_refl _) m6⟩
      rw [hd]
      rfl
    | some t =>
      obtain ⟨h1, h2, h3⟩ := unitN_pos hu
      have h4 := unit_bracket hc hu
      have hix : ix (36 :: c :: y) (some t) = (unitN (36 :: c :: y) : Int) := by rw [h1]; rfl
      rw [hu] at hd
      dsimp only at hd
      rw [hix]
      generalize unitN (36 :: c :: y) = n at h1 h2 h3 hd hix
      have h5 : 3 ≤ n := by omega
      have e1 : IntKind.i64.wrap ((n : Int) - 1) = ((n - 1 : Nat) : Int) := by rw [wrap_i64 (by omega) (by omega)]; omega
      have e2 : IntKind.i64.wrap ((n : Int) - 2) = ((n - 2 : Nat) : Int) := by rw [wrap_i64 (by omega) (by omega)]; omega
      rw [e1, e2]
      refine bsel_of (fun h => absurd (of_decide_eq_true h) (by omega)) (fun _ => ⟨by decide, c, rfl, bsel_of (fun h7 => ?_) (fun h7 => ?_)⟩)
      · have hc3 : c = 123 := byte_eq.1 (of_decide_eq_true h7)
        subst hc3
        rw [if_pos rfl] at hd
        have hin : ((36 :: 123 :: y : Txt).drop (Int.toNat 2)).take (Int.toNat ((n - 1 : Nat) : Int) - Int.toNat 2) = y.take (n - 3) := by
          rw [Int.toNat_natCast]
          show y.take (n - 1 - 2) = _
          rw [show n - 1 - 2 = n - 3 by omega]
        have hil : (y.take (n - 3)).length ≤ y.length := by rw [List.length_take]; omega
        simp only [List.length_cons] at hl'
        refine ⟨by decide, by omega, by omega, ?_⟩
        rw [hin]
        refine (ref_braces_of hL ih (y.take (n - 3)) q (by omega)).mono ?_
        rintro e7 w7 ⟨⟨x, vw, hsl, hm⟩, s7⟩
        obtain ⟨wp, wc, rfl⟩ := hsl.form
        have z7 := s7.size
        -- the part is told, whatever the number
        have key : ∃ k : Nat, e7 = .returned (.tuple #[pagg x (.slice wp x.w.length wc), .int .i64 (k : Int)]) ∧ (match bracesF (wpL L) q (y.take (n - 3)) with
            | .ok p => k = 0 ∧ x = p
            | .bad j => k = j) := by
          cases hb : bracesF (wpL L) q (y.take (n - 3)) with
          | ok p =>
            rw [hb] at hm
            exact ⟨0, hm.1, rfl, hm.2⟩
          | bad j =>
            rw [hb] at hm
            exact ⟨j, hm, rfl⟩
        obtain ⟨k, he, hk⟩ := key
        refine .inl ⟨x.k, x.q, x.t, x.n, x.o, wp, x.w.length, wc, (k : Int), he, boxK rfl one6 fun w9 r9 s9 z9 => ⟨x.k, x.q, x.t, x.n, x.o, wp, x.w.length, wc, r9.lget rfl, r9.lget rfl, r9.lget rfl, r9.lget rfl, r9.lget rfl, r9.lget rfl, ?_⟩⟩
        have s79 := s7.trans s9
        refine stK (r1.still s79) (by simp) one6 fun w10 r10 m10 z10 => ⟨x.k, x.q, x.t, x.n, x.o, wp, x.w.length, wc, r10.lget rfl, r10.lget rfl, r10.lget rfl, r10.lget rfl, r10.lget rfl, r10.lget rfl, ⟨x, .slice wp x.w.length wc, n, ((hsl.still s9).mod m10 fun j hj e => by omega).mono fun j hj => by omega, ?_⟩, (s1.trans s79).box (Nat.le_refl _) m10⟩
        rw [hd]
        cases hb : bracesF (wpL L) q (y.take (n - 3)) with
        | ok p =>
          rw [hb] at hk
          obtain ⟨rfl, rfl⟩ := hk
          exact ⟨rfl, rfl⟩
        | bad j =>
          rw [hb] at hk
          have hk : k = j := hk
          subst hk
          rfl
      · have hc3 : ¬ c = 123 := fun e => of_decide_eq_false h7 (byte_eq.2 e)
        rw [if_neg hc3] at hd
        refine ⟨fun w13 => w13 = w5 ∧ ¬ (4 < n ∧ (36 :: c :: y)[2]? = some 40 ∧ (36 :: c :: y)[n - 2]? = some 41), ⟨fun b w11 => w11 = w5 ∧ (b = true ↔ (4 < n ∧ (36 :: c :: y)[2]? = some 40 ∧ (36 :: c :: y)[n - 2]? = some 41)), bsel_of (fun h6 => ?_) (fun h6 => ⟨rfl, fun e => (by cases e), fun e => ?_⟩), ?_⟩, ?_⟩
        · have h6 : 4 < n := by have := of_decide_eq_true h6; omega
          obtain ⟨b1, hb1⟩ : ∃ b1, (36 :: c :: y)[2]? = some b1 := ⟨_, List.getElem?_eq_getElem (by omega)⟩
          obtain ⟨b2, hb2⟩ : ∃ b2, (36 :: c :: y)[n - 2]? = some b2 := ⟨_, List.getElem?_eq_getElem (by omega)⟩
          refine ⟨by decide, b1, hb1, bsel_of (fun h8 => ⟨by omega, b2, by rw [Int.toNat_natCast]; exact hb2, rfl, ?_⟩) (fun h8 => ⟨rfl, fun e => (by cases e), fun e => ?_⟩)⟩
          · rw [decide_eq_true_eq, byte_some hb1, byte_some hb2]
            exact ⟨fun e => ⟨h6, of_decide_eq_true h8, e⟩, fun e => e.2.2⟩
          · rw [byte_some hb1] at e
            exact absurd e.2.1 (of_decide_eq_false h8)
        · have := of_decide_eq_false h6
          omega
        · rintro b _ w11 ⟨rfl, hb⟩
          refine bsel_of (fun h8 => ?_) (fun h8 => ⟨rfl, fun e => (by rw [hb.2 e] at h8; cases h8)⟩)
          rw [if_pos (hb.1 h8)] at hd
          have h9 := (hb.1 h8).1
          have ht : ((36 :: c :: y : Txt).drop (Int.toNat 3)).take (Int.toNat ((n - 2 : Nat) : Int) - Int.toNat 3) = ((36 :: c :: y).drop 3).take (n - 5) := by
            rw [Int.toNat_natCast]
            show ((36 :: c :: y : Txt).drop 3).take (n - 2 - 3) = _
            rw [show n - 2 - 3 = n - 5 by omega]
          rw [ht]
          exact ⟨by decide, by omega, by omega, fin (.mk 3 q (((36 :: c :: y).drop 3).take (n - 5)) [] [] []) n _ r1 s1 rfl hd⟩
        · rintro _ w13 ⟨rfl, hno⟩
          rw [if_neg hno] at hd
          have ht : ((36 :: c :: y : Txt).drop (Int.toNat 2)).take (Int.toNat ((n - 1 : Nat) : Int) - Int.toNat 2) = y.take (n - 3) := by
            rw [Int.toNat_natCast]
            show y.take (n - 1 - 2) = _
            rw [show n - 1 - 2 = n - 3 by omega]
          rw [ht]
          exact ⟨by decide, by omega, by omega, fin (.mk 2 q (y.take (n - 3)) [] [] []) n _ r1 s1 rfl hd⟩
  rintro _ w15 ⟨rfl, hno⟩
  have hd0 : dollarF (wpL L) q (36 :: r) = if 0 < nameN r then .ok (.mk 1 q [] (r.take (nameN r)) [] [], nameN r + 1) else if 0 < specN r then .ok (.mk 1 q [] (r.take 1) [] [], 2) else .ok (.mk 0 q [36] [] [] [], 1) := by
    unfold dollarF
    simp only [List.drop_succ_cons, List.drop_zero]
    rw [if_neg hno]
  have hnl := nameN_le r
  have hsp1 := specN_one r
  have hspl := specN_le r
  have e1 : (36 :: r : Txt).drop (Int.toNat 1) = r := rfl
  refine ⟨by decide, by simp only [List.length_cons]; omega, ?_⟩
  rw [e1]
  refine (ref_Name_spec r (by omega)).mono ?_
  rintro _ w16 ⟨rfl, rfl⟩
  refine .inl ⟨_, rfl, fun n w19 => w19 = w16 ∧ n = ((if 0 < nameN r then nameN r else specN r : Nat) : Int), ⟨fun b w18 => w18 = w16 ∧ (b = true ↔ nameN r = 0 ∧ 0 < specN r), bsel_of (fun h => bsel_of (fun h2 => ?_) (fun h2 => ?_)) (fun h => ?_), ?_⟩, ?_⟩
  · have h : nameN r = 0 := by have := of_decide_eq_true h; omega
    have h2 : 1 < (36 :: r).length := by have := of_decide_eq_true h2; omega
    obtain ⟨c, y, rfl⟩ : ∃ c y, r = c :: y := by
      cases r with
      | nil => simp at h2
      | cons c y => exact ⟨c, y, rfl⟩
    refine ⟨by decide, c, rfl, (ref_special_spec c).mono ?_⟩
    rintro _ w17 ⟨rfl, rfl⟩
    refine .inl ⟨_, rfl, rfl, ?_⟩
    simp only [specN]
    refine ⟨fun e => ⟨h, by rw [if_pos e]; decide⟩, fun e => ?_⟩
    have := e.2
    split at this
    · assumption
    · omega
  · have h2 : ¬ 1 < (36 :: r).length := by have := of_decide_eq_false h2; omega
    have : r = [] := by
      cases r with
      | nil => rfl
      | cons c y => simp at h2
    subst this
    exact ⟨rfl, fun e => (by cases e), fun e => absurd e.2 (by decide)⟩
  · have h : ¬ nameN r = 0 := by have := of_decide_eq_false h; omega
    exact ⟨rfl, fun e => (by cases e), fun e => absurd e.1 h⟩
  · rintro b _ w18 ⟨rfl, hb⟩
    refine bsel_of (fun h => ⟨rfl, ?_⟩) (fun h => ⟨rfl, ?_⟩)
    · have hh := hb.1 h
      rw [if_neg (by omega), show specN r = 1 by omega]
      rfl
    · by_cases h0 : 0 < nameN r
      · rw [if_pos h0]
      · have : ¬ 0 < specN r := fun e => by rw [hb.2 ⟨by omega, e⟩] at h; cases h
        rw [if_neg h0]
        omega
  rintro _ _ w19 ⟨rfl, rfl⟩
  have hm1 : (if 0 < nameN r then nameN r else specN r) ≤ r.length := by split <;> omega
  have hd1 : dollarF (wpL L) q (36 :: r) = if (if 0 < nameN r then nameN r else specN r) = 0 then .ok (.mk 0 q [36] [] [] [], 1) else .ok (.mk 1 q [] (r.take (if 0 < nameN r then nameN r else specN r)) [] [], (if 0 < nameN r then nameN r else specN r) + 1) := by
    rw [hd0]
    by_cases h0 : 0 < nameN r
    · simp only [if_pos h0]
      rw [if_neg (by omega)]
    · simp only [if_neg h0]
      by_cases h6 : 0 < specN r
      · rw [if_pos h6, if_neg (by omega), show specN r = 1 by omega]
      · rw [if_neg h6, if_pos (by omega)]
  generalize (if 0 < nameN r then nameN r else specN r) = m at hm1 hd1
  refine bsel_of (fun h5 => ?_) (fun h5 => ?_)
  · have h5 : m = 0 := by have := of_decide_eq_true h5; omega
    rw [if_pos h5] at hd1
    exact fin (.mk 0 q [36] [] [] []) 1 _ r1 s1 rfl hd1
  · have h5 : ¬ m = 0 := by have := of_decide_eq_false h5; omega
    rw [if_neg h5] at hd1
    have e2 : IntKind.i64.wrap ((m : Int) + 1) = ((m + 1 : Nat) : Int) := by rw [wrap_i64 (by omega) (by omega)]; omega
    rw [e2]
    have ht : r.take (Int.toNat ((m + 1 : Nat) : Int) - Int.toNat 1) = r.take m := by
      rw [Int.toNat_natCast]
      rfl
    rw [ht]
    exact ⟨by decide, by omega, by simp only [List.length_cons]; omega, fin (.mk 1 q [] (r.take m) [] []) (m + 1) _ r1 s1 rfl hd1⟩
def RQPost (w : World) (L : Nat) (s : Txt) (e : Ending) (w' : World) : Prop := (match dblF (wpL L) s with
  | .ok l => ∃ v, e = .returned (.tuple #[v, .int .i64 0]) ∧ SlAt w' (fun k => w.heap.size ≤ k) l v
  | .bad k => e = .returned (.tuple #[.slice none 0 0, .int .i64 (k : Int)])) ∧ Still w w'
set_option maxHeartbeats 1000000 in
theorem ref_double_of {L : Nat} (hL : L ≤ 30) (ih : RPartsS L) (s : Txt) (hl : s.length < 1000000) : Calls Tryd.prog fn_ref08_double #[.string (S s), .int .i64 (30 - (L : Int))] w (RQPost w L s) := by
  refine ref08_double_calls _ _ _ _ ?_
  refine bsel_of (fun h => ?_) (fun h => ?_)
  · have h : s = [] := of_decide_eq_true h
    subst h
    refine allocK fun w1 r1 s1 z1 => ?_
    have r1 : Row w1 w.heap.size 81 ⟨pcell (tx true []) (.slice none 0 0)⟩ := r1
    refine ⟨⟨_, rfl, some ⟨w.heap.size, 0, none⟩, 1, rfl, Nat.le_refl _, fun _ => ⟨_, rfl, Nat.le_refl _, ?_⟩⟩, s1⟩
    refine PsAt.of fun i x hx => ?_
    have hi : i = 0 := by
      cases i with
      | zero => rfl
      | succ i => simp at hx
    subst hi
    obtain rfl := Option.some.inj hx
    refine PtAt.of (fun j u hu => ?_) (SlAt.nil _ _ none 0)
    rw [adds, add_row, show 0 + (0 * 6 + j) = j by omega]
    exact r1.lget hu
  have h : s ≠ [] := of_decide_eq_false h
  have hdbl : dblF (wpL L) s = loopF (dblOne (wpL L)) (s.length + 1) [] s := by unfold dblF; rw [if_neg h]
  refine ⟨fun s1 out n c w2 => ∃ acc, SlAt w2 (fun k => w.heap.size ≤ k) acc (.slice out n c) ∧ Still w w2 ∧ s1.length ≤ s.length ∧ loopF (dblOne (wpL L)) (s1.length + 1) acc s1 = loopF (dblOne (wpL L)) (s.length + 1) [] s ∧ wtL acc + 12 * s1.length ≤ 12 * s.length, fun s1 _ _ _ _ => s1.length, ⟨[], SlAt.nil _ _ _ _, Still.refl _, Nat.le_refl _, rfl, by simp [wtL]⟩, ?_⟩
  rintro s1 out n c _ w2 ⟨acc, hacc, s2, hle, hlp, hwt⟩
  obtain ⟨rfl, hcap⟩ := hacc.len
  refine bsel_of (fun hx => ?_) (fun hx => ?_)
  rotate_left
  · have hx : s1 = [] := List.eq_nil_of_length_eq_zero (by have := of_decide_eq_false hx; omega)
    subst hx
    refine ⟨?_, s2⟩
    rw [hdbl, ← hlp]
    exact ⟨_, rfl, hacc⟩
  obtain ⟨b, y, rfl⟩ : ∃ b y, s1 = b :: y := by
    cases s1 with
    | nil => exact absurd (of_decide_eq_true hx) (by decide)
    | cons b y => exact ⟨b, y, rfl⟩
  rw [loop_step (dblOne_takes _)] at hlp
  have hlc : (b :: y).length < 1000000 := by omega
  have hz := s2.size
  refine ⟨by decide, by simp only [List.length_cons]; omega, boxK rfl (by simp [Value.oneCell']) fun w4 r4 s4 z4 => ?_⟩
  have r4 : Row w4 w2.heap.size 81 ⟨pcell (tx true [b]) (.slice none 0 0)⟩ := r4
  refine ⟨fun n ex w7 => ∃ (x : Pt) (wp : Option Addr) (wc : Nat), Row w7 w2.heap.size 81 ⟨pcell x (.slice wp x.w.length wc)⟩ ∧ SlAt w7 (fun k => w2.heap.size < k) x.w (.slice wp x.w.length wc) ∧ Still w2 w7 ∧ (b = 36 → match dollarF (wpL L) true (b :: y) with
      | .ok p => ex = 0 ∧ p.1 = x ∧ n = (p.2 : Int)
      | .bad k => ex = (k : Int)) ∧ (b ≠ 36 → ex = 0 ∧ n = 1 ∧ x = tx true [b]), ⟨by decide, b, rfl, bsel_of (fun h36 => ?_) (fun h36 => ?_)⟩, ?_⟩
  · have h36 : b = 36 := byte_eq.1 (of_decide_eq_true h36)
    subst h36
    refine (ref_dollar_of hL ih y true hlc).mono ?_
    rintro e5 w5 ⟨⟨x, vw, n, hsl, hm⟩, s5⟩
    obtain ⟨wp, wc, rfl⟩ := hsl.form
    have z5 := s5.size
    have key : ∃ k : Nat, e5 = .returned (.tuple #[pagg x (.slice wp x.w.length wc), .int .i64 (n : Int), .int .i64 (k : Int)]) ∧ (match dollarF (wpL L) true (36 :: y) with
        | .ok p => k = 0 ∧ p = (x, n)
        | .bad j => k = j) := by
      cases hb : dollarF (wpL L) true (36 :: y) with
      | ok p =>
        rw [hb] at hm
        exact ⟨0, hm.1, rfl, hm.2⟩
      | bad j =>
        rw [hb] at hm
        exact ⟨j, hm, rfl⟩
    obtain ⟨k, he, hk⟩ := key
    refine .inl ⟨x.k, x.q, x.t, x.n, x.o, wp, x.w.length, wc, (n : Int), (k : Int), he, stK (r4.still s5) (by simp [pcell]) one6 fun w6 r6 m6 z6 => ⟨x, wp, wc, r6, (hsl.mod m6 fun j hj e => by omega).mono fun j hj => by omega, (s4.trans s5).box (Nat.le_refl _) m6, fun _ => ?_, fun e => absurd rfl e⟩⟩
    cases hb : dollarF (wpL L) true (36 :: y) with
    | ok p =>
      rw [hb] at hk
      obtain ⟨rfl, rfl⟩ := hk
      exact ⟨rfl, rfl, rfl⟩
    | bad j =>
      rw [hb] at hk
      have hk : k = j := hk
      subst hk
      rfl
  · have h36 : ¬ b = 36 := fun e => of_decide_eq_false h36 (byte_eq.2 e)
    exact ⟨tx true [b], none, 0, r4, SlAt.nil _ _ _ _, s4, fun e => absurd e h36, fun _ => ⟨rfl, rfl, rfl⟩⟩
  rintro n ex _ w7 ⟨x, wp, wc, r7, hsl7, s7, hx1, hx2⟩
  have z7 : w2.heap.size < w7.heap.size := r7.lt
  -- the one that is taken
  refine ⟨fun n1 w10 => ∃ (x : Pt) (wp : Option Addr) (wc : Nat), Row w10 w2.heap.size 81 ⟨pcell x (.slice wp x.w.length wc)⟩ ∧ SlAt w10 (fun k => w2.heap.size < k) x.w (.slice wp x.w.length wc) ∧ Still w2 w10 ∧ match dblOne (wpL L) (b :: y) with
      | .ok p => ex = 0 ∧ p.1 = [x] ∧ n1 = (p.2 : Int)
      | .bad k => ex = (k : Int), ⟨fun t w8 => w8 = w7 ∧ (t = true ↔ (b = 92 ∧ (y.head? = some 36 ∨ y.head? = some 96 ∨ y.head? = some 34 ∨ y.head? = some 92))), ⟨by decide, b, rfl, bsel_of (fun h92 => bsel_of (fun h1 => ?_) (fun h1 => ⟨rfl, fun e => (by cases e), fun e => ?_⟩)) (fun h92 => ⟨rfl, fun e => (by cases e), fun e => absurd e.1 fun e => of_decide_eq_false h92 (byte_eq.2 e)⟩)⟩, ?_⟩, ?_⟩
  · have h92 : b = 92 := byte_eq.1 (of_decide_eq_true h92)
    have h1 : 1 < (b :: y).length := by have := of_decide_eq_true h1; omega
    obtain ⟨a, z, rfl⟩ : ∃ a z, y = a :: z := by
      cases y with
      | nil => simp at h1
      | cons a z => exact ⟨a, z, rfl⟩
    have ba : ∀ k : UInt8, decide ((a.toNat : Int) = (k.toNat : Int)) = true ↔ (a :: z : Txt).head? = some k := by
      intro k
      rw [decide_eq_true_eq, List.head?_cons, Option.some.injEq]
      exact byte_eq
    have na : ∀ k : UInt8, decide ((a.toNat : Int) = (k.toNat : Int)) = false → ¬ (a :: z : Txt).head? = some k := by
      intro k hk e
      rw [(ba k).2 e] at hk
      cases hk
    refine ⟨by decide, a, rfl, bsel_of (fun g1 => ⟨rfl, fun _ => ⟨h92, .inl ((ba 36).1 g1)⟩, fun _ => rfl⟩) (fun g1 => ⟨by decide, a, rfl, bsel_of (fun g2 => ⟨rfl, fun _ => ⟨h92, .inr (.inl ((ba 96).1 g2))⟩, fun _ => rfl⟩) (fun g2 => ⟨by decide, a, rfl, bsel_of (fun g3 => ⟨rfl, fun _ => ⟨h92, .inr (.inr (.inl ((ba 34).1 g3)))⟩, fun _ => rfl⟩) (fun g3 => ⟨by decide, a, rfl, rfl, fun e => ⟨h92, .inr (.inr (.inr ((ba 92).1 e)))⟩, fun e => (ba 92).2 (((e.2.resolve_left (na 36 g1)).resolve_left (na 96 g2)).resolve_left (na 34 g3))⟩)⟩)⟩)⟩
  · have h1 : ¬ 1 < (b :: y).length := by have := of_decide_eq_false h1; omega
    have : y = [] := by
      cases y with
      | nil => rfl
      | cons c y => simp at h1
    subst this
    rcases e.2 with e | e | e | e <;> cases e
  · rintro t _ w8 ⟨rfl, ht⟩
    refine bsel_of (fun g => ?_) (fun g => ?_)
    · have hh := ht.1 g
      have h36 : b ≠ 36 := by rw [hh.1]; decide
      obtain ⟨a, z, rfl⟩ : ∃ a z, y = a :: z := by
        cases y with
        | nil => rcases hh.2 with e | e | e | e <;> cases e
        | cons a z => exact ⟨a, z, rfl⟩
      refine ⟨by decide, by decide, by simp only [List.length_cons]; omega, stK r7 (by simp [pcell]) (by simp [Value.oneCell']) fun w9 r9 m9 z9 => ⟨tx true [a], none, 0, r9, SlAt.nil _ _ _ _, s7.box (Nat.le_refl _) m9, ?_⟩⟩
      simp only [dblOne]
      rw [if_neg h36, if_pos hh]
      exact ⟨(hx2 h36).1, rfl, rfl⟩
    · refine ⟨x, wp, wc, r7, hsl7, s7, ?_⟩
      simp only [dblOne]
      by_cases h36 : b = 36
      · rw [if_pos h36]
        have := hx1 h36
        cases hb : dollarF (wpL L) true (b :: y) with
        | ok p =>
          rw [hb] at this
          exact ⟨this.1, by rw [this.2.1], this.2.2⟩
        | bad j =>
          rw [hb] at this
          exact this
      · rw [if_neg h36, if_neg fun e => by rw [ht.2 e] at g; cases g]
        obtain ⟨e1, e2, e3⟩ := hx2 h36
        exact ⟨e1, by rw [e3], e2⟩
  rintro n1 _ w10 ⟨x, wp, wc, r10, hsl10, s10, hx⟩
  cases ho : dblOne (wpL L) (b :: y) with
  | bad k =>
    rw [ho] at hx hlp
    have hk : k ≠ 0 := fun e => dblOne_nz (wpL_nz L) b y (by rw [ho, e])
    have hx : ex = (k : Int) := hx
    subst hx
    refine bsel_of (fun _ => ⟨?_, s2.trans s10⟩) (fun hh => absurd (nf hh) (by omega))
    rw [hdbl, ← hlp]
    rfl
  | ok p =>
    rw [ho] at hx hlp
    obtain ⟨rfl, hp1, rfl⟩ := hx
    have hbe := dblOne_bears (wpL_wt L) _ _ ho
    have hta := dblOne_takes _ _ _ ho
    rw [hp1, wtL_one] at hbe
    have hs12 := s2.trans s10
    have z10 : w2.heap.size < w10.heap.size := r10.lt
    refine bsel_of (fun hh => absurd rfl (nt hh)) (fun _ => ⟨_, _, _, _, _, _, _, _, r10.lget rfl, r10.lget rfl, r10.lget rfl, r10.lget rfl, r10.lget rfl, r10.lget rfl, (ref_Add_spec (x := x) (N := w.heap.size) (hacc.still s10) (by omega) (hsl10.mono fun k hk => by omega) (by omega)).mono ?_⟩)
    rintro _ w11 ⟨v11, rfl, hsl11, s11⟩
    obtain ⟨p11, c11, rfl⟩ := hsl11.form
    have hdl : ((b :: y).drop p.2).length = (b :: y).length - p.2 := List.length_drop
    have hwa := wt_add acc x
    refine .inl ⟨_, _, _, rfl, by omega, by omega, ?_⟩
    rw [Int.toNat_natCast]
    refine ⟨⟨addP acc x, hsl11, hs12.trans s11, by omega, ?_, by omega⟩, by dsimp only; omega⟩
    simp only [Rs.and, hp1, List.foldl_cons, List.foldl_nil] at hlp
    exact hlp
set_option maxHeartbeats 1000000 in
theorem ref_parts_of {L : Nat} (hL : L ≤ 30) (ih : RPartsS L) (s : Txt) (hl : s.length < 1000000) : Calls Tryd.prog fn_ref08_parts #[.string (S s), .int .i64 (30 - (L : Int))] w (RPost w s (L + 1)) := by
  refine ref08_parts_calls _ _ _ _ ?_
  refine bsel_of (fun h => absurd (of_decide_eq_true h) (by omega)) (fun _ => ?_)
  have hwp : wpL (L + 1) s = loopF (outOne (wpL L)) (s.length + 1) [] s := rfl
  refine ⟨fun s1 out n c w2 => ∃ acc, SlAt w2 (fun k => w.heap.size ≤ k) acc (.slice out n c) ∧ Still w w2 ∧ s1.length ≤ s.length ∧ loopF (outOne (wpL L)) (s1.length + 1) acc s1 = loopF (outOne (wpL L)) (s.length + 1) [] s ∧ wtL acc + 12 * s1.length ≤ 12 * s.length, fun s1 _ _ _ _ => s1.length, ⟨[], SlAt.nil _ _ _ _, Still.refl _, Nat.le_refl _, rfl, by simp [wtL]⟩, ?_⟩
  rintro s1 out n c _ w2 ⟨acc, hacc, s2, hle, hlp, hwt⟩
  obtain ⟨rfl, hcap⟩ := hacc.len
  refine bsel_of (fun hx => ?_) (fun hx => ?_)
  rotate_left
  · have hx : s1 = [] := List.eq_nil_of_length_eq_zero (by have := of_decide_eq_false hx; omega)
    subst hx
    refine ⟨?_, s2⟩
    rw [hwp, ← hlp]
    exact ⟨_, rfl, hacc⟩
  obtain ⟨b, y, rfl⟩ : ∃ b y, s1 = b :: y := by
    cases s1 with
    | nil => exact absurd (of_decide_eq_true hx) (by decide)
    | cons b y => exact ⟨b, y, rfl⟩
  rw [loop_step (outOne_takes _)] at hlp
  have hlc : (b :: y).length < 1000000 := by omega
  have hz := s2.size
  refine ⟨by decide, by simp only [List.length_cons]; omega, boxK rfl (by simp [Value.oneCell']) fun w4 r4 s4 z4 => ?_⟩
  have r4 : Row w4 w2.heap.size 81 ⟨pcell (tx false [b]) (.slice none 0 0)⟩ := r4
  refine ⟨fun n ex w7 => ∃ (x : Pt) (wp : Option Addr) (wc : Nat), Row w7 w2.heap.size 81 ⟨pcell x (.slice wp x.w.length wc)⟩ ∧ SlAt w7 (fun k => w2.heap.size < k) x.w (.slice wp x.w.length wc) ∧ Still w2 w7 ∧ (b ≠ 34 → match outOne (wpL L) (b :: y) with
      | .ok p => ex = 0 ∧ p.1 = [x] ∧ n = (p.2 : Int)
      | .bad k => ex = (k : Int)) ∧ (b = 34 → ex = 0 ∧ ∃ m : Nat, n = (m : Int) ∧ m ≤ (b :: y).length ∧ x.t.length + 2 ≤ m ∧ outOne (wpL L) (b :: y) = (dblF (wpL L) x.t).and fun l => .ok (l, m)), ⟨by decide, b, rfl, fun t w4' => w4' = w4 ∧ (t = true ↔ (b = 92 ∨ b = 39 ∨ b = 34)), bsel_of (fun g => ⟨rfl, fun _ => .inl (byte_eq.1 (of_decide_eq_true g)), fun _ => g⟩) (fun g => bsel_of (fun g2 => ⟨rfl, fun _ => .inr (.inl (byte_eq.1 (of_decide_eq_true g2))), fun _ => g2⟩) (fun g2 => ⟨rfl, fun e => .inr (.inr (byte_eq.1 (of_decide_eq_true e))), fun e => decide_eq_true (byte_eq.2 ((e.resolve_left fun e => of_decide_eq_false g (byte_eq.2 e)).resolve_left fun e => of_decide_eq_false g2 (byte_eq.2 e)))⟩)), ?_⟩, ?_⟩
  · rintro t _ w4' ⟨rfl, ht⟩
    refine bsel_of (fun g => ?_) (fun g => bsel_of (fun h36 => ?_) (fun h36 => ?_))
    · have hb := ht.1 g
      have h36 : ¬ b = 36 := by rcases hb with rfl | rfl | rfl <;> decide
      have hout : outOne (wpL L) (b :: y) = (match unitD 30 (b :: y) with
          | none => .bad 90
          | some t =>
            if b = 92 then .ok ([tx true (y.take 1)], 2)
            else if b = 34 then (dblF (wpL L) (y.take (y.length - t.length - 1))).and fun l => .ok (l, y.length + 1 - t.length)
            else .ok ([tx true (y.take (y.length - t.length - 1))], y.length + 1 - t.length)) := by
        simp only [outOne]
        rw [if_neg h36, if_pos hb]
        cases unitD 30 (b :: y) <;> rfl
      refine (ref_skip_spec (b :: y) 0 (by simp) hlc).mono ?_
      rintro _ w5 ⟨rfl, rfl⟩
      rw [List.drop_zero]
      refine .inl ⟨_, rfl, ?_⟩
      cases hu : unitD 30 (b :: y) with
      | none =>
        rw [hu] at hout
        have hout : outOne (wpL L) (b :: y) = .bad 90 := hout
        refine bsel_of (fun _ => ⟨?_, s2.trans s4⟩) (fun h => absurd (show (-1 : Int) < 0 by decide) (of_decide_eq_false h))
        rw [hout] at hlp
        rw [hwp, ← hlp]
        rfl
      | some t =>
        obtain ⟨h1, h2, h3⟩ := unitN_pos hu
        rw [hu] at hout
        dsimp only at hout
        have hix : ix (b :: y) (some t) = (unitN (b :: y) : Int) := by rw [h1]; rfl
        rw [hix]
        generalize unitN (b :: y) = n at h1 h2 h3 ⊢
        simp only [List.length_cons] at h1 h3
        have hlc' : y.length + 1 < 1000000 := hlc
        have h92 : b = 92 → ∃ a, y = a :: t := by
          rintro rfl
          cases y with
          | nil => cases hu
          | cons a z =>
            have : some z = some t := hu
            injection this with this
            exact ⟨a, by rw [this]⟩
        have h5 : 2 ≤ n := by
          rcases Decidable.em (b = 92) with e | e
          · obtain ⟨a, rfl⟩ := h92 e
            simp only [List.length_cons] at h1
            omega
          · have := quote_len (hb.resolve_left e) hu
            omega
        have e1 : IntKind.i64.wrap ((n : Int) - 1) = ((n - 1 : Nat) : Int) := by rw [wrap_i64 (by omega) (by omega)]; omega
        rw [e1]
        have hin : (((b :: y : Txt).drop (Int.toNat 1)).take (Int.toNat ((n - 1 : Nat) : Int) - Int.toNat 1)) = y.take (n - 2) := by
          rw [Int.toNat_natCast]
          show y.take (n - 1 - 1) = _
          congr 1
        have e2 : y.length + 1 - t.length = n := by omega
        have e3 : y.length - t.length - 1 = n - 2 := by omega
        rw [e2, e3] at hout
        rw [hin]
        refine bsel_of (fun h => absurd (of_decide_eq_true h) (by omega)) (fun _ => ⟨by decide, by omega, by simp only [List.length_cons]; omega, stK r4 (by simp [pcell]) (by simp [Value.oneCell']) fun w6 r6 m6 z6 => ?_⟩)
        have r6 : Row w6 w2.heap.size 81 ⟨pcell (tx true (y.take (n - 2))) (.slice none 0 0)⟩ := r6
        have s6 := s4.box (Nat.le_refl _) m6
        refine ⟨by decide, b, rfl, bsel_of (fun g2 => ?_) (fun g2 => ?_)⟩
        · have g2 : b = 92 := byte_eq.1 (of_decide_eq_true g2)
          obtain ⟨a, rfl⟩ := h92 g2
          rw [if_pos g2] at hout
          simp only [List.length_cons] at h1
          refine ⟨by decide, by decide, by simp only [List.length_cons]; omega, stK r6 (by simp [pcell]) (by simp [Value.oneCell']) fun w7 r7 m7 z7 => ⟨tx true [a], none, 0, r7, SlAt.nil _ _ _ _, s6.box (Nat.le_refl _) m7, fun _ => ?_, fun e => ?_⟩⟩
          · rw [hout]
            exact ⟨rfl, rfl, by dsimp only; omega⟩
          · rw [g2] at e
            exact absurd e (by decide)
        · have g2 : ¬ b = 92 := fun e => of_decide_eq_false g2 (byte_eq.2 e)
          rw [if_neg g2] at hout
          refine ⟨tx true (y.take (n - 2)), none, 0, r6, SlAt.nil _ _ _ _, s6, fun e => ?_, fun e => ?_⟩
          · rw [if_neg e] at hout
            rw [hout]
            exact ⟨rfl, rfl, rfl⟩
          · rw [if_pos e] at hout
            refine ⟨rfl, n, rfl, by simp only [List.length_cons]; omega, ?_, hout⟩
            show (y.take (n - 2)).length + 2 ≤ n
            rw [List.length_take]
            omega
    · have h36 : b = 36 := byte_eq.1 (of_decide_eq_true h36)
      subst h36
      refine (ref_dollar_of hL ih y false hlc).mono ?_
      rintro e5 w5 ⟨⟨x, vw, n, hsl, hm⟩, s5⟩
      obtain ⟨wp, wc, rfl⟩ := hsl.form
      have z5 := s5.size
      have key : ∃ k : Nat, e5 = .returned (.tuple #[pagg x (.slice wp x.w.length wc), .int .i64 (n : Int), .int .i64 (k : Int)]) ∧ (match dollarF (wpL L) false (36 :: y) with
          | .ok p => k = 0 ∧ p = (x, n)
          | .bad j => k = j) := by
        cases hb : dollarF (wpL L) false (36 :: y) with
        | ok p =>
          rw [hb] at hm
          exact ⟨0, hm.1, rfl, hm.2⟩
        | bad j =>
          rw [hb] at hm
          exact ⟨j, hm, rfl⟩
      obtain ⟨k, he, hk⟩ := key
      refine .inl ⟨x.k, x.q, x.t, x.n, x.o, wp, x.w.length, wc, (n : Int), (k : Int), he, stK (r4.still s5) (by simp [pcell]) one6 fun w6 r6 m6 z6 => ⟨x, wp, wc, r6, (hsl.mod m6 fun j hj e => by omega).mono fun j hj => by omega, (s4.trans s5).box (Nat.le_refl _) m6, fun _ => ?_, fun e => absurd e (by decide)⟩⟩
      have hout : outOne (wpL L) (36 :: y) = (dollarF (wpL L) false (36 :: y)).and fun x => .ok ([x.1], x.2) := by simp only [outOne, if_true]
      rw [hout]
      cases hb : dollarF (wpL L) false (36 :: y) with
      | ok p =>
        rw [hb] at hk
        obtain ⟨rfl, rfl⟩ := hk
        exact ⟨rfl, rfl, rfl⟩
      | bad j =>
        rw [hb] at hk
        have hk : k = j := hk
        subst hk
        rfl
    · have h36 : ¬ b = 36 := fun e => of_decide_eq_false h36 (byte_eq.2 e)
      have hno : ¬ (b = 92 ∨ b = 39 ∨ b = 34) := fun e => by rw [ht.2 e] at g; cases g
      refine ⟨tx false [b], none, 0, r4, SlAt.nil _ _ _ _, s4, fun _ => ?_, fun e => absurd (.inr (.inr e)) hno⟩
      have hout : outOne (wpL L) (b :: y) = .ok ([tx false [b]], 1) := by
        simp only [outOne]
        rw [if_neg h36, if_neg hno]
      rw [hout]
      exact ⟨rfl, rfl, rfl⟩
  rintro n ex _ w10 ⟨x, wp, wc, r10, hsl10, s10, hx1, hx2⟩
  have z10 : w2.heap.size < w10.heap.size := r10.lt
  have s210 := s2.trans s10
  -- an error
  have err : ∀ (k : Nat) (w9 : World), outOne (wpL L) (b :: y) = .bad k → Still w w9 → RPost w s (L + 1) (.returned (.tuple #[.slice none 0 0, .int .i64 (k : Int)])) w9 := by
    intro k w9 ho s9
    refine ⟨?_, s9⟩
    rw [ho] at hlp
    rw [hwp, ← hlp]
    rfl
  by_cases h34 : b = 34
  · obtain ⟨rfl, m, rfl, hml, hxt, hout⟩ := hx2 h34
    rw [hout] at hlp
    refine bsel_of (fun hh => absurd rfl (nt hh)) (fun _ => ⟨by decide, b, rfl, bsel_of (fun hh => absurd (byte_eq.2 h34) (nt hh)) (fun _ => ⟨_, r10.lget rfl, (ref_double_of hL ih x.t (by omega)).mono ?_⟩)⟩)
    rintro e12 w12 ⟨hq, s12⟩
    cases hd : dblF (wpL L) x.t with
    | bad k =>
      rw [hd] at hq
      have hk : k ≠ 0 := fun e => dblF_nz (wpL_nz L) x.t (by rw [hd, e])
      refine .inl ⟨_, _, _, _, hq, bsel_of (fun _ => err k _ (by rw [hout, hd]; rfl) (s210.trans s12)) (fun hh => absurd (nf hh) (by omega))⟩
    | ok l =>
      rw [hd] at hq hlp
      obtain ⟨v, rfl, hsl⟩ := hq
      obtain ⟨p12, c12, rfl⟩ := hsl.form
      have hlw := dblF_wt (wpL_wt L) hd
      have hln := wtL_len l
      have zz := s210.size
      refine .inl ⟨_, _, _, _, rfl, bsel_of (fun hh => absurd rfl (nt hh)) (fun _ => ?_)⟩
      refine ⟨fun out1 n1 c1 i w13 => ∃ k : Nat, i = (k : Int) ∧ k ≤ l.length ∧ SlAt w13 (fun j => w.heap.size ≤ j) ((l.take k).foldl addP acc) (.slice out1 n1 c1) ∧ SlAt w13 (fun j => w.heap.size ≤ j) l (.slice p12 l.length c12) ∧ Still w w13, fun _ _ _ i _ => l.length - i.toNat, ⟨0, rfl, Nat.zero_le _, hacc.still (s10.trans s12), hsl.mono fun k hk => by omega, s210.trans s12⟩, ?_⟩
      rintro out1 n1 c1 _ _ w13 ⟨k, rfl, hk, hacc13, hsl13, s13⟩
      obtain ⟨rfl, _⟩ := hacc13.len
      refine bsel_of (fun hx => ?_) (fun hx => ?_)
      · have hx : k < l.length := by have := of_decide_eq_true hx; omega
        obtain ⟨a, wp1, wc1, rfl, c0, c1, c2, c3, c4, c5, hsw⟩ := hsl13.fields hx
        have hwf := wt_fold (l.take k) acc
        have hwk := wt_take hx
        rw [Int.toNat_natCast]
        refine ⟨by omega, by omega, _, _, _, _, _, _, _, _, c0, c1, c2, c3, c4, c5, (ref_Add_spec (x := l[k]) (N := w.heap.size) hacc13 s13.size hsw (by omega)).mono ?_⟩
        rintro _ w14 ⟨v14, rfl, hsl14, s14⟩
        obtain ⟨p14, c14, rfl⟩ := hsl14.form
        have e1 : IntKind.i64.wrap ((k : Int) + 1) = ((k + 1 : Nat) : Int) := by rw [wrap_i64 (by omega) (by omega)]; omega
        rw [e1]
        refine .inl ⟨_, _, _, rfl, ⟨k + 1, rfl, hx, ?_, hsl13.still s14, s13.trans s14⟩, by dsimp only; omega⟩
        rw [fold_take hx]
        exact hsl14
      · have hx : k = l.length := by have := of_decide_eq_false hx; omega
        subst hx
        rw [List.take_length] at hacc13
        have hdl : ((b :: y).drop m).length = (b :: y).length - m := List.length_drop
        have hwf := wt_fold l acc
        refine ⟨by omega, by omega, ?_⟩
        rw [Int.toNat_natCast]
        simp only [Rs.and] at hlp
        exact ⟨⟨l.foldl addP acc, by rw [List.take_length]; exact hacc13, s13, by omega, hlp, by omega⟩, by dsimp only; omega⟩
  · have hx := hx1 h34
    cases ho : outOne (wpL L) (b :: y) with
    | bad k =>
      rw [ho] at hx
      have hk : k ≠ 0 := fun e => outOne_nz (wpL_nz L) b y (by rw [ho, e])
      have hx : ex = (k : Int) := hx
      subst hx
      exact bsel_of (fun _ => err k _ ho s210) (fun hh => absurd (nf hh) (by omega))
    | ok p =>
      rw [ho] at hx hlp
      obtain ⟨rfl, hp1, rfl⟩ := hx
      have hbe := outOne_bears (wpL_wt L) _ _ ho
      have hta := outOne_takes _ _ _ ho
      rw [hp1, wtL_one] at hbe
      refine bsel_of (fun hh => absurd rfl (nt hh)) (fun _ => ⟨by decide, b, rfl, bsel_of (fun _ => ⟨_, _, _, _, _, _, _, _, r10.lget rfl, r10.lget rfl, r10.lget rfl, r10.lget rfl, r10.lget rfl, r10.lget rfl, (ref_Add_spec (x := x) (N := w.heap.size) (hacc.still s10) (by omega) (hsl10.mono fun k hk => by omega) (by omega)).mono ?_⟩) (fun hh => absurd (byte_eq.1 (nf hh)) h34)⟩)
      rintro _ w11 ⟨v11, rfl, hsl11, s11⟩
      obtain ⟨p11, c11, rfl⟩ := hsl11.form
      have hdl : ((b :: y).drop p.2).length = (b :: y).length - p.2 := List.length_drop
      have hwa := wt_add acc x
      refine .inl ⟨_, _, _, rfl, by omega, by omega, ?_⟩
      rw [Int.toNat_natCast]
      simp only [Rs.and, hp1, List.foldl_cons, List.foldl_nil] at hlp
      exact ⟨⟨addP acc x, hsl11, s210.trans s11, by omega, hlp, by omega⟩, by dsimp only; omega⟩
theorem ref_parts_lv : ∀ L, L ≤ 31 → RPartsS L
  | 0, _ => by
    intro w s hs
    refine ref08_parts_calls _ _ _ _ ?_
    exact bsel_of (fun _ => ⟨rfl, Still.refl _⟩) (fun h => absurd (of_decide_eq_false h) (by decide))
  | L + 1, hL => by
    intro w s hs
    have e1 : (31 : Int) - ((L + 1 : Nat) : Int) = 30 - (L : Int) := by omega
    rw [e1]
    exact ref_parts_of (by omega) (ref_parts_lv L (by omega)) s hs
theorem ref_Parse_spec (s : Txt) (hs : s.length < 1000000) : Calls Tryd.prog fn_ref08_Parse #[.string (S s)] w (RPost w s 30) := by
  refine ref08_Parse_calls _ _ _ ?_
  refine (ref_parts_lv 30 (by decide) w s hs).mono ?_
  rintro e w1 h
  unfold RPost at h ⊢
  obtain ⟨h, s1⟩ := h
  cases hw : wpL 30 s with
  | bad k =>
    rw [hw] at h
    exact .inl ⟨_, _, _, _, h, rfl, s1⟩
  | ok l =>
    rw [hw] at h
    obtain ⟨v, rfl, hsl⟩ := h
    obtain ⟨p, c, rfl⟩ := hsl.form
    exact .inl ⟨_, _, _, _, rfl, ⟨_, rfl, hsl⟩, s1⟩
theorem ref_ends_spec (c : UInt8) : Calls Tryd.prog fn_ref07_ends #[.int .u8 (c.toNat : Int)] w (fun e w' => e = .returned (.bool (isEnd c)) ∧ w' = w) := by
  refine ref07_ends_calls _ _ _ ?_
  have hb : ∀ k : UInt8, decide ((c.toNat : Int) = (k.toNat : Int)) = (c == k) := by
    intro k
    rw [Bool.eq_iff_iff, decide_eq_true_iff, beq_iff_eq]
    exact byte_eq
  have h1 := hb 32
  have h2 := hb 9
  have h3 := hb 10
  have h4 := hb 59
  have h5 := hb 124
  have h6 := hb 38
  have h7 := hb 40
  have h8 := hb 41
  have h9 := hb 60
  have h10 := hb 62
  refine ⟨fun x w1 => x = isEnd c ∧ w1 = w, ?_, ?_⟩
  · have k1 : decide ((c.toNat : Int) = 32) = (c == 32) := h1
    have k2 : decide ((c.toNat : Int) = 9) = (c == 9) := h2
    have k3 : decide ((c.toNat : Int) = 10) = (c == 10) := h3
    have k4 : decide ((c.toNat : Int) = 59) = (c == 59) := h4
    have k5 : decide ((c.toNat : Int) = 124) = (c == 124) := h5
    have k6 : decide ((c.toNat : Int) = 38) = (c == 38) := h6
    have k7 : decide ((c.toNat : Int) = 40) = (c == 40) := h7
    have k8 : decide ((c.toNat : Int) = 41) = (c == 41) := h8
    have k9 : decide ((c.toNat : Int) = 60) = (c == 60) := h9
    have k10 : decide ((c.toNat : Int) = 62) = (c == 62) := h10
    rw [k1, k2, k3, k4, k5, k6, k7, k8, k9, k10]
    unfold isEnd
    refine bsel_of (fun h => ⟨by rw [h]; rfl, rfl⟩) (fun g1 => bsel_of (fun h => ⟨by rw [h]; simp, rfl⟩) (fun g2 => bsel_of (fun h => ⟨by rw [h]; simp, rfl⟩) (fun g3 => bsel_of (fun h => ⟨by rw [h]; simp, rfl⟩) (fun g4 => bsel_of (fun h => ⟨by rw [h]; simp, rfl⟩) (fun g5 => bsel_of (fun h => ⟨by rw [h]; simp, rfl⟩) (fun g6 => bsel_of (fun h => ⟨by rw [h]; simp, rfl⟩) (fun g7 => bsel_of (fun h => ⟨by rw [h]; simp, rfl⟩) (fun g8 => bsel_of (fun h => ⟨by rw [h]; simp, rfl⟩) (fun g9 => ⟨?_, rfl⟩)))))))))
    rw [g1, g2, g3, g4, g5, g6, g7, g8, g9]
    rfl
  · rintro x _ w1 ⟨rfl, rfl⟩
    exact bsel_of (fun h => ⟨by rw [h], rfl⟩) (fun h => ⟨by rw [h], rfl⟩)
def signL : List Txt := [[38, 38], [124, 124], [59, 59], [62, 62], [59], [124], [38], [40], [41], [60], [62]]
theorem ref_sign_spec (s : Txt) (n : Nat) (hn : n ≤ s.length) (hs : s.length < 1000000) : Calls Tryd.prog fn_ref07_sign #[.string (S s), .int .i64 (n : Int)] w
    (fun e w' => e = .returned (.string (S ((signL.find? fun t => pf t (s.drop n)).getD []))) ∧ Still w w') := by
  refine ref07_sign_calls _ _ _ _ ?_
  have hr : Row (w.alloc (.cells ⟨strs signL⟩ 9)) w.heap.size 9 ⟨strs signL⟩ := Row.new _ _ _
  have hm : Still w (w.alloc (.cells ⟨strs signL⟩ 9)) := (Mod.refl _ _).alloc _
  refine ⟨fun i w1 => ∃ k : Nat, i = (k : Int) ∧ k ≤ 11 ∧ (signL.drop k).find? (fun t => pf t (s.drop n)) = signL.find? (fun t => pf t (s.drop n)) ∧ Row w1 w.heap.size 9 ⟨strs signL⟩ ∧ Still w w1, fun i _ => 11 - i.toNat, ⟨0, rfl, by omega, rfl, hr, hm⟩, ?_⟩
  rintro _ _ w1 ⟨k, rfl, hk, hf, hr1, hm1⟩
  rw [← hf]
  refine bsel_of (fun hx => ?_) (fun hx => ?_)
  · have hx : k < 11 := by have := of_decide_eq_true hx; omega
    have hxl : k < signL.length := hx
    have e1 : IntKind.i64.wrap ((k : Int) + 1) = ((k + 1 : Nat) : Int) := by rw [wrap_i64 (by omega) (by omega)]; omega
    have hc : w1.cell? ((Addr.mk w.heap.size 0 none).add (Int.toNat (k : Int) * 1)) = some (.string (S signL[k])) := by
      rw [Int.toNat_natCast, Nat.mul_one, add_row, Nat.zero_add]
      refine hr1.cellv ?_
      simp [strs, hxl]
    have hl : ∀ t ∈ signL, t.length < 1000000 := by decide
    refine ⟨by omega, by omega, _, hc, (begins_spec s signL[k] n hn hs (hl _ (List.getElem_mem hxl))).mono ?_⟩
    rintro _ w2 ⟨rfl, rfl⟩
    rw [find_step hxl]
    refine .inl ⟨_, rfl, bsel_of (fun h => ⟨by omega, by omega, _, hc, ?_, hm1⟩) (fun h => ?_)⟩
    · rw [if_pos h]
      rfl
    · rw [e1]
      refine ⟨⟨k + 1, rfl, hx, ?_, hr1, hm1⟩, by dsimp only; omega⟩
      rw [if_neg (by rw [h]; decide)]
  · have hx : k = 11 := by have := of_decide_eq_false hx; omega
    subst hx
    exact ⟨rfl, hm1⟩
theorem pfr_one (x a : UInt8) (r : Txt) : pf [x] (a :: r) = (a == x) := by
  unfold pf
  rw [Bool.eq_iff_iff, decide_eq_true_iff, beq_iff_eq]
  simp
theorem pfr_pair (x y a b : UInt8) (r : Txt) : pf [x, y] (a :: b :: r) = (a == x && b == y) := by
  unfold pf
  rw [Bool.eq_iff_iff, decide_eq_true_iff, Bool.and_eq_true, beq_iff_eq, beq_iff_eq]
  simp
theorem pfr_short (x y a : UInt8) : pf [x, y] [a] = false := rfl
theorem sign_is {a : UInt8} {r : Txt} (h1 : isEnd a = true) (h2 : a ≠ 32) (h3 : a ≠ 9) (h4 : a ≠ 10) : (signL.find? fun t => pf t (a :: r)).getD [] = (a :: r).take (opLen (a :: r)) := by
  simp only [isEnd, Bool.or_eq_true, beq_iff_eq] at h1
  cases r with
  | nil =>
    simp only [signL, List.find?_cons, pfr_one, pfr_short]
    rcases h1 with ((((((((h | h) | h) | h) | h) | h) | h) | h) | h) | h <;> subst h <;> first | exact absurd rfl h2 | exact absurd rfl h3 | exact absurd rfl h4 | rfl
  | cons b t =>
    have hopn : opLen (a :: b :: t) = if a = b ∧ ([38, 124, 59, 62] : Txt).contains a = true then 2 else 1 := rfl
    rw [hopn]
    simp only [signL, List.find?_cons, pfr_one, pfr_pair]
    by_cases hb : a = b
    · subst hb
      rcases h1 with ((((((((h | h) | h) | h) | h) | h) | h) | h) | h) | h <;> subst h <;> first | exact absurd rfl h2 | exact absurd rfl h3 | exact absurd rfl h4 | rfl
    · rw [if_neg (fun h => hb h.1)]
      have hb' : ∀ k, a = k → (b == k) = false := by
        intro k hk
        subst hk
        rw [beq_eq_false_iff_ne]
        exact fun e => hb e.symm
      rcases h1 with ((((((((h | h) | h) | h) | h) | h) | h) | h) | h) | h <;> first | exact absurd h h2 | exact absurd h h3 | exact absurd h h4 | (have hk := hb' _ h; subst h; simp [hk])
theorem endsB_drop {s : Txt} {n : Nat} (h : n < s.length) : endsB (s.drop n) = isEnd s[n] := by
  rw [List.drop_eq_getElem_cons h]
  rfl
structure RS (w w1 : World) (s : Txt) (n : Nat) (acc : List Tok) (p : Option Addr) (C : Nat) : Prop where
  at' : n ≤ s.length
  li : Owns w1 w.heap.size 59 2 (.slice p acc.length C) acc.length (tc acc)
  still : Still w w1
  all : (toks (s.drop n)).map (acc ++ ·) = toks s
  few : acc.length + (s.length - n) ≤ s.length
theorem RS.quiet {w1 : World} {s t : Txt} {n m : Nat} {acc : List Tok} {p : Option Addr} {C : Nat} (h : RS w w1 s n acc p C) (hn : n < s.length) (hm : n < m) (hm2 : m ≤ s.length) (hone : tokOne s[n] (s.drop (n + 1)) = some ([], t)) (ht : t = s.drop m) : RS w w1 s m acc p C := by
  have hall := h.all
  have := h.few
  rw [List.drop_eq_getElem_cons hn, toks_cons, hone] at hall
  refine ⟨hm2, h.li, h.still, ?_, by omega⟩
  rw [← ht]
  simpa using hall
theorem RS.told {w1 w3 : World} {s t : Txt} {n m k : Nat} {acc : List Tok} {p p3 : Option Addr} {C C3 : Nat} {x : Txt} (h : RS w w1 s n acc p C) (hn : n < s.length) (hm : n < m) (hm2 : m ≤ s.length) (hone : tokOne s[n] (s.drop (n + 1)) = some ([(k, x)], t)) (ht : t = s.drop m)
    (ho3 : Owns w3 0 59 2 (Value.slice p3 (acc.length + 1) C3) (acc.length + 1) (tc acc ++ [.int .i64 (k : Int), .string (S x)])) {o : Obj} (hg : (w1.alloc o).grownBy w3 (Value.ownBlock (Value.slice p acc.length C)))
    (hb : Blk p p3 (acc.length + 1) C C3 (w1.alloc o).heap.size) : RS w w3 s m (acc ++ [(k, x)]) p3 C3 := by
  have hall := h.all
  have hfew := h.few
  rw [List.drop_eq_getElem_cons hn, toks_cons, hone] at hall
  have ho3' := h.li.pushed h.still.size ho3 hb
  have hl : (acc ++ [(k, x)]).length = acc.length + 1 := by simp
  refine ⟨hm2, ?_, h.still.pushed h.li (Nat.le_refl _) hg, ?_, by omega⟩
  · rw [hl, tc_append]
    exact ho3'
  · rw [← hall, ← ht]
    show _ = Option.map _ (Option.map _ (toks t))
    cases toks t <;> simp
set_option maxHeartbeats 2000000 in
theorem ref_tokens_spec (s : Txt) : Calls Tryd.prog fn_ref07_Tokens #[.string (S s)] w
    (fun e w' => ∃ p C, e = .returned (.tuple #[.slice p (tokRes s).1.length C, .int .i64 (tokRes s).2]) ∧ Owns w' w.heap.size 59 2 (.slice p (tokRes s).1.length C) (tokRes s).1.length (tc (tokRes s).1) ∧ Still w w') := by
  refine ref07_Tokens_calls _ _ _ ?_
  refine bsel_of (fun h20 => ?_) (fun h20 => ?_)
  · have h20 := of_decide_eq_true h20
    have hres : tokRes s = ([], 2) := by unfold tokRes; rw [if_pos (by omega)]
    rw [hres]
    exact ⟨none, 0, rfl, Owns.nil _ _ _ _, Mod.refl _ _⟩
  have h20 : ¬ 20000 < s.length := by have := of_decide_eq_false h20; omega
  refine ⟨fun p L C i w1 => ∃ n acc, i = ((n : Nat) : Int) ∧ L = acc.length ∧ RS w w1 s n acc p C, fun _ _ _ i _ => s.length - i.toNat, ⟨0, [], rfl, rfl, Nat.zero_le _, Owns.nil _ _ _ _, Mod.refl _ _, by simp, by simp⟩, ?_⟩
  rintro p _ C _ _ w1 ⟨n, acc, rfl, rfl, h⟩
  have hn := h.at'
  have hfew := h.few
  have wr : ∀ m : Nat, m ≤ s.length + 2 → IntKind.i64.wrap (m : Int) = (m : Int) := fun m hm => wrap_i64 (by omega) (by omega)
  refine bsel_of (fun hx => ?_) (fun hx => ?_)
  · have hx : n < s.length := by have := of_decide_eq_true hx; omega
    have hg : s[Int.toNat (n : Int)]? = some s[n] := by rw [Int.toNat_natCast]; exact getD_some hx
    have e1 : IntKind.i64.wrap ((n : Int) + 1) = ((n + 1 : Nat) : Int) := by rw [wrap_i64 (by omega) (by omega)]; omega
    rw [e1]
    have quiet : ∀ m, n < m → m ≤ s.length → tokOne s[n] (s.drop (n + 1)) = some ([], s.drop m) → (∃ n1 acc1, ((m : Nat) : Int) = ((n1 : Nat) : Int) ∧ acc.length = acc1.length ∧ RS w w1 s n1 acc1 p C) ∧ s.length - Int.toNat ((m : Nat) : Int) < s.length - Int.toNat (n : Int) := by
      intro m h1 h2 h3
      exact ⟨⟨m, acc, rfl, rfl, h.quiet hx h1 h2 h3 rfl⟩, by omega⟩
    refine ⟨by omega, _, hg, bsel_of (fun h32 => ?_) (fun h32 => ⟨by omega, _, hg, bsel_of (fun h9 => ?_) (fun h9 => ⟨by omega, _, hg, bsel_of (fun h35 => ?_) (fun h35 => ⟨by omega, _, hg, bsel_of (fun h10 => ?_) (fun h10 => ⟨by omega, _, hg, ?_⟩)⟩)⟩)⟩)⟩
    · exact quiet (n + 1) (by omega) hx (by unfold tokOne; rw [if_pos (.inl (byte_eq.1 (of_decide_eq_true h32)))])
    · exact quiet (n + 1) (by omega) hx (by unfold tokOne; rw [if_pos (.inr (byte_eq.1 (of_decide_eq_true h9)))])
    all_goals
      have n32 : ¬ s[n] = 32 := fun e => of_decide_eq_false h32 (byte_eq.2 e)
      have n9 : ¬ s[n] = 9 := fun e => of_decide_eq_false h9 (byte_eq.2 e)
      have hbl : ¬ (s[n] = 32 ∨ s[n] = 9) := fun e => e.elim n32 n9
    · have h35 : s[n] = 35 := byte_eq.1 (of_decide_eq_true h35)
      have hone : tokOne s[n] (s.drop (n + 1)) = some ([], lineEnd (s.drop n)) := by
        unfold tokOne
        rw [if_neg hbl, if_pos h35, List.drop_eq_getElem_cons hx]
        conv => rhs; rw [lineEnd, if_neg (by rw [h35]; decide)]
      refine ⟨fun i w2 => ∃ m : Nat, i = (m : Int) ∧ n ≤ m ∧ m ≤ s.length ∧ lineEnd (s.drop m) = lineEnd (s.drop n) ∧ w2 = w1, fun i _ => s.length - i.toNat, ⟨n, rfl, Nat.le_refl _, hn, rfl, rfl⟩, ?_⟩
      rintro _ _ w2 ⟨m, rfl, hnm, hm, hle, rfl⟩
      have e2 : IntKind.i64.wrap ((m : Int) + 1) = ((m + 1 : Nat) : Int) := by rw [wrap_i64 (by omega) (by omega)]; omega
      rw [e2]
      refine bsel_of (fun hy => ?_) (fun hy => ?_)
      · have hy : m < s.length := by have := of_decide_eq_true hy; omega
        have hgm : s[Int.toNat (m : Int)]? = some s[m] := by rw [Int.toNat_natCast]; exact getD_some hy
        have hdm := List.drop_eq_getElem_cons hy
        refine ⟨by omega, _, hgm, bsel_of (fun h10 => ?_) (fun h10 => ?_)⟩
        · have h10 : ¬ s[m] = 10 := fun e => by rw [Bool.not_eq_true'] at h10; exact of_decide_eq_false h10 (byte_eq.2 e)
          refine ⟨⟨m + 1, rfl, by omega, hy, ?_, rfl⟩, by dsimp only; omega⟩
          rw [← hle, hdm, lineEnd, if_neg h10]
        · have h10 : s[m] = 10 := by rw [Bool.not_eq_false'] at h10; exact byte_eq.1 (of_decide_eq_true h10)
          have hne : n ≠ m := by
            rintro rfl
            rw [h35] at h10
            cases h10
          refine quiet m (by omega) hm ?_
          rw [hone, ← hle, hdm, lineEnd, if_pos h10]
      · have hy : m = s.length := by have := of_decide_eq_false hy; omega
        refine quiet m (by omega) hm ?_
        rw [hone, ← hle, List.drop_of_length_le (by omega)]
        rfl
    all_goals
      have n35 : ¬ s[n] = 35 := fun e => of_decide_eq_false h35 (byte_eq.2 e)
    · have h10 : s[n] = 10 := byte_eq.1 (of_decide_eq_true h10)
      refine ⟨tc acc, [.int .i64 2, .string (S [10])], (h.li.alloc _).base0, rfl, two_one, pair_src _ _ _ _, by omega, by omega, fun p3 C3 w3 ho3 hg3 hb3 => ?_⟩
      exact ⟨⟨n + 1, acc ++ [(2, [10])], rfl, by simp, h.told hx (by omega) hx (by unfold tokOne; rw [if_neg hbl, if_neg n35, if_pos h10]) rfl ho3 hg3 hb3⟩, by dsimp only; omega⟩
    have n10 : ¬ s[n] = 10 := fun e => of_decide_eq_false h10 (byte_eq.2 e)
    refine (ref_ends_spec s[n]).mono ?_
    rintro _ w4 ⟨rfl, rfl⟩
    refine .inl ⟨_, rfl, bsel_of (fun hend => ?_) (fun hend => ?_)⟩
    · refine (ref_sign_spec s n hn (by omega)).mono ?_
      rintro _ w5 ⟨rfl, hm5⟩
      have hsg : (signL.find? fun t => pf t (s.drop n)).getD [] = (s[n] :: s.drop (n + 1)).take (opLen (s[n] :: s.drop (n + 1))) := by
        rw [List.drop_eq_getElem_cons hx]
        exact sign_is hend n32 n9 n10
      rw [hsg]
      have hol := opLen_le (a := s[n]) (r := s.drop (n + 1))
      have hll : (s[n] :: s.drop (n + 1)).length = s.length - n := by rw [← List.drop_eq_getElem_cons hx, List.length_drop]
      have htl : ((s[n] :: s.drop (n + 1)).take (opLen (s[n] :: s.drop (n + 1)))).length = opLen (s[n] :: s.drop (n + 1)) := by rw [List.length_take]; omega
      have h5 : RS w w5 s n acc p C := ⟨hn, h.li.mod hm5 (fun _ _ h => h), Mod.trans h.still hm5 (fun _ h => h) (fun _ _ h => h), h.all, hfew⟩
      refine .inl ⟨_, rfl, tc acc, [.int .i64 1, .string (S ((s[n] :: s.drop (n + 1)).take (opLen (s[n] :: s.drop (n + 1)))))], (h5.li.alloc _).base0, rfl, two_one, pair_src _ _ _ _, by omega, by omega, fun p3 C3 w6 ho6 hg6 hb6 => ?_⟩
      rw [htl]
      have e2 : IntKind.i64.wrap ((n : Int) + (opLen (s[n] :: s.drop (n + 1)) : Int)) = ((n + opLen (s[n] :: s.drop (n + 1)) : Nat) : Int) := by rw [wrap_i64 (by omega) (by omega)]; omega
      rw [e2]
      refine ⟨⟨_, acc ++ [(1, (s[n] :: s.drop (n + 1)).take (opLen (s[n] :: s.drop (n + 1))))], rfl, by simp, h5.told hx (by omega) (by omega) (t := (s[n] :: s.drop (n + 1)).drop (opLen (s[n] :: s.drop (n + 1)))) (by unfold tokOne; rw [if_neg hbl, if_neg n35, if_neg n10, if_pos hend]) ?_ ho6 hg6 hb6⟩, by dsimp only; omega⟩
      rw [← List.drop_eq_getElem_cons hx, List.drop_drop]
    · refine ⟨fun i w7 => ∃ m : Nat, i = (m : Int) ∧ n ≤ m ∧ m ≤ s.length ∧ wordD (s.drop m) = wordD (s.drop n) ∧ w7 = w4, fun i _ => s.length - i.toNat, ⟨n, rfl, Nat.le_refl _, hn, rfl, rfl⟩, ?_⟩
      rintro _ _ w7 ⟨m, rfl, hnm, hm, hwd, rfl⟩
      have hone : tokOne s[n] (s.drop (n + 1)) = match wordD (s.drop m) with
        | some t => some ([(0, (s.drop n).take ((s.drop n).length - t.length))], t)
        | none => none := by
        unfold tokOne
        rw [if_neg hbl, if_neg n35, if_neg n10, if_neg (by rw [hend]; decide), ← List.drop_eq_getElem_cons hx, hwd]
        cases wordD (s.drop n) <;> rfl
      refine ⟨fun x w9 => x = !endsB (s.drop m) ∧ w9 = w7, bsel_of (fun hy => ?_) (fun hy => ?_), ?_⟩
      · have hy : m < s.length := by have := of_decide_eq_true hy; omega
        have hgm : s[Int.toNat (m : Int)]? = some s[m] := by rw [Int.toNat_natCast]; exact getD_some hy
        refine ⟨by omega, _, hgm, (ref_ends_spec s[m]).mono ?_⟩
        rintro _ w8 ⟨rfl, rfl⟩
        exact .inl ⟨_, rfl, by rw [endsB_drop hy], rfl⟩
      · have hy : m = s.length := by have := of_decide_eq_false hy; omega
        refine ⟨?_, rfl⟩
        rw [List.drop_of_length_le (by omega)]
        rfl
      · rintro _ _ w9 ⟨rfl, rfl⟩
        refine bsel_of (fun he => ?_) (fun he => ?_)
        · have he : endsB (s.drop m) = false := by simpa using he
          have hy : m < s.length := by
            rcases Nat.lt_or_ge m s.length with h | h
            · exact h
            · rw [List.drop_of_length_le h] at he
              cases he
          refine (ref_skip_spec s m hy (by omega)).mono ?_
          rintro _ w10 ⟨rfl, rfl⟩
          refine .inl ⟨_, rfl, ?_⟩
          cases hu : unitD 30 (s.drop m) with
          | none =>
            refine bsel_of (fun _ => ?_) (fun h => by have := of_decide_eq_false h; simp [ix] at this)
            rw [wordD_none he hu] at hone
            have hall := h.all
            rw [List.drop_eq_getElem_cons hx, toks_cons, hone] at hall
            have hno : toks s = none := by rw [← hall]; rfl
            have hres : tokRes s = ([], 80) := by unfold tokRes; rw [if_neg h20, hno]
            rw [hres]
            exact ⟨none, 0, rfl, Owns.nil _ _ _ _, h.still⟩
          | some t =>
            have h1 := unitD_ends 30 _ _ hu
            have h2 := unitD_takes 30 _ _ hu
            rw [List.length_drop] at h2
            have h3 := h1.trans (drop_suf s m)
            have hle := h3.length_le
            refine bsel_of (fun h => ?_) (fun _ => ⟨⟨s.length - t.length, rfl, by omega, by omega, ?_, rfl⟩, ?_⟩)
            · have h := of_decide_eq_true h
              simp only [ix] at h
              omega
            · rw [← suf_drop h3, ← wordD_unit he hu, hwd]
            · simp only [ix]
              omega
        · have he : endsB (s.drop m) = true := by simpa using he
          rw [wordD_ends he] at hone
          have hnm2 : n ≠ m := by
            rintro rfl
            rw [endsB_drop hx] at he
            rw [he] at hend
            cases hend
          have hlen : (s.drop n).length - (s.drop m).length = m - n := by rw [List.length_drop, List.length_drop]; omega
          rw [show Int.toNat (m : Int) - Int.toNat (n : Int) = m - n by omega, Int.toNat_natCast]
          dsimp only at hone
          rw [hlen] at hone
          refine ⟨by omega, by omega, by omega, tc acc, [.int .i64 0, .string (S ((s.drop n).take (m - n)))], (h.li.alloc _).base0, rfl, two_one, pair_src _ _ _ _, by omega, by omega, fun p3 C3 w11 ho11 hg11 hb11 => ?_⟩
          exact ⟨⟨m, acc ++ [(0, (s.drop n).take (m - n))], rfl, by simp, h.told hx (by omega) hm hone rfl ho11 hg11 hb11⟩, by dsimp only; omega⟩
  · have hx : n = s.length := by have := of_decide_eq_false hx; omega
    have hall : toks s = some acc := by rw [← h.all, List.drop_of_length_le (by omega)]; simp [toks_nil]
    have hres : tokRes s = (acc, 0) := by unfold tokRes; rw [if_neg h20, hall]
    rw [hres]
    exact ⟨p, C, rfl, h.li, h.still⟩
def TokAt (w : World) (p : Option Addr) (n : Nat) (l : List Tok) : Prop := l.length = n ∧ ∀ i x, l[i]? = some x → ∃ a, p = some a ∧ w.cell? (a.add (i * 2)) = some (.int .i64 (x.1 : Int)) ∧ w.cell? ((a.add (i * 2)).add 1) = some (.string (S x.2))
theorem TokAt.still {w w' : World} {p : Option Addr} {n : Nat} {l : List Tok} (h : TokAt w p n l) (hm : Still w w') : TokAt w' p n l := by
  refine ⟨h.1, fun i x hx => ?_⟩
  obtain ⟨a, h1, h2, h3⟩ := h.2 i x hx
  have cell : ∀ {a : Addr} {v : Value}, w.cell? a = some v → w'.cell? a = some v := fun h => (World.cell?_of_block (hm.block _ (World.block_lt_of_cell? _ _ h) (fun h => h))).trans h
  exact ⟨a, h1, cell h2, cell h3⟩
theorem CellsAt.zero {b : Addr} {x : Value} {xs : List Value} (h : CellsAt w b (x :: xs)) : w.cell? b = some x := by
  have a0 : b.add 0 = b := by unfold Addr.add; simp
  have := h 0 x rfl
  rwa [a0] at this
theorem Still.only {g : Nat} {a b : World} (h : Still a b) : Only g a b := h.weaken fun _ h => h.elim
end Go.Proofs.YthommfjiaalecaaDoor
namespace Go.Proofs.YthommfjiaalecaaDoor
open Go.RowKit Vc
variable {w : World} {α β : Type}
def Enc.OutX (e : Enc α) (w : World) (B : Nat) (t : TypeId) (X : Nat → Prop) (gn : Nat) (l : List α) (v : Value) : Prop := ∃ p c xs, v = .slice p l.length c ∧ Owns w B t e.sz v l.length xs ∧ (∀ k, v.ownBlock = some k → X k ∧ k ≠ gn) ∧ e.Cs w (fun k => B ≤ k ∧ k < w.heap.size ∧ ¬ X k) l xs
theorem Enc.OutX.nil (e : Enc α) (w : World) (B : Nat) (t : TypeId) (X : Nat → Prop) (gn : Nat) : e.OutX w B t X gn [] (.slice none 0 0) := ⟨none, 0, [], rfl, Owns.nil _ _ _ _, fun k hk => (by cases hk), rfl⟩
section
variable {e : Enc α} {B gn : Nat} {t : TypeId} {X X' : Nat → Prop} {l : List α} {v : Value}
theorem Enc.OutX.form (h : e.OutX w B t X gn l v) : ∃ p c, v = .slice p l.length c := by
  obtain ⟨p, c, _, he, _⟩ := h
  exact ⟨p, c, he⟩
theorem Enc.OutX.at (h : e.OutX w B t X gn l v) : e.At w (fun k => B ≤ k ∧ k < w.heap.size) l v := by
  obtain ⟨p, c, xs, rfl, ho, _, hc⟩ := h
  obtain ⟨p', c', he, hle⟩ := ho.cap
  injection he with _ _ e3
  subst e3
  refine ⟨p, c, rfl, hle, fun hl => ?_⟩
  have hn : 0 < l.length := List.length_pos_iff.2 hl
  obtain ⟨g, cap, he, hB, hg, _, hcell⟩ := ho.ownAddr hn
  injection he with e1 e2 e3
  subst e1
  refine ⟨_, xs, rfl, ⟨hB, hg⟩, hc.turn (fun k hk => ⟨hk.1, hk.2.1⟩) (fun _ _ _ h => h), fun j u hu => ?_⟩
  rw [add_row, Nat.zero_add]
  exact hcell j u hu
theorem Enc.OutX.mod {S : Nat → Prop} {w' : World} (h : e.OutX w B t X gn l v) (hm : Mod S w w') (hS : ∀ k, B ≤ k → k < w.heap.size → S k → X k ∧ v.ownBlock ≠ some k) (hX : ∀ k, X k → X' k) (hX' : ∀ k, X' k → X k ∨ w.heap.size ≤ k) : e.OutX w' B t X' gn l v := by
  obtain ⟨p, c, xs, rfl, ho, hg, hc⟩ := h
  refine ⟨p, c, xs, rfl, ho.mod hm fun k hk hs => (hS k (ho.lt k hk).1 (ho.lt k hk).2 hs).2 hk, fun k hk => ⟨hX k (hg k hk).1, (hg k hk).2⟩, hc.turn (fun k hk => ⟨hk.1, Nat.lt_of_lt_of_le hk.2.1 hm.size, fun hx => ?_⟩) fun a v ⟨k, hk, ea⟩ hcell => mod_cell hm (by rw [ea]; exact fun hs => hk.2.2 (hS k hk.1 hk.2.1 hs).1) hcell⟩
  rcases hX' k hx with hx | hx
  · exact hk.2.2 hx
  · omega
theorem Enc.OutX.push {bytes : Nat} {p : Option Addr} {n c : Nat} {x : α} {cs : List Value} {K : Option Addr → Nat → World → Prop} {Sw : World → Prop} (ho : e.OutX w B t X gn l (.slice p n c)) (hB : B ≤ w.heap.size) (_hXs : ∀ k, X k → k < w.heap.size) (hgn : gn < w.heap.size)
    (hS : ∀ w1, Still w w1 → Sw w1) (hx : e.E w (fun k => B ≤ k ∧ k < w.heap.size ∧ ¬ X k) x cs) (hs : n + 1 ≤ 9223372036854775807) (hb : (n + 1) * bytes ≤ 140737488355328)
    (h : ∀ p' c' w', e.OutX w' B t (fun k => X k ∨ (Value.slice p' (n + 1) c').ownBlock = some k) gn (l ++ [x]) (.slice p' (n + 1) c') → Mod (fun k => (Value.slice p n c).ownBlock = some k) w w' → (∀ k, (Value.slice p' (n + 1) c').ownBlock = some k → X k ∨ w.heap.size ≤ k) → (∀ k, (Value.slice p' (n + 1) c').ownBlock = some k → k < w'.heap.size) → K p' c' w') :
    letW (w.alloc (.cells ⟨cs⟩ t)) (fun w2 => Sw w2 ∧ appK w2 t e.sz bytes p n c (some (Addr.mk w.heap.size 0 none)) 1 K) := by
  obtain ⟨p0, c0, xs, he, ho, hg, hc⟩ := ho
  injection he with e1 e2 e3
  subst e1 e2 e3
  have hl := e.len hx
  refine allocK fun w1 hr hst hz => ⟨hS w1 hst, ?_⟩
  refine appK_push (ho.still hst) (by omega) cs (by omega) (e.one hx) (fun _ => ⟨_, rfl, fun j u hu => ?_⟩) hs hb fun p' c' w' ho' hm hk => ?_
  · rw [add_row, Nat.zero_add]
    exact hr.cellv (by simpa using hu)
  have hz' := hm.size
  have hown : ∀ k, (Value.slice p' (l.length + 1) c').ownBlock = some k → (X k ∧ k ≠ gn) ∨ w.heap.size + 1 = k := by
    intro k hk'
    rcases hk.own (n := l.length) with hk | hk
    · exact .inl (hg k (hk.symm.trans hk'))
    · rw [hk'] at hk
      have := Option.some.inj hk
      exact .inr (by omega)
  refine h p' c' w' ⟨p', c', xs ++ cs, by rw [List.length_append]; rfl, by rw [List.length_append]; exact ho', fun k hk' => ⟨.inr hk', ?_⟩, ?_⟩ (Mod.trans hst hm (fun _ h => h.elim) (fun _ _ h => h)) (fun k hk' => ?_) fun k hk' => (ho'.lt k hk').2
  · rcases hown k hk' with h | h
    · exact h.2
    · omega
  · refine (hc.append (Enc.Cs.single hx)).turn (fun k hk => ⟨hk.1, by omega, fun hx => ?_⟩) fun a v ⟨k, hk, ea⟩ hcell => mod_cell hm (by rw [ea]; exact fun h => hk.2.2 (hg k h).1) (hst.cell hcell)
    rcases hx with hx | hx
    · exact hk.2.2 hx
    · rcases hown k hx with h | h
      · exact hk.2.2 h.1
      · omega
  · rcases hown k hk' with h | h
    · exact .inl h.1
    · exact .inr (by omega)
theorem Enc.OutX.row {g : Nat} {xs : List Value} (hr : Row w g t ⟨xs⟩) (hB : B ≤ g) (hg : g ≠ gn) (hX : X g) (hm : l.length ≤ 1000000) (hc : e.Cs w (fun k => B ≤ k ∧ k < w.heap.size ∧ ¬ X k) l xs) : e.OutX w B t X gn l (.slice (some ⟨g, 0, none⟩) l.length l.length) := by
  have hl := hc.len
  refine ⟨_, _, xs, rfl, ⟨hl, .inr ⟨g, l.length, ⟨xs⟩, rfl, hB, hr, Nat.le_refl _, Nat.le_trans hm (by decide), hl, ?_⟩⟩, fun k hk => ?_, hc⟩
  · rw [← hl]
    exact List.take_length
  · obtain rfl := Option.some.inj hk
    exact ⟨hX, hg⟩
end
theorem Enc.OutX.apart {e : Enc α} {f : Enc β} {B gn : Nat} {t u : TypeId} {X : Nat → Prop} {l : List α} {m : List β} {v v' : Value} (h : e.OutX w B t X gn l v) (h' : f.OutX w B u X gn m v') (hne : t ≠ u) {k : Nat} (hk : v.ownBlock = some k) : v'.ownBlock ≠ some k := by
  obtain ⟨_, _, _, _, ho, _⟩ := h
  obtain ⟨_, _, _, _, ho', _⟩ := h'
  exact ho.apart ho' hne hk
structure NB (w0 w : World) (g gn B : Nat) (X : Nat → Prop) (x : Nd) (vw va vr vo vk : Value) : Prop where
  row : Row w gn 32 ⟨ncell x vw va vr vo vk⟩
  only : Only g w0 w
  hg : g < w0.heap.size
  hB : w0.heap.size ≤ B
  hgn : B ≤ gn
  xs : ∀ k, X k → k < w.heap.size ∧ B ≤ k
  xg : X gn
  ow : wsE.OutX w B 50 X gn x.ws vw
  oa : nsE.OutX w B 56 X gn x.as va
  ord : nsE.OutX w B 52 X gn x.rs vr
  oo : osE.OutX w B 9 X gn x.os vo
  ok : ndE.OutX w B 32 X gn x.ks vk
section
variable {w0 w1 w' : World} {g gn B : Nat} {X : Nat → Prop} {x : Nd} {vw va vr vo vk : Value}
theorem NB.mod {S : Nat → Prop} (h : NB w0 w g gn B X x vw va vr vo vk) (hm : Mod S w w') (hS : ∀ k, S k → k = g ∨ w.heap.size ≤ k) : NB w0 w' g gn B X x vw va vr vo vk := by
  have hz := hm.size
  have key : ∀ k, B ≤ k → k < w.heap.size → S k → False := fun k h1 h2 h3 => by
    have := h.hg
    have := h.hB
    rcases hS k h3 with h4 | h4 <;> omega
  have n1 : ¬ S gn := fun hs => key gn h.hgn (h.xs _ h.xg).1 hs
  refine ⟨h.row.mod hm n1, Mod.trans h.only hm (fun _ h => h) (fun i hi hs => ?_), h.hg, h.hB, h.hgn, fun k hk => ⟨Nat.lt_of_lt_of_le (h.xs k hk).1 hz, (h.xs k hk).2⟩, h.xg, ?_, ?_, ?_, ?_, ?_⟩
  · have := h.only.size
    rcases hS _ hs with h4 | h4 <;> omega
  · exact h.ow.mod hm (fun k h1 h2 h3 => (key k h1 h2 h3).elim) (fun _ h => h) (fun _ h => .inl h)
  · exact h.oa.mod hm (fun k h1 h2 h3 => (key k h1 h2 h3).elim) (fun _ h => h) (fun _ h => .inl h)
  · exact h.ord.mod hm (fun k h1 h2 h3 => (key k h1 h2 h3).elim) (fun _ h => h) (fun _ h => .inl h)
  · exact h.oo.mod hm (fun k h1 h2 h3 => (key k h1 h2 h3).elim) (fun _ h => h) (fun _ h => .inl h)
  · exact h.ok.mod hm (fun k h1 h2 h3 => (key k h1 h2 h3).elim) (fun _ h => h) (fun _ h => .inl h)
theorem NB.on (h : NB w0 w g gn B X x vw va vr vo vk) (hm : Only g w w') : NB w0 w' g gn B X x vw va vr vo vk := h.mod hm fun _ h => .inl h
theorem NB.still (h : NB w0 w g gn B X x vw va vr vo vk) (hm : Still w w') : NB w0 w' g gn B X x vw va vr vo vk := h.mod hm fun _ h => h.elim
theorem NB.put (h : NB w0 w g gn B X x vw va vr vo vk) (hm : Mod (fun k => k = gn) w w') {y : Nd} {uw ua ur uo uk : Value} (hr : Row w' gn 32 ⟨ncell y uw ua ur uo uk⟩) (hw : wsE.OutX w' B 50 X gn y.ws uw ∨ y.ws = x.ws ∧ uw = vw) (ha : y.as = x.as ∧ ua = va) (hrr : y.rs = x.rs ∧ ur = vr) (ho : osE.OutX w' B 9 X gn y.os uo ∨ y.os = x.os ∧ uo = vo) (hk : ndE.OutX w' B 32 X gn y.ks uk ∨ y.ks = x.ks ∧ uk = vk) : NB w0 w' g gn B X y uw ua ur uo uk := by
  have hz := hm.size
  have own : ∀ {v : Value}, (∀ k, v.ownBlock = some k → X k ∧ k ≠ gn) → v.ownBlock ≠ some gn := fun hv he => (hv gn he).2 rfl
  refine ⟨hr, Mod.trans h.only hm (fun _ h => h) (fun i hi e => ?_), h.hg, h.hB, h.hgn, fun k hk => ⟨Nat.lt_of_lt_of_le (h.xs k hk).1 hz, (h.xs k hk).2⟩, h.xg, ?_, ?_, ?_, ?_, ?_⟩
  · have := h.hgn
    have := h.hB
    omega
  · rcases hw with hw | hw
    · exact hw
    rw [hw.1, hw.2]
    obtain ⟨_, _, _, _, _, hg, _⟩ := id h.ow
    exact h.ow.mod hm (fun k _ _ e => by subst e; exact ⟨h.xg, own hg⟩) (fun _ h => h) (fun _ h => .inl h)
  · rw [ha.1, ha.2]
    obtain ⟨_, _, _, _, _, hg, _⟩ := id h.oa
    exact h.oa.mod hm (fun k _ _ e => by subst e; exact ⟨h.xg, own hg⟩) (fun _ h => h) (fun _ h => .inl h)
  · rw [hrr.1, hrr.2]
    obtain ⟨_, _, _, _, _, hg, _⟩ := id h.ord
    exact h.ord.mod hm (fun k _ _ e => by subst e; exact ⟨h.xg, own hg⟩) (fun _ h => h) (fun _ h => .inl h)
  · rcases ho with ho | ho
    · exact ho
    rw [ho.1, ho.2]
    obtain ⟨_, _, _, _, _, hg, _⟩ := id h.oo
    exact h.oo.mod hm (fun k _ _ e => by subst e; exact ⟨h.xg, own hg⟩) (fun _ h => h) (fun _ h => .inl h)
  · rcases hk with hk | hk
    · exact hk
    rw [hk.1, hk.2]
    obtain ⟨_, _, _, _, _, hg, _⟩ := id h.ok
    exact h.ok.mod hm (fun k _ _ e => by subst e; exact ⟨h.xg, own hg⟩) (fun _ h => h) (fun _ h => .inl h)
theorem NB.grow {Y : Nat → Prop} (h : NB w0 w g gn B X x vw va vr vo vk) (_hY : ∀ k, Y k → X k ∨ (k < w.heap.size ∧ B ≤ k)) (hX : ∀ k, X k → Y k) (hc : ∀ k, Y k → ¬ X k → False) : NB w0 w g gn B Y x vw va vr vo vk := by
  have e : X = Y := funext fun k => propext ⟨hX k, fun hy => Classical.byContradiction fun hn => hc k hy hn⟩
  rw [← e]
  exact h
theorem NB.nde (h : NB w0 w g gn B X x vw va vr vo vk) : NdE w (fun k => B ≤ k ∧ k < w.heap.size) x (ncell x vw va vr vo vk) :=
  NdE.of h.ow.at h.oa.at h.ord.at h.oo.at h.ok.at
theorem NB.mk0 {x : Nd} (hr : Row w gn 32 ⟨ncell x (.slice none 0 0) (.slice none 0 0) (.slice none 0 0) (.slice none 0 0) (.slice none 0 0)⟩) (ho : Only g w0 w) (hg : g < w0.heap.size) (hB : w0.heap.size ≤ B) (hgn : B ≤ gn) (hx : x.ws = [] ∧ x.as = [] ∧ x.rs = [] ∧ x.os = [] ∧ x.ks = []) :
    NB w0 w g gn B (fun k => k = gn) x (.slice none 0 0) (.slice none 0 0) (.slice none 0 0) (.slice none 0 0) (.slice none 0 0) := by
  obtain ⟨h1, h2, h3, h4, h5⟩ := hx
  refine ⟨hr, ho, hg, hB, hgn, fun k hk => by subst hk; exact ⟨hr.lt, hgn⟩, rfl, ?_, ?_, ?_, ?_, ?_⟩
  · rw [h1]; exact Enc.OutX.nil _ _ _ _ _ _
  · rw [h2]; exact Enc.OutX.nil _ _ _ _ _ _
  · rw [h3]; exact Enc.OutX.nil _ _ _ _ _ _
  · rw [h4]; exact Enc.OutX.nil _ _ _ _ _ _
  · rw [h5]; exact Enc.OutX.nil _ _ _ _ _ _
end
abbrev zcell : List Value := ncell (.mk 0 false [] [] [] [] [] []) (.slice none 0 0) (.slice none 0 0) (.slice none 0 0) (.slice none 0 0) (.slice none 0 0)
end Go.Proofs.YthommfjiaalecaaDoor
namespace Go.Proofs.YthommfjiaalecaaDoor
open Go.RowKit Vc
variable {w : World}
abbrev Nd.addW (x : Nd) (y : List Pt) : Nd := .mk x.k x.neg x.nm (x.ws ++ [y]) x.as x.rs x.os x.ks
theorem NB.addW {w0 w1 : World} {g gn B : Nat} {X : Nat → Prop} {x : Nd} {va vr vo vk : Value} {p : Option Addr} {n c : Nat} {y : List Pt} {cs : List Value} (h : NB w0 w1 g gn B X x (.slice p n c) va vr vo vk) (o : Only g w1 w) (hy : wsE.E w (fun k => w1.heap.size ≤ k ∧ k < w.heap.size) y cs) (hn : x.ws.length < 1000000) {K : World → Prop}
    (hK : ∀ p' c' w' X', NB w0 w' g gn B X' (x.addW y) (.slice p' (n + 1) c') va vr vo vk → Mod (fun k => B ≤ k) w w' → K w') :
    letW (w.alloc (.cells ⟨cs⟩ 50)) (fun w2 => w2.cell? (Addr.mk gn 3 none) = some (.slice p n c) ∧ appK w2 50 1 24 p n c (some (Addr.mk w.heap.size 0 none)) 1 (fun p' c' w9 => stCells (Addr.mk gn 3 none) K 0 [.slice p' (n + 1) c'] w9)) := by
  have h2 := h.on o
  obtain ⟨_, _, _, he, _, hg, _⟩ := id h2.ow
  injection he with _ en _
  have hgl := h2.row.lt
  have hsz := h.only.size
  have hoz := o.size
  have hgn := h2.hgn
  have hB := h2.hB
  refine Enc.OutX.push (Sw := fun wq => wq.cell? (Addr.mk gn 3 none) = some (.slice p n c)) h2.ow (by omega) (fun k hk => (h2.xs k hk).1) hgl (fun wq hq => (h2.row.still hq).lget rfl) (wsE.turn (fun k hk => ⟨?_, hk.2, fun hx => ?_⟩) (fun _ _ _ h => h) hy) (by omega) (by omega) fun p' c' w9 ho9 hm9 hw9 hl9 => ?_
  · have := h.row.lt
    omega
  · have := (h.xs k hx).1
    omega
  have hr9 := h2.row.mod hm9 (fun hk => (hg gn hk).2 rfl)
  refine stK hr9 (by simp) (by simp [Value.oneCell']) fun w10 r10 m10 z10 => hK p' c' w10 (fun k => X k ∨ (Value.slice p' (n + 1) c').ownBlock = some k) ?_ ?_
  rotate_left
  · exact Mod.trans hm9 m10 (fun k hk => (h2.xs k (hg k hk).1).2) (fun k _ hk => by omega)
  have hz9 := hm9.size
  have hz10 := m10.size
  have oth : ∀ {β : Type} {f : Enc β} {u : TypeId} {m : List β} {v' : Value}, f.OutX w B u X gn m v' → (∀ k, (Value.slice p n c).ownBlock = some k → v'.ownBlock ≠ some k) → f.OutX w10 B u (fun k => X k ∨ (Value.slice p' (n + 1) c').ownBlock = some k) gn m v' := by
    intro β f u m v' hf hne
    obtain ⟨_, _, _, _, _, hgv, _⟩ := id hf
    exact (hf.mod hm9 (fun k _ _ hs => ⟨(hg k hs).1, hne k hs⟩) (fun _ h => .inl h) (fun k hk => hk.elim .inl (fun h => hw9 k h))).mod m10 (fun k _ _ e => by subst e; exact ⟨.inl h2.xg, fun hk => (hgv _ hk).2 rfl⟩) (fun _ h => h) (fun _ h => .inl h)
  have own10 := ho9.mod m10 (X' := fun k => X k ∨ (Value.slice p' (n + 1) c').ownBlock = some k) (fun k _ _ e => by
    subst e
    obtain ⟨_, _, _, _, _, hgv, _⟩ := id ho9
    exact ⟨.inl h2.xg, fun hk => (hgv _ hk).2 rfl⟩) (fun _ h => h) (fun _ h => .inl h)
  have hlow : ∀ k, (Value.slice p' (n + 1) c').ownBlock = some k → B ≤ k := fun k hk => by
    rcases hw9 k hk with hk | hk
    · exact (h2.xs k hk).2
    · omega
  refine ⟨r10, Mod.trans (Mod.trans h2.only hm9 (fun _ h => h) (fun i hi hk => by have := (h2.xs _ (hg _ hk).1).2; omega)) m10 (fun _ h => h) (fun i hi e => by omega), h2.hg, hB, hgn, fun k hk => ?_, .inl h2.xg, own10, oth h2.oa (fun k hk => h2.ow.apart h2.oa (by decide) hk), oth h2.ord (fun k hk => h2.ow.apart h2.ord (by decide) hk), oth h2.oo (fun k hk => h2.ow.apart h2.oo (by decide) hk), oth h2.ok (fun k hk => h2.ow.apart h2.ok (by decide) hk)⟩
  rcases hk with hk | hk
  · have := h2.xs k hk
    exact ⟨by omega, this.2⟩
  · have := hl9 k hk
    exact ⟨by omega, hlow k hk⟩
theorem NB.addW' {w0 w1 : World} {g gn B : Nat} {X : Nat → Prop} {x : Nd} {va vr vo vk : Value} {p : Option Addr} {n c : Nat} {y : List Pt} {cs : List Value} (h : NB w0 w1 g gn B X x (.slice p n c) va vr vo vk) (o : Only g w1 w) (hy : wsE.E w (fun k => w1.heap.size ≤ k ∧ k < w.heap.size) y cs) (hn : x.ws.length < 1000000) {K : World → Prop}
    (hK : ∀ p' c' w' X', NB w0 w' g gn B X' (x.addW y) (.slice p' (n + 1) c') va vr vo vk → Mod (fun k => B ≤ k) w w' → K w') :
    letW (w.alloc (.cells ⟨cs⟩ 50)) (fun w2 => appK w2 50 1 24 p n c (some (Addr.mk w.heap.size 0 none)) 1 (fun p' c' w9 => stCells (Addr.mk gn 3 none) K 0 [.slice p' (n + 1) c'] w9)) := by
  have h0 := h.addW o hy hn hK
  exact h0.2
abbrev Nd.addA (x : Nd) (y : Txt × List Pt) : Nd := .mk x.k x.neg x.nm x.ws (x.as ++ [y]) x.rs x.os x.ks
theorem NB.addA {w0 w1 : World} {g gn B : Nat} {X : Nat → Prop} {x : Nd} {vw vr vo vk : Value} {p : Option Addr} {n c : Nat} {y : Txt × List Pt} {cs : List Value} (h : NB w0 w1 g gn B X x vw (.slice p n c) vr vo vk) (o : Only g w1 w) (hy : nsE.E w (fun k => w1.heap.size ≤ k ∧ k < w.heap.size) y cs) (hn : x.as.length < 1000000) {K : World → Prop}
    (hK : ∀ p' c' w' X', NB w0 w' g gn B X' (x.addA y) vw (.slice p' (n + 1) c') vr vo vk → Mod (fun k => B ≤ k) w w' → K w') :
    letW (w.alloc (.cells ⟨cs⟩ 56)) (fun w2 => w2.cell? (Addr.mk gn 4 none) = some (.slice p n c) ∧ appK w2 56 2 40 p n c (some (Addr.mk w.heap.size 0 none)) 1 (fun p' c' w9 => stCells (Addr.mk gn 4 none) K 0 [.slice p' (n + 1) c'] w9)) := by
  have h2 := h.on o
  obtain ⟨_, _, _, he, _, hg, _⟩ := id h2.oa
  injection he with _ en _
  have hgl := h2.row.lt
  have hsz := h.only.size
  have hoz := o.size
  have hgn := h2.hgn
  have hB := h2.hB
  refine Enc.OutX.push (Sw := fun wq => wq.cell? (Addr.mk gn 4 none) = some (.slice p n c)) h2.oa (by omega) (fun k hk => (h2.xs k hk).1) hgl (fun wq hq => (h2.row.still hq).lget rfl) (nsE.turn (fun k hk => ⟨?_, hk.2, fun hx => ?_⟩) (fun _ _ _ h => h) hy) (by omega) (by omega) fun p' c' w9 ho9 hm9 hw9 hl9 => ?_
  · have := h.row.lt
    omega
  · have := (h.xs k hx).1
    omega
  have hr9 := h2.row.mod hm9 (fun hk => (hg gn hk).2 rfl)
  refine stK hr9 (by simp) (by simp [Value.oneCell']) fun w10 r10 m10 z10 => hK p' c' w10 (fun k => X k ∨ (Value.slice p' (n + 1) c').ownBlock = some k) ?_ ?_
  rotate_left
  · exact Mod.trans hm9 m10 (fun k hk => (h2.xs k (hg k hk).1).2) (fun k _ hk => by omega)
  have hz9 := hm9.size
  have hz10 := m10.size
  have oth : ∀ {β : Type} {f : Enc β} {u : TypeId} {m : List β} {v' : Value}, f.OutX w B u X gn m v' → (∀ k, (Value.slice p n c).ownBlock = some k → v'.ownBlock ≠ some k) → f.OutX w10 B u (fun k => X k ∨ (Value.slice p' (n + 1) c').ownBlock = some k) gn m v' := by
    intro β f u m v' hf hne
    obtain ⟨_, _, _, _, _, hgv, _⟩ := id hf
    exact (hf.mod hm9 (fun k _ _ hs => ⟨(hg k hs).1, hne k hs⟩) (fun _ h => .inl h) (fun k hk => hk.elim .inl (fun h => hw9 k h))).mod m10 (fun k _ _ e => by subst e; exact ⟨.inl h2.xg, fun hk => (hgv _ hk).2 rfl⟩) (fun _ h => h) (fun _ h => .inl h)
  have own10 := ho9.mod m10 (X' := fun k => X k ∨ (Value.slice p' (n + 1) c').ownBlock = some k) (fun k _ _ e => by
    subst e
    obtain ⟨_, _, _, _, _, hgv, _⟩ := id ho9
    exact ⟨.inl h2.xg, fun hk => (hgv _ hk).2 rfl⟩) (fun _ h => h) (fun _ h => .inl h)
  have hlow : ∀ k, (Value.slice p' (n + 1) c').ownBlock = some k → B ≤ k := fun k hk => by
    rcases hw9 k hk with hk | hk
    · exact (h2.xs k hk).2
    · omega
  refine ⟨r10, Mod.trans (Mod.trans h2.only hm9 (fun _ h => h) (fun i hi hk => by have := (h2.xs _ (hg _ hk).1).2; omega)) m10 (fun _ h => h) (fun i hi e => by omega), h2.hg, hB, hgn, fun k hk => ?_, .inl h2.xg, oth h2.ow (fun k hk => h2.oa.apart h2.ow (by decide) hk), own10, oth h2.ord (fun k hk => h2.oa.apart h2.ord (by decide) hk), oth h2.oo (fun k hk => h2.oa.apart h2.oo (by decide) hk), oth h2.ok (fun k hk => h2.oa.apart h2.ok (by decide) hk)⟩
  rcases hk with hk | hk
  · have := h2.xs k hk
    exact ⟨by omega, this.2⟩
  · have := hl9 k hk
    exact ⟨by omega, hlow k hk⟩
theorem NB.addA' {w0 w1 : World} {g gn B : Nat} {X : Nat → Prop} {x : Nd} {vw vr vo vk : Value} {p : Option Addr} {n c : Nat} {y : Txt × List Pt} {cs : List Value} (h : NB w0 w1 g gn B X x vw (.slice p n c) vr vo vk) (o : Only g w1 w) (hy : nsE.E w (fun k => w1.heap.size ≤ k ∧ k < w.heap.size) y cs) (hn : x.as.length < 1000000) {K : World → Prop}
    (hK : ∀ p' c' w' X', NB w0 w' g gn B X' (x.addA y) vw (.slice p' (n + 1) c') vr vo vk → Mod (fun k => B ≤ k) w w' → K w') :
    letW (w.alloc (.cells ⟨cs⟩ 56)) (fun w2 => appK w2 56 2 40 p n c (some (Addr.mk w.heap.size 0 none)) 1 (fun p' c' w9 => stCells (Addr.mk gn 4 none) K 0 [.slice p' (n + 1) c'] w9)) := by
  have h0 := h.addA o hy hn hK
  exact h0.2
abbrev Nd.addR (x : Nd) (y : Txt × List Pt) : Nd := .mk x.k x.neg x.nm x.ws x.as (x.rs ++ [y]) x.os x.ks
theorem NB.addR {w0 w1 : World} {g gn B : Nat} {X : Nat → Prop} {x : Nd} {vw va vo vk : Value} {p : Option Addr} {n c : Nat} {y : Txt × List Pt} {cs : List Value} (h : NB w0 w1 g gn B X x vw va (.slice p n c) vo vk) (o : Only g w1 w) (hy : nsE.E w (fun k => w1.heap.size ≤ k ∧ k < w.heap.size) y cs) (hn : x.rs.length < 1000000) {K : World → Prop}
    (hK : ∀ p' c' w' X', NB w0 w' g gn B X' (x.addR y) vw va (.slice p' (n + 1) c') vo vk → Mod (fun k => B ≤ k) w w' → K w') :
    letW (w.alloc (.cells ⟨cs⟩ 52)) (fun w2 => w2.cell? (Addr.mk gn 5 none) = some (.slice p n c) ∧ appK w2 52 2 40 p n c (some (Addr.mk w.heap.size 0 none)) 1 (fun p' c' w9 => stCells (Addr.mk gn 5 none) K 0 [.slice p' (n + 1) c'] w9)) := by
  have h2 := h.on o
  obtain ⟨_, _, _, he, _, hg, _⟩ := id h2.ord
  injection he with _ en _
  have hgl := h2.row.lt
  have hsz := h.only.size
  have hoz := o.size
  have hgn := h2.hgn
  have hB := h2.hB
  refine Enc.OutX.push (Sw := fun wq => wq.cell? (Addr.mk gn 5 none) = some (.slice p n c)) h2.ord (by omega) (fun k hk => (h2.xs k hk).1) hgl (fun wq hq => (h2.row.still hq).lget rfl) (nsE.turn (fun k hk => ⟨?_, hk.2, fun hx => ?_⟩) (fun _ _ _ h => h) hy) (by omega) (by omega) fun p' c' w9 ho9 hm9 hw9 hl9 => ?_
  · have := h.row.lt
    omega
  · have := (h.xs k hx).1
    omega
  have hr9 := h2.row.mod hm9 (fun hk => (hg gn hk).2 rfl)
  refine stK hr9 (by simp) (by simp [Value.oneCell']) fun w10 r10 m10 z10 => hK p' c' w10 (fun k => X k ∨ (Value.slice p' (n + 1) c').ownBlock = some k) ?_ ?_
  rotate_left
  · exact Mod.trans hm9 m10 (fun k hk => (h2.xs k (hg k hk).1).2) (fun k _ hk => by omega)
  have hz9 := hm9.size
  have hz10 := m10.size
  have oth : ∀ {β : Type} {f : Enc β} {u : TypeId} {m : List β} {v' : Value}, f.OutX w B u X gn m v' → (∀ k, (Value.slice p n c).ownBlock = some k → v'.ownBlock ≠ some k) → f.OutX w10 B u (fun k => X k ∨ (Value.slice p' (n + 1) c').ownBlock = some k) gn m v' := by
    intro β f u m v' hf hne
    obtain ⟨_, _, _, _, _, hgv, _⟩ := id hf
    exact (hf.mod hm9 (fun k _ _ hs => ⟨(hg k hs).1, hne k hs⟩) (fun _ h => .inl h) (fun k hk => hk.elim .inl (fun h => hw9 k h))).mod m10 (fun k _ _ e => by subst e; exact ⟨.inl h2.xg, fun hk => (hgv _ hk).2 rfl⟩) (fun _ h => h) (fun _ h => .inl h)
  have own10 := ho9.mod m10 (X' := fun k => X k ∨ (Value.slice p' (n + 1) c').ownBlock = some k) (fun k _ _ e => by
    subst e
    obtain ⟨_, _, _, _, _, hgv, _⟩ := id ho9
    exact ⟨.inl h2.xg, fun hk => (hgv _ hk).2 rfl⟩) (fun _ h => h) (fun _ h => .inl h)
  have hlow : ∀ k, (Value.slice p' (n + 1) c').ownBlock = some k → B ≤ k := fun k hk => by
    rcases hw9 k hk with hk | hk
    · exact (h2.xs k hk).2
    · omega
  refine ⟨r10, Mod.trans (Mod.trans h2.only hm9 (fun _ h => h) (fun i hi hk => by have := (h2.xs _ (hg _ hk).1).2; omega)) m10 (fun _ h => h) (fun i hi e => by omega), h2.hg, hB, hgn, fun k hk => ?_, .inl h2.xg, oth h2.ow (fun k hk => h2.ord.apart h2.ow (by decide) hk), oth h2.oa (fun k hk => h2.ord.apart h2.oa (by decide) hk), own10, oth h2.oo (fun k hk => h2.ord.apart h2.oo (by decide) hk), oth h2.ok (fun k hk => h2.ord.apart h2.ok (by decide) hk)⟩
  rcases hk with hk | hk
  · have := h2.xs k hk
    exact ⟨by omega, this.2⟩
  · have := hl9 k hk
    exact ⟨by omega, hlow k hk⟩
theorem NB.addR' {w0 w1 : World} {g gn B : Nat} {X : Nat → Prop} {x : Nd} {vw va vo vk : Value} {p : Option Addr} {n c : Nat} {y : Txt × List Pt} {cs : List Value} (h : NB w0 w1 g gn B X x vw va (.slice p n c) vo vk) (o : Only g w1 w) (hy : nsE.E w (fun k => w1.heap.size ≤ k ∧ k < w.heap.size) y cs) (hn : x.rs.length < 1000000) {K : World → Prop}
    (hK : ∀ p' c' w' X', NB w0 w' g gn B X' (x.addR y) vw va (.slice p' (n + 1) c') vo vk → Mod (fun k => B ≤ k) w w' → K w') :
    letW (w.alloc (.cells ⟨cs⟩ 52)) (fun w2 => appK w2 52 2 40 p n c (some (Addr.mk w.heap.size 0 none)) 1 (fun p' c' w9 => stCells (Addr.mk gn 5 none) K 0 [.slice p' (n + 1) c'] w9)) := by
  have h0 := h.addR o hy hn hK
  exact h0.2
abbrev Nd.addO (x : Nd) (y : Txt) : Nd := .mk x.k x.neg x.nm x.ws x.as x.rs (x.os ++ [y]) x.ks
theorem NB.addO {w0 w1 : World} {g gn B : Nat} {X : Nat → Prop} {x : Nd} {vw va vr vk : Value} {p : Option Addr} {n c : Nat} {y : Txt} {cs : List Value} (h : NB w0 w1 g gn B X x vw va vr (.slice p n c) vk) (o : Only g w1 w) (hy : osE.E w (fun k => w1.heap.size ≤ k ∧ k < w.heap.size) y cs) (hn : x.os.length < 1000000) {K : World → Prop}
    (hK : ∀ p' c' w' X', NB w0 w' g gn B X' (x.addO y) vw va vr (.slice p' (n + 1) c') vk → Mod (fun k => B ≤ k) w w' → K w') :
    letW (w.alloc (.cells ⟨cs⟩ 9)) (fun w2 => w2.cell? (Addr.mk gn 6 none) = some (.slice p n c) ∧ appK w2 9 1 16 p n c (some (Addr.mk w.heap.size 0 none)) 1 (fun p' c' w9 => stCells (Addr.mk gn 6 none) K 0 [.slice p' (n + 1) c'] w9)) := by
  have h2 := h.on o
  obtain ⟨_, _, _, he, _, hg, _⟩ := id h2.oo
  injection he with _ en _
  have hgl := h2.row.lt
  have hsz := h.only.size
  have hoz := o.size
  have hgn := h2.hgn
  have hB := h2.hB
  refine Enc.OutX.push (Sw := fun wq => wq.cell? (Addr.mk gn 6 none) = some (.slice p n c)) h2.oo (by omega) (fun k hk => (h2.xs k hk).1) hgl (fun wq hq => (h2.row.still hq).lget rfl) (osE.turn (fun k hk => ⟨?_, hk.2, fun hx => ?_⟩) (fun _ _ _ h => h) hy) (by omega) (by omega) fun p' c' w9 ho9 hm9 hw9 hl9 => ?_
  · have := h.row.lt
    omega
  · have := (h.xs k hx).1
    omega
  have hr9 := h2.row.mod hm9 (fun hk => (hg gn hk).2 rfl)
  refine stK hr9 (by simp) (by simp [Value.oneCell']) fun w10 r10 m10 z10 => hK p' c' w10 (fun k => X k ∨ (Value.slice p' (n + 1) c').ownBlock = some k) ?_ ?_
  rotate_left
  · exact Mod.trans hm9 m10 (fun k hk => (h2.xs k (hg k hk).1).2) (fun k _ hk => by omega)
  have hz9 := hm9.size
  have hz10 := m10.size
  have oth : ∀ {β : Type} {f : Enc β} {u : TypeId} {m : List β} {v' : Value}, f.OutX w B u X gn m v' → (∀ k, (Value.slice p n c).ownBlock = some k → v'.ownBlock ≠ some k) → f.OutX w10 B u (fun k => X k ∨ (Value.slice p' (n + 1) c').ownBlock = some k) gn m v' := by
    intro β f u m v' hf hne
    obtain ⟨_, _, _, _, _, hgv, _⟩ := id hf
    exact (hf.mod hm9 (fun k _ _ hs => ⟨(hg k hs).1, hne k hs⟩) (fun _ h => .inl h) (fun k hk => hk.elim .inl (fun h => hw9 k h))).mod m10 (fun k _ _ e => by subst e; exact ⟨.inl h2.xg, fun hk => (hgv _ hk).2 rfl⟩) (fun _ h => h) (fun _ h => .inl h)
  have own10 := ho9.mod m10 (X' := fun k => X k ∨ (Value.slice p' (n + 1) c').ownBlock = some k) (fun k _ _ e => by
    subst e
    obtain ⟨_, _, _, _, _, hgv, _⟩ := id ho9
    exact ⟨.inl h2.xg, fun hk => (hgv _ hk).2 rfl⟩) (fun _ h => h) (fun _ h => .inl h)
  have hlow : ∀ k, (Value.slice p' (n + 1) c').ownBlock = some k → B ≤ k := fun k hk => by
    rcases hw9 k hk with hk | hk
    · exact (h2.xs k hk).2
    · omega
  refine ⟨r10, Mod.trans (Mod.trans h2.only hm9 (fun _ h => h) (fun i hi hk => by have := (h2.xs _ (hg _ hk).1).2; omega)) m10 (fun _ h => h) (fun i hi e => by omega), h2.hg, hB, hgn, fun k hk => ?_, .inl h2.xg, oth h2.ow (fun k hk => h2.oo.apart h2.ow (by decide) hk), oth h2.oa (fun k hk => h2.oo.apart h2.oa (by decide) hk), oth h2.ord (fun k hk => h2.oo.apart h2.ord (by decide) hk), own10, oth h2.ok (fun k hk => h2.oo.apart h2.ok (by decide) hk)⟩
  rcases hk with hk | hk
  · have := h2.xs k hk
    exact ⟨by omega, this.2⟩
  · have := hl9 k hk
    exact ⟨by omega, hlow k hk⟩
abbrev Nd.addK (x : Nd) (y : Nd) : Nd := .mk x.k x.neg x.nm x.ws x.as x.rs x.os (x.ks ++ [y])
theorem NB.addK {w0 w1 : World} {g gn B : Nat} {X : Nat → Prop} {x : Nd} {vw va vr vo : Value} {p : Option Addr} {n c : Nat} {y : Nd} {cs : List Value} (h : NB w0 w1 g gn B X x vw va vr vo (.slice p n c)) (o : Only g w1 w) (hy : ndE.E w (fun k => w1.heap.size ≤ k ∧ k < w.heap.size) y cs) (hn : x.ks.length < 1000000) {K : World → Prop}
    (hK : ∀ p' c' w' X', NB w0 w' g gn B X' (x.addK y) vw va vr vo (.slice p' (n + 1) c') → Mod (fun k => B ≤ k) w w' → K w') :
    letW (w.alloc (.cells ⟨cs⟩ 32)) (fun w2 => w2.cell? (Addr.mk gn 7 none) = some (.slice p n c) ∧ appK w2 32 8 152 p n c (some (Addr.mk w.heap.size 0 none)) 1 (fun p' c' w9 => stCells (Addr.mk gn 7 none) K 0 [.slice p' (n + 1) c'] w9)) := by
  have h2 := h.on o
  obtain ⟨_, _, _, he, _, hg, _⟩ := id h2.ok
  injection he with _ en _
  have hgl := h2.row.lt
  have hsz := h.only.size
  have hoz := o.size
  have hgn := h2.hgn
  have hB := h2.hB
  refine Enc.OutX.push (Sw := fun wq => wq.cell? (Addr.mk gn 7 none) = some (.slice p n c)) h2.ok (by omega) (fun k hk => (h2.xs k hk).1) hgl (fun wq hq => (h2.row.still hq).lget rfl) (ndE.turn (fun k hk => ⟨?_, hk.2, fun hx => ?_⟩) (fun _ _ _ h => h) hy) (by omega) (by omega) fun p' c' w9 ho9 hm9 hw9 hl9 => ?_
  · have := h.row.lt
    omega
  · have := (h.xs k hx).1
    omega
  have hr9 := h2.row.mod hm9 (fun hk => (hg gn hk).2 rfl)
  refine stK hr9 (by simp) (by simp [Value.oneCell']) fun w10 r10 m10 z10 => hK p' c' w10 (fun k => X k ∨ (Value.slice p' (n + 1) c').ownBlock = some k) ?_ ?_
  rotate_left
  · exact Mod.trans hm9 m10 (fun k hk => (h2.xs k (hg k hk).1).2) (fun k _ hk => by omega)
  have hz9 := hm9.size
  have hz10 := m10.size
  have oth : ∀ {β : Type} {f : Enc β} {u : TypeId} {m : List β} {v' : Value}, f.OutX w B u X gn m v' → (∀ k, (Value.slice p n c).ownBlock = some k → v'.ownBlock ≠ some k) → f.OutX w10 B u (fun k => X k ∨ (Value.slice p' (n + 1) c').ownBlock = some k) gn m v' := by
    intro β f u m v' hf hne
    obtain ⟨_, _, _, _, _, hgv, _⟩ := id hf
    exact (hf.mod hm9 (fun k _ _ hs => ⟨(hg k hs).1, hne k hs⟩) (fun _ h => .inl h) (fun k hk => hk.elim .inl (fun h => hw9 k h))).mod m10 (fun k _ _ e => by subst e; exact ⟨.inl h2.xg, fun hk => (hgv _ hk).2 rfl⟩) (fun _ h => h) (fun _ h => .inl h)
  have own10 := ho9.mod m10 (X' := fun k => X k ∨ (Value.slice p' (n + 1) c').ownBlock = some k) (fun k _ _ e => by
    subst e
    obtain ⟨_, _, _, _, _, hgv, _⟩ := id ho9
    exact ⟨.inl h2.xg, fun hk => (hgv _ hk).2 rfl⟩) (fun _ h => h) (fun _ h => .inl h)
  have hlow : ∀ k, (Value.slice p' (n + 1) c').ownBlock = some k → B ≤ k := fun k hk => by
    rcases hw9 k hk with hk | hk
    · exact (h2.xs k hk).2
    · omega
  refine ⟨r10, Mod.trans (Mod.trans h2.only hm9 (fun _ h => h) (fun i hi hk => by have := (h2.xs _ (hg _ hk).1).2; omega)) m10 (fun _ h => h) (fun i hi e => by omega), h2.hg, hB, hgn, fun k hk => ?_, .inl h2.xg, oth h2.ow (fun k hk => h2.ok.apart h2.ow (by decide) hk), oth h2.oa (fun k hk => h2.ok.apart h2.oa (by decide) hk), oth h2.ord (fun k hk => h2.ok.apart h2.ord (by decide) hk), oth h2.oo (fun k hk => h2.ok.apart h2.oo (by decide) hk), own10⟩
  rcases hk with hk | hk
  · have := h2.xs k hk
    exact ⟨by omega, this.2⟩
  · have := hl9 k hk
    exact ⟨by omega, hlow k hk⟩
theorem NB.addK' {w0 w1 : World} {g gn B : Nat} {X : Nat → Prop} {x : Nd} {vw va vr vo : Value} {p : Option Addr} {n c : Nat} {y : Nd} {cs : List Value} (h : NB w0 w1 g gn B X x vw va vr vo (.slice p n c)) (o : Only g w1 w) (hy : ndE.E w (fun k => w1.heap.size ≤ k ∧ k < w.heap.size) y cs) (hn : x.ks.length < 1000000) {K : World → Prop}
    (hK : ∀ p' c' w' X', NB w0 w' g gn B X' (x.addK y) vw va vr vo (.slice p' (n + 1) c') → Mod (fun k => B ≤ k) w w' → K w') :
    letW (w.alloc (.cells ⟨cs⟩ 32)) (fun w2 => appK w2 32 8 152 p n c (some (Addr.mk w.heap.size 0 none)) 1 (fun p' c' w9 => stCells (Addr.mk gn 7 none) K 0 [.slice p' (n + 1) c'] w9)) := by
  have h0 := h.addK o hy hn hK
  exact h0.2
theorem Only.tr {g : Nat} {a b c : World} (h : Only g a b) (k : Only g b c) : Only g a c := Mod.trans h k (fun _ h => h) (fun _ _ h => h)
def asgR (s : Ts) : Option (Rs ((Txt × List Pt) × Ts)) := match s with
  | (_, t) :: r => (asgF t).map fun y => (wpL 30 y.2).and fun l => .ok ((y.1, l), r)
  | [] => none
theorem pipeN_two {neg : Bool} {ks : List Nd} (h : ¬ (ks.length = 1 ∧ neg = false)) : pipeN neg ks = .mk 1 neg [] [] [] [] [] ks := by
  match ks with
  | [] => rfl
  | [k] =>
    cases neg with
    | true => rfl
    | false => exact absurd ⟨rfl, rfl⟩ h
  | a :: b :: r => rfl
end Go.Proofs.YthommfjiaalecaaDoor
