/- Parts put behind parts: the program's add, in its own row, and the reference's Add, in a new one. Conditions: as each theorem names them. -/
import Derived.Test.YtckcdbkggaoomaaDoorWdAt
import Derived.Test.YtckcdbkggaoomaaDoorWdSz
import Derived.Test.YtckcdbkggaoomaaDoorWdNam
namespace Go.Proofs.YtckcdbkggaoomaaDoor
open Go.RowKit Vc
variable {w : World}

/-- A part as a value; v is its word's slice. -/
abbrev pagg (x : Pt) (v : Value) : Value := .agg #[.int .i64 x.k, .bool x.q, .string (S x.t), .string (S x.n), .string (S x.o), v]
theorem pcell_len (x : Pt) (v : Value) : (pcell x v).length = 6 := rfl
theorem Owns.store {B : Nat} {e : TypeId} {sz n c g i : Nat} {xs : List Value} {u : Value} {K : World → Prop} (h : Owns w B e sz (.slice (some ⟨g, 0, none⟩) n c) n xs) (hi : i < n * sz) (hu : u.oneCell' = true)
    (hK : ∀ w', Owns w' B e sz (.slice (some ⟨g, 0, none⟩) n c) n (xs.set i u) → Mod (fun k => k = g) w w' → w'.heap.size = w.heap.size → K w') : stCells ((Addr.mk g 0 none).add i) K 0 [u] w := by
  obtain ⟨h1, ⟨he, hn⟩ | ⟨g', cap, cur, he, hB, hr, hc, hm, hs, ht⟩⟩ := h
  · cases he
  · injection he with e1 e2 e3
    injection e1 with e1
    injection e1 with e1
    subst e1 e3
    rw [add_row, Nat.zero_add]
    have hr' : Row w g e ⟨cur.toList⟩ := hr
    have hlen : cur.toList.length = c * sz := by rw [Array.length_toList]; exact hs
    have hle : n * sz ≤ c * sz := Nat.mul_le_mul_right sz hc
    refine stK hr' (by simp only [List.length_cons, List.length_nil]; omega) (by simpa using hu) fun w' r' m' z' => hK w' ⟨by rw [List.length_set]; exact h1, .inr ⟨g, c, _, rfl, hB, r', hc, hm, ?_, ?_⟩⟩ m' z'
    · simp only [ovw, List.size_toArray, List.length_set]
      exact hlen
    · simp only [ovw]
      rw [← ht, List.take_set]
theorem SlAt.cells {F : Nat → Prop} {l : List Pt} {p : Option Addr} {n c : Nat} (h : SlAt w F l (.slice p n c)) : ∃ xs, Cs w F l xs ∧ At w p n xs := by
  obtain ⟨p', c', he, h2, h3⟩ := h
  injection he with e1 e2 e3
  subst e1 e2 e3
  by_cases hl : l = []
  · subst hl
    exact ⟨[], rfl, fun h => absurd h (Nat.lt_irrefl _)⟩
  · obtain ⟨b, rfl, h4, h5⟩ := h3 hl
    obtain ⟨xs, h6, h7⟩ := Cs.to h5
    exact ⟨xs, h6, fun _ => ⟨b, rfl, h7⟩⟩
theorem drew_still (w : World) : Still w w.drew := (Still.refl w).toDrew
/-- The fields of a part that stands in a box. -/
theorem box_fields {g : Nat} {x : Pt} {v : Value} (h : Row w g 39 ⟨pcell x v⟩) : w.cell? ⟨g, 0, none⟩ = some (.int .i64 x.k) ∧ w.cell? ⟨g, 1, none⟩ = some (.bool x.q) ∧ w.cell? ⟨g, 2, none⟩ = some (.string (S x.t)) ∧ w.cell? ⟨g, 3, none⟩ = some (.string (S x.n)) ∧ w.cell? ⟨g, 4, none⟩ = some (.string (S x.o)) ∧ w.cell? ⟨g, 5, none⟩ = some v :=
  ⟨h.lget rfl, h.lget rfl, h.lget rfl, h.lget rfl, h.lget rfl, h.lget rfl⟩
/-- What the two adds do behind the copying. -/
def AddBody (gx : Nat) (w1 : World) (l : Option Addr) (lL lC : Nat) (R : Ending → World → Prop) : Prop :=
  ∃ xJ : World → Prop, (∃ xJ1 : Bool → World → Prop, (bsel (decide ((0 : Int) ≤ (IntKind.i64.wrap ((((lL : Nat) : Int) : Int) - (1 : Int))))) (∃ v : Int, w1.cell? (Addr.mk gx 0 none) = some (.int .i64 v) ∧ bsel (decide (v = (0 : Int))) (0 ≤ (IntKind.i64.wrap ((((lL : Nat) : Int) : Int) - (1 : Int))) ∧ (IntKind.i64.wrap ((((lL : Nat) : Int) : Int) - (1 : Int))) < (lL : Nat) ∧ someK l (fun a => ∃ v1 : Int, w1.cell? (a.add (Int.toNat (IntKind.i64.wrap ((((lL : Nat) : Int) : Int) - (1 : Int))) * 6)) = some (.int .i64 v1) ∧ bsel (decide (v1 = (0 : Int))) (0 ≤ (IntKind.i64.wrap ((((lL : Nat) : Int) : Int) - (1 : Int))) ∧ (IntKind.i64.wrap ((((lL : Nat) : Int) : Int) - (1 : Int))) < (lL : Nat) ∧ someK l (fun a1 => ∃ v2 : Bool, w1.cell? ((a1.add (Int.toNat (IntKind.i64.wrap ((((lL : Nat) : Int) : Int) - (1 : Int))) * 6)).add 1) = some (.bool v2) ∧ ∃ v3 : Bool, w1.cell? (Addr.mk gx 1 none) = some (.bool v3) ∧ xJ1 (decide (v2 = v3)) w1.drew)) (xJ1 false w1.drew))) (xJ1 false w1.drew)) (xJ1 false w1.drew)) ∧ ∀ (x : Bool) (_us1 : Nat → Value) (w2 : World), (xJ1 x w2) → bsel x (∃ Sw : World → Prop, Sw w2.drew ∧ 0 ≤ (IntKind.i64.wrap ((((lL : Nat) : Int) : Int) - (1 : Int))) ∧ (IntKind.i64.wrap ((((lL : Nat) : Int) : Int) - (1 : Int))) < (lL : Nat) ∧ someK l (fun a2 => ∃ v4 : List UInt8, (∀ wq : World, Sw wq → wq.cell? ((a2.add (Int.toNat (IntKind.i64.wrap ((((lL : Nat) : Int) : Int) - (1 : Int))) * 6)).add 2) = some (.string (S v4))) ∧ ∃ v5 : List UInt8, (∀ wq : World, Sw wq → wq.cell? (Addr.mk gx 2 none) = some (.string (S v5))) ∧ v4.length + v5.length ≤ 9223372036854775807 ∧ 0 ≤ (IntKind.i64.wrap ((((lL : Nat) : Int) : Int) - (1 : Int))) ∧ (IntKind.i64.wrap ((((lL : Nat) : Int) : Int) - (1 : Int))) < (lL : Nat) ∧ someK l (fun a3 => stCells ((a3.add (Int.toNat (IntKind.i64.wrap ((((lL : Nat) : Int) : Int) - (1 : Int))) * 6)).add 2) (fun (w3 : World) => R (.returned (.slice l lL lC)) w3) 0 [(.string (S (v4 ++ v5)))] w2.drew))) (xJ w2)) ∧ ∀ (_us2 : Nat → Value) (w4 : World), (xJ w4) → ∃ vKind : Int, ∃ vQuoted : Bool, ∃ vText : List UInt8, ∃ vName : List UInt8, ∃ vOp : List UInt8, ∃ (vWord : Option Addr) (vWordL vWordC : Nat), w4.cell? (Addr.mk gx 0 none) = some (.int .i64 vKind) ∧ w4.cell? (Addr.mk gx 1 none) = some (.bool vQuoted) ∧ w4.cell? (Addr.mk gx 2 none) = some (.string (S vText)) ∧ w4.cell? (Addr.mk gx 3 none) = some (.string (S vName)) ∧ w4.cell? (Addr.mk gx 4 none) = some (.string (S vOp)) ∧ w4.cell? (Addr.mk gx 5 none) = some (.slice vWord vWordL vWordC) ∧ letW (w4.alloc (.cells #[(.int .i64 vKind), (.bool vQuoted), (.string (S vText)), (.string (S vName)), (.string (S vOp)), (.slice vWord vWordL vWordC)] 39)) (fun (w5 : World) => appK w5 39 6 88 l lL lC (some (Addr.mk w4.heap.size 0 none)) 1 (fun (p : Option Addr) (cp : Nat) (w6 : World) => R (.returned (.slice p (lL + 1) cp)) w6))
theorem addBody_spec {w1 : World} {gx B : Nat} {l : List Pt} {p : Option Addr} {c : Nat} {x : Pt} {wp : Option Addr} {wc : Nat} {R : Ending → World → Prop} (r1 : Row w1 gx 39 ⟨pcell x (.slice wp x.w.length wc)⟩) (ho : OutAt w1 B l (.slice p l.length c)) (hB : B ≤ w1.heap.size)
    (hw : SlAt w1 (fun k => B ≤ k ∧ k < w1.heap.size ∧ (Value.slice p l.length c).ownBlock ≠ some k) x.w (.slice wp x.w.length wc)) (hl : wtL l + x.wt < 1000000000)
    (hR : ∀ v' w', OutAt w' B (addP l x) v' → Mod (fun k => (Value.slice p l.length c).ownBlock = some k) w1 w' → (∀ k, v'.ownBlock = some k → (Value.slice p l.length c).ownBlock = some k ∨ w1.heap.size ≤ k) → R (.returned v') w') : AddBody gx w1 p l.length c R := by
  obtain ⟨p', c', xs, hv, hown, hcs⟩ := ho
  injection hv with hv1 _ hv2
  subst hv1 hv2
  have hwl := wtL_len l
  obtain ⟨f0, f1, f2, f3, f4, f5⟩ := box_fields (x := x) r1
  have sd : Still w1 w1.drew := drew_still w1
  -- what stands behind is put in a new place
  have push : (∀ y ∈ l.getLast?, ¬ Mg y x) → ∀ w4 : World, w4 = w1.drew →
      letW (w4.alloc (.cells ⟨pcell x (.slice wp x.w.length wc)⟩ 39)) (fun w5 => appK w5 39 6 88 p l.length c (some (Addr.mk w4.heap.size 0 none)) 1 (fun p' cp w6 => R (.returned (.slice p' (l.length + 1) cp)) w6)) := by
    rintro hno _ rfl
    have hadd : addP l x = l ++ [x] := by
      by_cases hl : l = []
      · subst hl; rfl
      · obtain ⟨m, y, rfl⟩ := snoc_of hl
        rw [addP_snoc, if_neg (show ¬ (x.k = 0 ∧ y.k = 0 ∧ y.q = x.q) from hno y (by simp))]
    refine allocK fun w5 r5 s5 z5 => ?_
    have s05 := sd.trans s5
    refine appK_push (hown.still s05) (by have := s05.size; omega) (pcell x (.slice wp x.w.length wc)) rfl (pcell_one rfl) (fun _ => ⟨_, rfl, fun j u hu => ?_⟩) (by omega) (by omega) fun p' c' w6 ho6 hm6 hbk => ?_
    · rw [add_row, Nat.zero_add]
      exact r5.lget hu
    · have hm06 : Mod (fun k => (Value.slice p l.length c).ownBlock = some k) w1 w6 := Mod.trans s05 hm6 (fun _ h => h.elim) (fun _ _ h => h)
      have hz5 : w1.heap.size ≤ w5.heap.size := s05.size
      have hown' : ∀ k, (Value.slice p' (l.length + 1) c').ownBlock = some k → (Value.slice p l.length c).ownBlock = some k ∨ w5.heap.size ≤ k := by
        intro k hk
        rcases hbk.own (n := l.length) with e | e
        · exact .inl (by rw [← e]; exact hk)
        · rw [hk] at e
          obtain rfl := Option.some.inj e
          exact .inr (Nat.le_refl _)
      refine hR _ _ ?_ hm06 fun k hk => (hown' k hk).imp_right fun h => by omega
      rw [hadd]
      refine ⟨p', c', _, by rw [List.length_append]; rfl, by rw [List.length_append]; exact ho6, ?_⟩
      have tr : ∀ {y : List Pt} {u : Value}, SlAt w1 (fun k => B ≤ k ∧ k < w1.heap.size ∧ (Value.slice p l.length c).ownBlock ≠ some k) y u → SlAt w6 (fun k => B ≤ k ∧ k < w6.heap.size ∧ (Value.slice p' (l.length + 1) c').ownBlock ≠ some k) y u := by
        intro y u h
        refine (h.mod hm06 fun k hk => hk.2.2).mono fun k hk => ⟨hk.1, Nat.lt_of_lt_of_le hk.2.1 hm06.size, fun e => ?_⟩
        rcases hown' k e with e | e
        · exact hk.2.2 e
        · omega
      exact (hcs.turn tr).snoc (tr hw)
  by_cases hl0 : l = []
  · subst hl0
    have e1 : IntKind.i64.wrap ((((([] : List Pt).length : Nat) : Int) : Int) - 1) = -1 := by decide
    unfold AddBody
    rw [e1]
    refine ⟨fun w4 => w4 = w1.drew, ⟨fun b w2 => b = false ∧ w2 = w1.drew, bsel_of (fun h => absurd h (by decide)) (fun _ => ⟨rfl, rfl⟩), ?_⟩, ?_⟩
    · rintro _ _ w2 ⟨rfl, rfl⟩
      exact rfl
    · rintro _ _ rfl
      obtain ⟨f0, f1, f2, f3, f4, f5⟩ := box_fields (x := x) (r1.still (drew_still w1))
      exact ⟨_, _, _, _, _, _, _, _, f0, f1, f2, f3, f4, f5, push (by simp) _ rfl⟩
  · obtain ⟨m, y, rfl⟩ := snoc_of hl0
    have hlen : (m ++ [y]).length = m.length + 1 := by simp
    obtain ⟨ys, vy, hxs, hcm, hvy⟩ := hcs.last
    have hyl : ys.length = m.length * 6 := hcm.len
    obtain ⟨g, cap, he, hgB, hgl, hcap, hcell⟩ := hown.ownAddr (by omega)
    injection he with e1 e2 e3
    subst e1 e3
    have e1 : IntKind.i64.wrap ((((m ++ [y]).length : Nat) : Int) - 1) = (m.length : Int) := by rw [hlen, wrap_i64 (by omega) (by omega)]; omega
    have ycell : ∀ (w' : World), Still w1 w' → ∀ j u, (pcell y vy)[j]? = some u → w'.cell? (((Addr.mk g 0 none).add (m.length * 6)).add j) = some u := by
      intro w' hs j u hu
      rw [adds, add_row, Nat.zero_add]
      refine hs.cell (hcell _ _ ?_)
      rw [hxs, List.getElem?_append_right (by rw [hyl]; omega), hyl, Nat.add_sub_cancel_left]
      exact hu
    have a0 : ∀ a : Addr, a.add 0 = a := by intro a; unfold Addr.add; simp
    have y0 := ycell w1 (Still.refl _) 0 _ rfl
    rw [a0] at y0
    unfold AddBody
    rw [e1]
    refine ⟨fun w4 => w4 = w1.drew ∧ ¬ Mg y x, ⟨fun b w2 => (b = true ↔ Mg y x) ∧ w2 = w1.drew, bsel_of (fun _ => ⟨x.k, f0, bsel_of (fun hk => ?_) (fun hk => ⟨?_, rfl⟩)⟩) (fun h => absurd (of_decide_eq_false h) (by omega)), ?_⟩, ?_⟩
    · have hk : x.k = 0 := of_decide_eq_true hk
      refine ⟨by omega, by omega, y.k, by rw [Int.toNat_natCast]; exact y0, bsel_of (fun hy => ?_) (fun hy => ⟨?_, rfl⟩)⟩
      · have hy : y.k = 0 := of_decide_eq_true hy
        refine ⟨by omega, by omega, y.q, by rw [Int.toNat_natCast]; exact ycell w1 (Still.refl _) 1 _ rfl, x.q, f1, ?_, rfl⟩
        rw [decide_eq_true_eq]
        exact ⟨fun e => ⟨hk, hy, e⟩, fun e => e.2.2⟩
      · have hy : ¬ y.k = 0 := of_decide_eq_false hy
        exact ⟨fun e => (by cases e), fun e => absurd e.2.1 hy⟩
    · have hk : ¬ x.k = 0 := of_decide_eq_false hk
      exact ⟨fun e => (by cases e), fun e => absurd e.1 hk⟩
    · rintro b _ w2 ⟨hb, rfl⟩
      refine bsel_of (fun h => ?_) (fun h => ?_)
      · have hm := hb.1 h
        have f2' := (r1.still ((drew_still w1).trans (drew_still w1.drew))).lget (i := 2) rfl
        have hty := wtL_append m [y]
        rw [wtL_one, y.wt_eq] at hty
        have hx2 := x.wt_eq
        refine ⟨fun wq => wq = w1.drew.drew, rfl, by omega, by omega, y.t, ?_, x.t, ?_, by omega, by omega, by omega, ?_⟩
        · rintro wq rfl
          rw [Int.toNat_natCast]
          exact ycell _ (sd.trans (drew_still w1.drew)) 2 _ rfl
        · rintro wq rfl
          exact f2'
        · rw [Int.toNat_natCast, someK_some, adds]
          have so : Still w1 w1.drew.drew := sd.toDrew
          refine Owns.store (hown.still so) (by omega) rfl fun w' ho' hm' hz' => hR _ _ ?_ ?_ fun k hk => .inl hk
          · rw [addP_snoc, if_pos (show x.k = 0 ∧ y.k = 0 ∧ y.q = x.q from hm)]
            have hset : xs.set (m.length * 6 + 2) (.string (S (y.t ++ x.t))) = ys ++ pcell (.mk y.k y.q (y.t ++ x.t) y.n y.o y.w) vy := by
              rw [hxs, List.set_append_right _ _ (by rw [hyl]; omega), hyl, Nat.add_sub_cancel_left]
              rfl
            rw [hset] at ho'
            have hmo : Mod (fun k => k = g) w1 w' := Mod.trans so hm' (fun _ h => h.elim) (fun _ _ h => h)
            have tr : ∀ {z : List Pt} {u : Value}, SlAt w1 (fun k => B ≤ k ∧ k < w1.heap.size ∧ (Value.slice (some ⟨g, 0, none⟩) (m ++ [y]).length c).ownBlock ≠ some k) z u → SlAt w' (fun k => B ≤ k ∧ k < w'.heap.size ∧ (Value.slice (some ⟨g, 0, none⟩) (m ++ [y]).length c).ownBlock ≠ some k) z u := by
              intro z u h
              refine (h.mod hmo fun k hk e => hk.2.2 (by rw [e]; simp [Value.ownBlock])).mono fun k hk => ⟨hk.1, Nat.lt_of_lt_of_le hk.2.1 hmo.size, hk.2.2⟩
            have hlen2 : (m ++ [Pt.mk y.k y.q (y.t ++ x.t) y.n y.o y.w]).length = (m ++ [y]).length := by simp
            exact ⟨some ⟨g, 0, none⟩, c, _, by rw [hlen2], by rw [hlen2]; exact ho', (hcm.turn tr).snoc (tr hvy)⟩
          · exact Mod.trans so hm' (fun _ h => h.elim) (fun k _ e => by rw [e]; simp [Value.ownBlock])
      · exact ⟨rfl, fun hm => by rw [hb.2 hm] at h; cases h⟩
    · rintro _ _ ⟨rfl, hno⟩
      obtain ⟨f0, f1, f2, f3, f4, f5⟩ := box_fields (x := x) (r1.still (drew_still w1))
      exact ⟨_, _, _, _, _, _, _, _, f0, f1, f2, f3, f4, f5, push (by simpa using hno) _ rfl⟩
theorem add_spec {B : Nat} {l : List Pt} {v : Value} {x : Pt} {vw : Value} (ho : OutAt w B l v) (hB : B ≤ w.heap.size) (hw : SlAt w (fun k => B ≤ k ∧ k < w.heap.size ∧ v.ownBlock ≠ some k) x.w vw) (hl : wtL l + x.wt < 1000000000) :
    Calls Tryd.prog fn_word_add #[v, pagg x vw] w (fun e w' => ∃ v', e = .returned v' ∧ OutAt w' B (addP l x) v' ∧ Mod (fun k => v.ownBlock = some k) w w' ∧ ∀ k, v'.ownBlock = some k → v.ownBlock = some k ∨ w.heap.size ≤ k) := by
  have ho' := ho
  obtain ⟨p, c, xs, rfl, hown, hcs⟩ := ho
  obtain ⟨wp, wc, rfl⟩ := hw.form
  refine word_add_calls _ _ _ _ _ _ _ _ _ _ _ _ _ ?_
  refine allocK fun w1 r1 s1 z1 => ?_
  have key : AddBody w.heap.size w1 p l.length c (fun e w' => ∃ v', e = .returned v' ∧ OutAt w' B (addP l x) v' ∧ Mod (fun k => (Value.slice p l.length c).ownBlock = some k) w w' ∧ ∀ k, v'.ownBlock = some k → (Value.slice p l.length c).ownBlock = some k ∨ w.heap.size ≤ k) :=
    addBody_spec (x := x) r1 (ho'.still s1) (by omega) ((hw.still s1).mono fun k hk => ⟨hk.1, by omega, hk.2.2⟩) hl fun v' w' h1 h2 h3 => ⟨v', rfl, h1, Mod.trans s1 h2 (fun _ h => h.elim) (fun _ _ h => h), fun k hk => (h3 k hk).imp_right fun h => by omega⟩
  exact key
theorem ref_Add_spec {l : List Pt} {v : Value} {x : Pt} {vw : Value} {N : Nat} (ho : SlAt w (fun k => N ≤ k) l v) (hN : N ≤ w.heap.size) (hw : SlAt w (fun k => N ≤ k) x.w vw) (hl : wtL l + x.wt < 1000000000) :
    Calls Tryd.prog fn_ref08_Add #[v, pagg x vw] w (fun e w' => ∃ v', e = .returned v' ∧ SlAt w' (fun k => N ≤ k) (addP l x) v' ∧ Still w w') := by
  obtain ⟨p, c, rfl⟩ := ho.form
  obtain ⟨wp, wc, rfl⟩ := hw.form
  have hwl := wtL_len l
  refine ref08_Add_calls _ _ _ _ _ _ _ _ _ _ _ _ _ ?_
  refine allocK fun w1 r1 s1 z1 => ?_
  obtain ⟨xs, hcs, hat⟩ := (ho.still s1).cells
  have hn : xs.length = l.length * 6 := hcs.len
  refine appK_push (B := w1.heap.size) (Owns.nil w1 _ _ 6) (Nat.le_refl _) xs hn hcs.one hat (by omega) (by omega) fun p' c' w2 ho2 hm2 hbk => ?_
  have s2 : Still w1 w2 := Mod.weaken hm2 fun k h => by cases h
  rw [List.nil_append] at ho2
  have e0 : 0 + l.length = l.length := Nat.zero_add _
  rw [e0] at ho2 ⊢
  have hown : ∀ k, (Value.slice p' l.length c').ownBlock = some k → w1.heap.size ≤ k := fun k hk => (ho2.lt k hk).1
  have ho2' : OutAt w2 N l (.slice p' l.length c') := ⟨p', c', xs, rfl, ho2.base fun k hk => by have := hown k hk; omega, hcs.turn fun h => (h.here.still s2).mono fun k hk => ⟨hk.1, Nat.lt_of_lt_of_le hk.2 s2.size, fun e => by have := hown k e; omega⟩⟩
  have key : AddBody w.heap.size w2 p' l.length c' (fun e w' => ∃ v', e = .returned v' ∧ SlAt w' (fun k => N ≤ k) (addP l x) v' ∧ Still w w') := by
    refine addBody_spec (B := N) (x := x) (r1.still s2) ho2' (by have := s2.size; omega) ((((hw.still s1).here).still s2).mono fun k hk => ⟨hk.1, Nat.lt_of_lt_of_le hk.2 s2.size, fun e => by have := hown k e; omega⟩) hl fun v' w' h1 h2 h3 => ⟨v', rfl, h1.sl.mono fun k hk => hk.1, ?_⟩
    exact Mod.trans (s1.trans s2) h2 (fun _ h => h) fun k hk e => by have := hown k e; have := s1.size; omega
  exact key
end Go.Proofs.YtckcdbkggaoomaaDoor
