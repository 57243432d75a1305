/- Texts of one proof, one behind the other. Conditions: as each theorem names them. -/
import Derived.Test.YtcoeiiihmpnagaaDoorWdAt
import Derived.Test.YtcoeiiihmpnagaaDoorM2
import Derived.Test.YtcoeiiihmpnagaaDoorWdNam
import Derived.Test.YtcoeiiihmpnagaaDoorLxTok
namespace Go.Proofs.YtcoeiiihmpnagaaDoor
open Go.RowKit Vc
variable {w : World}

/-- A part as a value; v is its word's slice. -/
abbrev pagg (x : Pt) (v : Value) : Value := .agg #[.int .i64 x.k, .bool x.q, .string (S x.t), .string (S x.n), .string (S x.o), v]
theorem pcell_len (x : Pt) (v : Value) : (pcell x v).length = 6 := rfl
theorem Owns.store {B : Nat} {e : TypeId} {sz n c g i : Nat} {xs : List Value} {u : Value} {K : World → Prop} (h : Owns w B e sz (.slice (some ⟨g, 0, none⟩) n c) n xs) (hi : i < n * sz) (hu : u.oneCell' = true)
    (hK : ∀ w', Owns w' B e sz (.slice (some ⟨g, 0, none⟩) n c) n (xs.set i u) → Mod (fun k => k = g) w w' → w'.heap.size = w.heap.size → K w') : stCells ((Addr.mk g 0 none).add i) K 0 [u] w := by
  obtain ⟨h1, ⟨he, hn⟩ | ⟨g', cap, cur, he, hB, hr, hc, hm, hs, ht⟩⟩ := h
  · cases he
  · injection he with e1 e2 e3
    injection e1 with e1
    injection e1 with e1
    subst e1 e3
    rw [add_row, Nat.zero_add]
    have hr' : Row w g e ⟨cur.toList⟩ := hr
    have hlen : cur.toList.length = c * sz := by rw [Array.length_toList]; exact hs
    have hle : n * sz ≤ c * sz := Nat.mul_le_mul_right sz hc
    refine stK hr' (by simp only [List.length_cons, List.length_nil]; omega) (by simpa using hu) fun w' r' m' z' => hK w' ⟨by rw [List.length_set]; exact h1, .inr ⟨g, c, _, rfl, hB, r', hc, hm, ?_, ?_⟩⟩ m' z'
    · simp only [ovw, List.size_toArray, List.length_set]
      exact hlen
    · simp only [ovw]
      rw [← ht, List.take_set]
theorem SlAt.cells {F : Nat → Prop} {l : List Pt} {p : Option Addr} {n c : Nat} (h : SlAt w F l (.slice p n c)) : ∃ xs, Cs w F l xs ∧ At w p n xs := by
  obtain ⟨p', c', he, h2, h3⟩ := h
  injection he with e1 e2 e3
  subst e1 e2 e3
  by_cases hl : l = []
  · subst hl
    exact ⟨[], rfl, fun h => absurd h (Nat.lt_irrefl _)⟩
  · obtain ⟨b, rfl, h4, h5⟩ := h3 hl
    obtain ⟨xs, h6, h7⟩ := Cs.to h5
    exact ⟨xs, h6, fun _ => ⟨b, rfl, h7⟩⟩
theorem drew_still (w : World) : Still w w.drew := (Still.refl w).toDrew
/-- The fields of a part that stands in a box. -/
theorem box_fields {g : Nat} {x : Pt} {v : Value} (h : Row w g 56 ⟨pcell x v⟩) : w.cell? ⟨g, 0, none⟩ = some (.int .i64 x.k) ∧ w.cell? ⟨g, 1, none⟩ = some (.bool x.q) ∧ w.cell? ⟨g, 2, none⟩ = some (.string (S x.t)) ∧ w.cell? ⟨g, 3, none⟩ = some (.string (S x.n)) ∧ w.cell? ⟨g, 4, none⟩ = some (.string (S x.o)) ∧ w.cell? ⟨g, 5, none⟩ = some v :=
  ⟨h.lget rfl, h.lget rfl, h.lget rfl, h.lget rfl, h.lget rfl, h.lget rfl⟩
/-- What the two adds do behind the copying. -/
def AddBody (gx : Nat) (w1 : World) (l : Option Addr) (lL lC : Nat) (R : Ending → World → Prop) : Prop :=
  ∃ xJ : World → Prop, (∃ xJ1 : Bool → World → Prop, (bsel (decide ((0 : Int) ≤ (IntKind.i64.wrap ((((lL : Nat) : Int) : Int) - (1 : Int))))) (∃ v : Int, w1.cell? (Addr.mk gx 0 none) = some (.int .i64 v) ∧ bsel (decide (v = (0 : Int))) (0 ≤ (IntKind.i64.wrap ((((lL : Nat) : Int) : Int) - (1 : Int))) ∧ (IntKind.i64.wrap ((((lL : Nat) : Int) : Int) - (1 : Int))) < (lL : Nat) ∧ someK l (fun a => ∃ v1 : Int, w1.cell? (a.add (Int.toNat (IntKind.i64.wrap ((((lL : Nat) : Int) : Int) - (1 : Int))) * 6)) = some (.int .i64 v1) ∧ bsel (decide (v1 = (0 : Int))) (0 ≤ (IntKind.i64.wrap ((((lL : Nat) : Int) : Int) - (1 : Int))) ∧ (IntKind.i64.wrap ((((lL : Nat) : Int) : Int) - (1 : Int))) < (lL : Nat) ∧ someK l (fun a1 => ∃ v2 : Bool, w1.cell? ((a1.add (Int.toNat (IntKind.i64.wrap ((((lL : Nat) : Int) : Int) - (1 : Int))) * 6)).add 1) = some (.bool v2) ∧ ∃ v3 : Bool, w1.cell? (Addr.mk gx 1 none) = some (.bool v3) ∧ xJ1 (decide (v2 = v3)) w1.drew)) (xJ1 false w1.drew))) (xJ1 false w1.drew)) (xJ1 false w1.drew)) ∧ ∀ (x : Bool) (_us1 : Nat → Value) (w2 : World), (xJ1 x w2) → bsel x (∃ Sw : World → Prop, Sw w2.drew ∧ 0 ≤ (IntKind.i64.wrap ((((lL : Nat) : Int) : Int) - (1 : Int))) ∧ (IntKind.i64.wrap ((((lL : Nat) : Int) : Int) - (1 : Int))) < (lL : Nat) ∧ someK l (fun a2 => ∃ v4 : List UInt8, (∀ wq : World, Sw wq → wq.cell? ((a2.add (Int.toNat (IntKind.i64.wrap ((((lL : Nat) : Int) : Int) - (1 : Int))) * 6)).add 2) = some (.string (S v4))) ∧ ∃ v5 : List UInt8, (∀ wq : World, Sw wq → wq.cell? (Addr.mk gx 2 none) = some (.string (S v5))) ∧ v4.length + v5.length ≤ 9223372036854775807 ∧ 0 ≤ (IntKind.i64.wrap ((((lL : Nat) : Int) : Int) - (1 : Int))) ∧ (IntKind.i64.wrap ((((lL : Nat) : Int) : Int) - (1 : Int))) < (lL : Nat) ∧ someK l (fun a3 => stCells ((a3.add (Int.toNat (IntKind.i64.wrap ((((lL : Nat) : Int) : Int) - (1 : Int))) * 6)).add 2) (fun (w3 : World) => R (.returned (.slice l lL lC)) w3) 0 [(.string (S (v4 ++ v5)))] w2.drew))) (xJ w2)) ∧ ∀ (_us2 : Nat → Value) (w4 : World), (xJ w4) → ∃ vKind : Int, ∃ vQuoted : Bool, ∃ vText : List UInt8, ∃ vName : List UInt8, ∃ vOp : List UInt8, ∃ (vWord : Option Addr) (vWordL vWordC : Nat), w4.cell? (Addr.mk gx 0 none) = some (.int .i64 vKind) ∧ w4.cell? (Addr.mk gx 1 none) = some (.bool vQuoted) ∧ w4.cell? (Addr.mk gx 2 none) = some (.string (S vText)) ∧ w4.cell? (Addr.mk gx 3 none) = some (.string (S vName)) ∧ w4.cell? (Addr.mk gx 4 none) = some (.string (S vOp)) ∧ w4.cell? (Addr.mk gx 5 none) = some (.slice vWord vWordL vWordC) ∧ letW (w4.alloc (.cells #[(.int .i64 vKind), (.bool vQuoted), (.string (S vText)), (.string (S vName)), (.string (S vOp)), (.slice vWord vWordL vWordC)] 56)) (fun (w5 : World) => appK w5 56 6 88 l lL lC (some (Addr.mk w4.heap.size 0 none)) 1 (fun (p : Option Addr) (cp : Nat) (w6 : World) => R (.returned (.slice p (lL + 1) cp)) w6))
theorem addBody_spec {w1 : World} {gx B : Nat} {l : List Pt} {p : Option Addr} {c : Nat} {x : Pt} {wp : Option Addr} {wc : Nat} {R : Ending → World → Prop} (r1 : Row w1 gx 56 ⟨pcell x (.slice wp x.w.length wc)⟩) (ho : OutAt w1 B l (.slice p l.length c)) (hB : B ≤ w1.heap.size)
    (hw : SlAt w1 (fun k => B ≤ k ∧ k < w1.heap.size ∧ (Value.slice p l.length c).ownBlock ≠ some k) x.w (.slice wp x.w.length wc)) (hl : wtL l + x.wt < 1000000000)
    (hR : ∀ v' w', OutAt w' B (addP l x) v' → Mod (fun k => (Value.slice p l.length c).ownBlock = some k) w1 w' → (∀ k, v'.ownBlock = some k → (Value.slice p l.length c).ownBlock = some k ∨ w1.heap.size ≤ k) → R (.returned v') w') : AddBody gx w1 p l.length c R := by
  obtain ⟨p', c', xs, hv, hown, hcs⟩ := ho
  injection hv with hv1 _ hv2
  subst hv1 hv2
  have hwl := wtL_len l
  obtain ⟨f0, f1, f2, f3, f4, f5⟩ := box_fields (x := x) r1
  have sd : Still w1 w1.drew := drew_still w1
  -- what stands behind is put in a new place
  have push : (∀ y ∈ l.getLast?, ¬ Mg y x) → ∀ w4 : World, w4 = w1.drew →
      letW (w4.alloc (.cells ⟨pcell x (.slice wp x.w.length wc)⟩ 56)) (fun w5 => appK w5 56 6 88 p l.length c (some (Addr.mk w4.heap.size 0 none)) 1 (fun p' cp w6 => R (.returned (.slice p' (l.length + 1) cp)) w6)) := by
    rintro hno _ rfl
    have hadd : addP l x = l ++ [x] := by
      by_cases hl : l = []
      · subst hl; rfl
      · obtain ⟨m, y, rfl⟩ := snoc_of hl
        rw [addP_snoc, if_neg (show ¬ (x.k = 0 ∧ y.k = 0 ∧ y.q = x.q) from hno y (by simp))]
    refine allocK fun w5 r5 s5 z5 => ?_
    have s05 := sd.trans s5
    refine appK_push (hown.still s05) (by have := s05.size; omega) (pcell x (.slice wp x.w.length wc)) rfl (pcell_one rfl) (fun _ => ⟨_, rfl, fun j u hu => ?_⟩) (by omega) (by omega) fun p' c' w6 ho6 hm6 hbk => ?_
    · rw [add_row, Nat.zero_add]
      exact r5.lget hu
    · have hm06 : Mod (fun k => (Value.slice p l.length c).ownBlock = some k) w1 w6 := Mod.trans s05 hm6 (fun _ h => h.elim) (fun _ _ h => h)
      have hz5 : w1.heap.size ≤ w5.heap.size := s05.size
      have hown' : ∀ k, (Value.slice p' (l.length + 1) c').ownBlock = some k → (Value.slice p l.length c).ownBlock = some k ∨ w5.heap.size ≤ k := by
        intro k hk
        rcases hbk.own (n := l.length) with e | e
        · exact .inl (by rw [← e]; exact hk)
        · rw [hk] at e
          obtain rfl := Option.some.inj e
          exact .inr (Nat.le_refl _)
      refine hR _ _ ?_ hm06 fun k hk => (hown' k hk).imp_right fun h => by omega
      rw [hadd]
      refine ⟨p', c', _, by rw [List.length_append]; rfl, by rw [List.length_append]; exact ho6, ?_⟩
      have tr : ∀ {y : List Pt} {u : Value}, SlAt w1 (fun k => B ≤ k ∧ k < w1.heap.size ∧ (Value.slice p l.length c).ownBlock ≠ some k) y u → SlAt w6 (fun k => B ≤ k ∧ k < w6.heap.size ∧ (Value.slice p' (l.length + 1) c').ownBlock ≠ some k) y u := by
        intro y u h
        refine (h.mod hm06 fun k hk => hk.2.2).mono fun k hk => ⟨hk.1, Nat.lt_of_lt_of_le hk.2.1 hm06.size, fun e => ?_⟩
        rcases hown' k e with e | e
        · exact hk.2.2 e
        · omega
      exact (hcs.turn tr).snoc (tr hw)
  by_cases hl0 : l = []
  · subst hl0
    have e1 : IntKind.i64.wrap ((((([] : List Pt).length : Nat) : Int) : Int) - 1) = -1 := by decide
    unfold AddBody
    rw [e1]
    refine ⟨fun w4 => w4 = w1.drew, ⟨fun b w2 => b = false ∧ w2 = w1.drew, bsel_of (fun h => absurd h (by decide)) (fun _ => ⟨rfl, rfl⟩), ?_⟩, ?_⟩
    · rintro _ _ w2 ⟨rfl, rfl⟩
      exact rfl
    · rintro _ _ rfl
      obtain ⟨f0, f1, f2, f3, f4, f5⟩ := box_fields (x := x) (r1.still (drew_still w1))
      exact ⟨_, _, _, _, _, _, _, _, f0, f1, f2, f3, f4, f5, push (by simp) _ rfl⟩
  · obtain ⟨m, y, rfl⟩ := snoc_of hl0
    have hlen : (m ++ [y]).length = m.length + 1 := by simp
    obtain ⟨ys, vy, hxs, hcm, hvy⟩ := hcs.last
    have hyl : ys.length = m.length * 6 := hcm.len
    obtain ⟨g, cap, he, hgB, hgl, hcap, hcell⟩ := hown.ownAddr (by omega)
    injection he with e1 e2 e3
    subst e1 e3
    have e1 : IntKind.i64.wrap ((((m ++ [y]).length : Nat) : Int) - 1) = (m.length : Int) := by rw [hlen, wrap_i64 (by omega) (by omega)]; omega
    have ycell : ∀ (w' : World), Still w1 w' → ∀ j u, (pcell y vy)[j]? = some u → w'.cell? (((Addr.mk g 0 none).add (m.length * 6)).add j) = some u := by
      intro w' hs j u hu
      rw [adds, add_row, Nat.zero_add]
      refine hs.cell (hcell _ _ ?_)
      rw [hxs, List.getElem?_append_right (by rw [hyl]; omega), hyl, Nat.add_sub_cancel_left]
      exact hu
    have a0 : ∀ a : Addr, a.add 0 = a := by intro a; unfold Addr.add; simp
    have y0 := ycell w1 (Still.refl _) 0 _ rfl
    rw [a0] at y0
    unfold AddBody
    rw [e1]
    refine ⟨fun w4 => w4 = w1.drew ∧ ¬ Mg y x, ⟨fun b w2 => (b = true ↔ Mg y x) ∧ w2 = w1.drew, bsel_of (fun _ => ⟨x.k, f0, bsel_of (fun hk => ?_) (fun hk => ⟨?_, rfl⟩)⟩) (fun h => absurd (of_decide_eq_false h) (by omega)), ?_⟩, ?_⟩
    · have hk : x.k = 0 := of_decide_eq_true hk
      refine ⟨by omega, by omega, y.k, by rw [Int.toNat_natCast]; exact y0, bsel_of (fun hy => ?_) (fun hy => ⟨?_, rfl⟩)⟩
      · have hy : y.k = 0 := of_decide_eq_true hy
        refine ⟨by omega, by omega, y.q, by rw [Int.toNat_natCast]; exact ycell w1 (Still.refl _) 1 _ rfl, x.q, f1, ?_, rfl⟩
        rw [decide_eq_true_eq]
        exact ⟨fun e => ⟨hk, hy, e⟩, fun e => e.2.2⟩
      · have hy : ¬ y.k = 0 := of_decide_eq_false hy
        exact ⟨fun e => (by cases e), fun e => absurd e.2.1 hy⟩
    · have hk : ¬ x.k = 0 := of_decide_eq_false hk
      exact ⟨fun e => (by cases e), fun e => absurd e.1 hk⟩
    · rintro b _ w2 ⟨hb, rfl⟩
      refine bsel_of (fun h => ?_) (fun h => ?_)
      · have hm := hb.1 h
        have f2' := (r1.still ((drew_still w1).trans (drew_still w1.drew))).lget (i := 2) rfl
        have hty := wtL_append m [y]
        rw [wtL_one, y.wt_eq] at hty
        have hx2 := x.wt_eq
        refine ⟨fun wq => wq = w1.drew.drew, rfl, by omega, by omega, y.t, ?_, x.t, ?_, by omega, by omega, by omega, ?_⟩
        · rintro wq rfl
          rw [Int.toNat_natCast]
          exact ycell _ (sd.trans (drew_still w1.drew)) 2 _ rfl
        · rintro wq rfl
          exact f2'
        · rw [Int.toNat_natCast, someK_some, adds]
          have so : Still w1 w1.drew.drew := sd.toDrew
          refine Owns.store (hown.still so) (by omega) rfl fun w' ho' hm' hz' => hR _ _ ?_ ?_ fun k hk => .inl hk
          · rw [addP_snoc, if_pos (show x.k = 0 ∧ y.k = 0 ∧ y.q = x.q from hm)]
            have hset : xs.set (m.length * 6 + 2) (.string (S (y.t ++ x.t))) = ys ++ pcell (.mk y.k y.q (y.t ++ x.t) y.n y.o y.w) vy := by
              rw [hxs, List.set_append_right _ _ (by rw [hyl]; omega), hyl, Nat.add_sub_cancel_left]
              rfl
            rw [hset] at ho'
            have hmo : Mod (fun k => k = g) w1 w' := Mod.trans so hm' (fun _ h => h.elim) (fun _ _ h => h)
            have tr : ∀ {z : List Pt} {u : Value}, SlAt w1 (fun k => B ≤ k ∧ k < w1.heap.size ∧ (Value.slice (some ⟨g, 0, none⟩) (m ++ [y]).length c).ownBlock ≠ some k) z u → SlAt w' (fun k => B ≤ k ∧ k < w'.heap.size ∧ (Value.slice (some ⟨g, 0, none⟩) (m ++ [y]).length c).ownBlock ≠ some k) z u := by
              intro z u h
              refine (h.mod hmo fun k hk e => hk.2.2 (by rw [e]; simp [Value.ownBlock])).mono fun k hk => ⟨hk.1, Nat.lt_of_lt_of_le hk.2.1 hmo.size, hk.2.2⟩
            have hlen2 : (m ++ [Pt.mk y.k y.q (y.t ++ x.t) y.n y.o y.w]).length = (m ++ [y]).length := by simp
            exact ⟨some ⟨g, 0, none⟩, c, _, by rw [hlen2], by rw [hlen2]; exact ho', (hcm.turn tr).snoc (tr hvy)⟩
          · exact Mod.trans so hm' (fun _ h => h.elim) (fun k _ e => by rw [e]; simp [Value.ownBlock])
      · exact ⟨rfl, fun hm => by rw [hb.2 hm] at h; cases h⟩
    · rintro _ _ ⟨rfl, hno⟩
      obtain ⟨f0, f1, f2, f3, f4, f5⟩ := box_fields (x := x) (r1.still (drew_still w1))
      exact ⟨_, _, _, _, _, _, _, _, f0, f1, f2, f3, f4, f5, push (by simpa using hno) _ rfl⟩
theorem add_spec {B : Nat} {l : List Pt} {v : Value} {x : Pt} {vw : Value} (ho : OutAt w B l v) (hB : B ≤ w.heap.size) (hw : SlAt w (fun k => B ≤ k ∧ k < w.heap.size ∧ v.ownBlock ≠ some k) x.w vw) (hl : wtL l + x.wt < 1000000000) :
    Calls Tryd.prog fn_word_add #[v, pagg x vw] w (fun e w' => ∃ v', e = .returned v' ∧ OutAt w' B (addP l x) v' ∧ Mod (fun k => v.ownBlock = some k) w w' ∧ ∀ k, v'.ownBlock = some k → v.ownBlock = some k ∨ w.heap.size ≤ k) := by
  have ho' := ho
  obtain ⟨p, c, xs, rfl, hown, hcs⟩ := ho
  obtain ⟨wp, wc, rfl⟩ := hw.form
  refine word_add_calls _ _ _ _ _ _ _ _ _ _ _ _ _ ?_
  refine allocK fun w1 r1 s1 z1 => ?_
  have key : AddBody w.heap.size w1 p l.length c (fun e w' => ∃ v', e = .returned v' ∧ OutAt w' B (addP l x) v' ∧ Mod (fun k => (Value.slice p l.length c).ownBlock = some k) w w' ∧ ∀ k, v'.ownBlock = some k → (Value.slice p l.length c).ownBlock = some k ∨ w.heap.size ≤ k) :=
    addBody_spec (x := x) r1 (ho'.still s1) (by omega) ((hw.still s1).mono fun k hk => ⟨hk.1, by omega, hk.2.2⟩) hl fun v' w' h1 h2 h3 => ⟨v', rfl, h1, Mod.trans s1 h2 (fun _ h => h.elim) (fun _ _ h => h), fun k hk => (h3 k hk).imp_right fun h => by omega⟩
  exact key
end Go.Proofs.YtcoeiiihmpnagaaDoor
namespace Go.Proofs.YtcoeiiihmpnagaaDoor
open Go.RowKit Vc
variable {w : World}

theorem SlAt.fields {F : Nat → Prop} {l : List Pt} {p : Option Addr} {n c : Nat} (h : SlAt w F l (.slice p n c)) {i : Nat} (hi : i < l.length) : ∃ b wp wc, p = some b ∧ w.cell? (b.add (i * 6)) = some (.int .i64 l[i].k) ∧ w.cell? ((b.add (i * 6)).add 1) = some (.bool l[i].q) ∧ w.cell? ((b.add (i * 6)).add 2) = some (.string (S l[i].t)) ∧ w.cell? ((b.add (i * 6)).add 3) = some (.string (S l[i].n)) ∧ w.cell? ((b.add (i * 6)).add 4) = some (.string (S l[i].o)) ∧
    w.cell? ((b.add (i * 6)).add 5) = some (.slice wp l[i].w.length wc) ∧ SlAt w F l[i].w (.slice wp l[i].w.length wc) := by
  obtain ⟨b, v, rfl, _, hc, hs⟩ := h.get (List.getElem?_eq_getElem hi)
  obtain ⟨wp, wc, rfl⟩ := hs.form
  have a0 : (b.add (i * 6)).add 0 = b.add (i * 6) := by unfold Addr.add; simp
  refine ⟨b, wp, wc, rfl, ?_, hc 1 _ rfl, hc 2 _ rfl, hc 3 _ rfl, hc 4 _ rfl, hc 5 _ rfl, hs⟩
  have := hc 0 _ rfl
  rwa [a0] at this
theorem take_one {α : Type} {l : List α} {k : Nat} (h : k < l.length) : l.take (k + 1) = l.take k ++ [l[k]] := by rw [List.take_add_one, List.getElem?_eq_getElem h]; rfl
theorem wt_take {l : List Pt} {k : Nat} (h : k < l.length) : wtL (l.take k) + l[k].wt ≤ wtL l := by
  have e : l = l.take k ++ (l[k] :: l.drop (k + 1)) := by rw [← List.drop_eq_getElem_cons h, List.take_append_drop]
  have h2 := wtL_append (l.take k) (l[k] :: l.drop (k + 1))
  rw [← e] at h2
  simp only [wtL] at h2
  omega
theorem hasL_app : ∀ a b : List Pt, hasL (a ++ b) = (hasL a || hasL b)
  | [], _ => rfl
  | p :: a, b => by simp only [List.cons_append, hasL, hasL_app a b, Bool.or_assoc]
theorem hasL_cut {l : List Pt} {k : Nat} (h : k < l.length) (hk : hasL (l.take k) = false) : (l[k].k = 2 → hasL l = true) ∧ (hasL l[k].w = true → hasL l = true) ∧ (l[k].k ≠ 2 → hasL l[k].w = false → hasL (l.take (k + 1)) = false) := by
  have hp : l[k].has = (decide (l[k].k = 2) || hasL l[k].w) := by
    generalize l[k] = p
    cases p
    rfl
  have mem : l[k].has = true → hasL l = true := fun h2 => hasL_mem.2 ⟨_, List.getElem_mem h, h2⟩
  refine ⟨fun h2 => mem (by rw [hp, h2]; rfl), fun h2 => mem (by rw [hp, h2, Bool.or_true]), fun h2 h3 => ?_⟩
  rw [take_one h, hasL_app, hk]
  simp only [hasL, hp, h3, decide_eq_false h2]
  rfl
theorem word_of {l : List Pt} {k : Nat} (h : k < l.length) : SizeOf.sizeOf l[k].w < SizeOf.sizeOf l := mem_size (List.getElem_mem h)
theorem wt_word {l : List Pt} {k : Nat} (h : k < l.length) : wtL l[k].w ≤ wtL l := by
  have h1 := wtL_mem (List.getElem_mem h)
  have h2 := l[k].wt_eq
  omega
theorem one6 {x : Pt} {wp : Option Addr} {n wc : Nat} : ∀ v ∈ [Value.int .i64 x.k, .bool x.q, .string (S x.t), .string (S x.n), .string (S x.o), .slice wp n wc], v.oneCell' = true := by simp [Value.oneCell']
theorem has_of : ∀ (n : Nat) (l : List Pt), SizeOf.sizeOf l < n → wtL l < 500000000 → ∀ (w : World) (F : Nat → Prop) (v : Value), SlAt w F l v → Calls Tryd.prog fn_word_has #[v] w (fun e w' => e = .returned (.bool (hasL l)) ∧ Still w w') := by
  intro n
  induction n with
  | zero => intro l h; omega
  | succ n ih =>
    intro l hn hl w F v hv
    obtain ⟨p, c, rfl⟩ := hv.form
    have hwl := wtL_len l
    refine word_has_calls _ _ _ _ _ ?_
    refine ⟨fun x w1 => ∃ k : Nat, x = (k : Int) ∧ k ≤ l.length ∧ hasL (l.take k) = false ∧ Still w w1, fun x _ => l.length - x.toNat, ⟨0, rfl, Nat.zero_le _, rfl, Still.refl _⟩, ?_⟩
    rintro _ _ w1 ⟨k, rfl, hk, hh, hs1⟩
    refine bsel_of (fun hx => ?_) (fun hx => ?_)
    rotate_left
    · have hx : k = l.length := by have := of_decide_eq_false hx; omega
      rw [hx, List.take_length] at hh
      rw [hh]
      exact ⟨rfl, hs1⟩
    have hx : k < l.length := by have := of_decide_eq_true hx; omega
    obtain ⟨b, wp, wc, rfl, c0, c1, c2, c3, c4, c5, hsw⟩ := (hv.still hs1).fields hx
    obtain ⟨h2, h3, h4⟩ := hasL_cut hx hh
    rw [Int.toNat_natCast]
    refine ⟨by omega, by omega, _, _, _, _, _, _, _, _, c0, c1, c2, c3, c4, c5, boxK rfl one6 fun w3 r3 s3 z3 => ⟨_, r3.lget rfl, bsel_of (fun hk2 => ?_) (fun hk2 => ?_)⟩⟩
    · rw [h2 (of_decide_eq_true hk2)]
      exact ⟨rfl, hs1.trans s3⟩
    · refine ⟨_, _, _, r3.lget rfl, (ih _ (by have := word_of hx; omega) (by have := wt_word hx; omega) w3 F _ (hsw.still s3)).mono ?_⟩
      rintro _ w4 ⟨rfl, s4⟩
      refine .inl ⟨_, rfl, bsel_of (fun hb => ?_) (fun hb => ?_)⟩
      · rw [h3 hb]
        exact ⟨rfl, (hs1.trans s3).trans s4⟩
      · rw [show IntKind.i64.wrap ((k : Int) + 1) = ((k + 1 : Nat) : Int) by rw [wrap_i64 (by omega) (by omega)]; omega]
        exact ⟨⟨k + 1, rfl, hx, h4 (of_decide_eq_false hk2) hb, (hs1.trans s3).trans s4⟩, by dsimp only; omega⟩
theorem has_spec {F : Nat → Prop} {l : List Pt} {v : Value} (hv : SlAt w F l v) (hl : wtL l < 500000000) : Calls Tryd.prog fn_word_has #[v] w (fun e w' => e = .returned (.bool (hasL l)) ∧ Still w w') := has_of _ l (Nat.lt_succ_self _) hl w F v hv

/-! ### Parts that are all quoted -/
theorem qdL_step {l : List Pt} {k : Nat} (h : k < l.length) : qdL [] (l.take (k + 1)) = addP (qdL [] (l.take k)) l[k].qd := by
  rw [qdL_fold, qdL_fold, take_one h, List.map_append, List.foldl_append]
  rfl
theorem qd_shape (x : Pt) : x.qd = .mk x.k true x.t x.n x.o (qdL [] x.w) := by cases x; rfl
theorem OutAt.ownLt {B : Nat} {l : List Pt} {v : Value} (h : OutAt w B l v) {k : Nat} (hk : v.ownBlock = some k) : B ≤ k ∧ k < w.heap.size := by
  obtain ⟨p, c, xs, rfl, ho, _⟩ := h
  exact ho.lt k hk
theorem quoted_of : ∀ (n : Nat) (l : List Pt), SizeOf.sizeOf l < n → wtL l < 500000000 → ∀ (w : World) (F : Nat → Prop) (v : Value), SlAt w F l v →
    Calls Tryd.prog fn_word_quoted #[v] w (fun e w' => ∃ v', e = .returned v' ∧ SlAt w' (fun k => w.heap.size ≤ k ∧ k < w'.heap.size) (qdL [] l) v' ∧ Still w w') := by
  intro n
  induction n with
  | zero => intro l h; omega
  | succ n ih =>
    intro l hn hl w F v hv
    obtain ⟨p, c, rfl⟩ := hv.form
    have hwl := wtL_len l
    refine word_quoted_calls _ _ _ _ _ ?_
    refine ⟨fun out outL outC x w1 => ∃ k : Nat, x = (k : Int) ∧ k ≤ l.length ∧ OutAt w1 w.heap.size (qdL [] (l.take k)) (.slice out outL outC) ∧ Still w w1, fun _ _ _ x _ => l.length - x.toNat, ⟨0, rfl, Nat.zero_le _, OutAt.nil _ _, Still.refl _⟩, ?_⟩
    rintro out outL outC _ _ w1 ⟨k, rfl, hk, ho, hs1⟩
    refine bsel_of (fun hx => ?_) (fun hx => ?_)
    rotate_left
    · have hx : k = l.length := by have := of_decide_eq_false hx; omega
      rw [hx, List.take_length] at ho
      exact ⟨_, rfl, ho.sl, hs1⟩
    have hx : k < l.length := by have := of_decide_eq_true hx; omega
    obtain ⟨b, wp, wc, rfl, c0, c1, c2, c3, c4, c5, hsw⟩ := (hv.still hs1).fields hx
    rw [Int.toNat_natCast]
    refine ⟨by omega, by omega, _, _, _, _, _, _, _, _, c0, c1, c2, c3, c4, c5, boxK rfl one6 fun w3 r3 s3 z3 => ⟨_, _, _, r3.lget rfl, (ih _ (by have := word_of hx; omega) (by have := wt_word hx; omega) w3 F _ (hsw.still s3)).mono ?_⟩⟩
    rintro _ w4 ⟨v4, rfl, hs4, s4⟩
    obtain ⟨rp, rc, rfl⟩ := hs4.form
    refine .inl ⟨_, _, _, rfl, ?_⟩
    have r4 := r3.still s4
    refine stK r4 (by simp) (by simp [Value.oneCell']) fun w5 r5 m5 z5 => stK r5 (by simp [ovw]) (by simp [Value.oneCell']) fun w6 r6 m6 z6 => ?_
    have hsz := s3.size
    have hsz4 := s4.size
    have m16 : Still w1 w6 := Mod.trans (Mod.trans (s3.trans s4) m5 (U := fun k => k = w1.heap.size) (fun _ h => h.elim) (fun _ _ h => h)) m6 (U := fun k => k = w1.heap.size) (fun _ h => h) (fun _ _ h => h) |>.block |> fun hb => ⟨m6.os.trans (m5.os.trans (s3.trans s4).os), m6.tape.trans (m5.tape.trans (s3.trans s4).tape), m6.output.trans (m5.output.trans (s3.trans s4).output), by have := m6.size; have := m5.size; omega, fun i hi _ => hb i hi (by omega)⟩
    have m46 : Mod (fun k => k = w1.heap.size) w4 w6 := Mod.trans m5 m6 (fun _ h => h) (fun _ _ h => h)
    have ho6 := ho.still m16
    have hq6 : SlAt w6 (fun k => w.heap.size ≤ k ∧ k < w6.heap.size ∧ (Value.slice out outL outC).ownBlock ≠ some k) (qdL [] l[k].w) (.slice rp (qdL [] l[k].w).length rc) :=
      (hs4.mod m46 (fun j hj e => by have := hj.1; omega)).mono fun j hj => ⟨by have := hj.1; have := hs1.size; omega, by have := hj.2; have := m46.size; omega, fun e => by have := (ho.ownLt e).2; have := hj.1; omega⟩
    have hwk := wt_take hx
    have hq1 := wt_qdL (l.take k) []
    have hq2 := l[k].wt_qd
    simp only [wtL] at hq1
    have hadd := add_spec (x := l[k].qd) ho6 (by have := hs1.size; have := m16.size; omega) (by rw [qd_shape]; exact hq6) (by omega)
    rw [qd_shape] at hadd
    refine ⟨_, _, _, _, _, _, _, _, r6.lget rfl, r6.lget rfl, r6.lget rfl, r6.lget rfl, r6.lget rfl, r6.lget rfl, hadd.mono ?_⟩
    rintro _ w7 ⟨v7, rfl, ho7, m7, _⟩
    rw [← qd_shape, ← qdL_step hx] at ho7
    obtain ⟨p7, c7, xs7, rfl, hown7, hcs7⟩ := ho7
    have s17 : Still w w7 := Mod.trans (hs1.trans m16) m7 (fun _ h => h) fun j hj e => by have := (ho.ownLt e).1; omega
    rw [show IntKind.i64.wrap ((k : Int) + 1) = ((k + 1 : Nat) : Int) by rw [wrap_i64 (by omega) (by omega)]; omega]
    exact .inl ⟨_, _, _, rfl, ⟨k + 1, rfl, hx, ⟨p7, c7, xs7, rfl, hown7, hcs7⟩, s17⟩, by dsimp only; omega⟩
theorem quoted_spec {F : Nat → Prop} {l : List Pt} {v : Value} (hv : SlAt w F l v) (hl : wtL l < 500000000) : Calls Tryd.prog fn_word_quoted #[v] w (fun e w' => ∃ v', e = .returned v' ∧ SlAt w' (fun k => w.heap.size ≤ k ∧ k < w'.heap.size) (qdL [] l) v' ∧ Still w w') := quoted_of _ l (Nat.lt_succ_self _) hl w F v hv
end Go.Proofs.YtcoeiiihmpnagaaDoor
namespace Go.Proofs.YtcoeiiihmpnagaaDoor
open Go.RowKit Vc
variable {w : World}

abbrev PRow (w : World) (g : Nat) (s : Txt) (v : Value) (q : Bool) (d : Int) : Prop := Row w g 92 ⟨[.string (S s), v, .bool q, .int .i64 d]⟩
/-- The parser's text, and its parts so far. -/
def PS (w : World) (g B : Nat) (s : Txt) (l : List Pt) (q : Bool) (d : Int) : Prop := ∃ v, PRow w g s v q d ∧ OutAt w B l v
/-- Only the parser, and what is its own, has turned. -/
abbrev MP (g B : Nat) (w w' : World) : Prop := Mod (fun k => k = g ∨ B ≤ k) w w'
theorem MP.trans {g B : Nat} {a b c : World} (h : MP g B a b) (k : MP g B b c) : MP g B a c := Mod.trans h k (fun _ h => h) (fun _ _ h => h)
theorem Still.mp {g B : Nat} {a b : World} (h : Still a b) : MP g B a b := h.weaken fun _ h => h.elim
theorem MP.still {g B : Nat} {a b c : World} (h : MP g B a b) (k : Still b c) : MP g B a c := MP.trans h k.mp
theorem PRow.text {g : Nat} {s : Txt} {v : Value} {q : Bool} {d : Int} (h : PRow w g s v q d) : w.cell? ⟨g, 0, none⟩ = some (.string (S s)) := h.lget rfl
theorem PRow.quoted {g : Nat} {s : Txt} {v : Value} {q : Bool} {d : Int} (h : PRow w g s v q d) : w.cell? ⟨g, 2, none⟩ = some (.bool q) := h.lget rfl
theorem PRow.depth {g : Nat} {s : Txt} {v : Value} {q : Bool} {d : Int} (h : PRow w g s v q d) : w.cell? ⟨g, 3, none⟩ = some (.int .i64 d) := h.lget rfl
def setq (x : Pt) (b : Bool) : Pt := .mk x.k (x.q || b) x.t x.n x.o x.w
theorem setq_wt (x : Pt) (b : Bool) : (setq x b).wt = x.wt := by
  rw [Pt.wt_eq, Pt.wt_eq]
  rfl
theorem PS.still {w' : World} {g B : Nat} {s : Txt} {l : List Pt} {q : Bool} {d : Int} (h : PS w g B s l q d) (hs : Still w w') : PS w' g B s l q d := by
  obtain ⟨v, h1, h2⟩ := h
  exact ⟨v, h1.still hs, h2.still hs⟩
theorem put_spec {g B n : Nat} {s : Txt} {l : List Pt} {v vw : Value} {q : Bool} {d : Int} {x : Pt} (hr : PRow w g s v q d) (ho : OutAt w B l v) (hg : g < B) (hB : B ≤ w.heap.size) (hw : SlAt w (fun k => B ≤ k ∧ k < w.heap.size ∧ v.ownBlock ≠ some k) x.w vw) (hn : n ≤ s.length) (hl : wtL l + x.wt < 1000000000) :
    Calls Tryd.prog fn_word_parser_put #[.pointer (some ⟨g, 0, none⟩), pagg x vw, .int .i64 (n : Int)] w (fun e w' => e = .returned (.tuple #[]) ∧ PS w' g B (s.drop n) (addP l (setq x q)) q d ∧ MP g B w w') := by
  obtain ⟨wp, wc, rfl⟩ := hw.form
  refine word_parser_put_calls _ _ _ _ _ _ _ _ _ _ _ _ ?_
  refine allocK fun w1 r1 s1 z1 => ?_
  have f1 := (box_fields (x := x) r1).2.1
  have hr1 : PRow w1 g s v q d := hr.still s1
  refine ⟨fun w4 => Row w4 w.heap.size 56 ⟨pcell (setq x q) (.slice wp x.w.length wc)⟩ ∧ Still w w4, ⟨_, f1, bsel_of (fun h => ?_) (fun h => ?_)⟩, ?_⟩
  · refine stK r1 (by simp) (by simp [Value.oneCell']) fun w2 r2 m2 z2 => ⟨?_, s1.box (Nat.le_refl _) m2⟩
    have e : pcell (setq x q) (.slice wp x.w.length wc) = ovw (pcell x (.slice wp x.w.length wc)) 1 [.bool true] := by
      rw [show setq x q = .mk x.k true x.t x.n x.o x.w by rw [setq, h, Bool.true_or]]
      rfl
    rw [e]
    exact r2
  · refine ⟨_, by rw [add_row]; exact hr1.quoted, stK r1 (by simp) (by simp [Value.oneCell']) fun w2 r2 m2 z2 => ⟨?_, s1.box (Nat.le_refl _) m2⟩⟩
    have e : pcell (setq x q) (.slice wp x.w.length wc) = ovw (pcell x (.slice wp x.w.length wc)) 1 [.bool q] := by
      rw [show setq x q = .mk x.k q x.t x.n x.o x.w by rw [setq, h, Bool.false_or]]
      rfl
    rw [e]
    exact r2
  rintro _ w4 ⟨r4, s4⟩
  have sd : Still w w4.drew := s4.toDrew
  have hrd := hr.still sd
  have hod := ho.still sd
  obtain ⟨p, c, xs, hv, hown, hcs⟩ := hod
  subst hv
  have hod : OutAt w4.drew B l (.slice p l.length c) := ⟨p, c, xs, rfl, hown, hcs⟩
  have rd : Row w4.drew w.heap.size 56 ⟨pcell (setq x q) (.slice wp x.w.length wc)⟩ := r4.still (drew_still w4)
  refine ⟨fun wq => wq = w4.drew, rfl, p, l.length, c, ?_, (setq x q).k, (setq x q).q, (setq x q).t, (setq x q).n, (setq x q).o, wp, x.w.length, wc, ?_, ?_, ?_, ?_, ?_, ?_, ?_⟩
  · rintro _ rfl
    rw [add_row]
    exact hrd.lget rfl
  · rintro _ rfl; exact rd.lget rfl
  · rintro _ rfl; exact rd.lget rfl
  · rintro _ rfl; exact rd.lget rfl
  · rintro _ rfl; exact rd.lget rfl
  · rintro _ rfl; exact rd.lget rfl
  · rintro _ rfl; exact rd.lget rfl
  have hzd := sd.size
  refine (add_spec (x := setq x q) hod (by omega) ((hw.still sd).mono fun k hk => ⟨hk.1, by omega, hk.2.2⟩) (by rw [setq_wt]; exact hl)).mono ?_
  rintro _ w5 ⟨v5, rfl, ho5, m5, own5⟩
  obtain ⟨p5, c5, xs5, rfl, hown5, hcs5⟩ := ho5
  have hr5 : PRow w5 g s (.slice p l.length c) q d := hrd.mod m5 fun e => by have := (hod.ownLt e).1; omega
  refine .inl ⟨_, _, _, rfl, ?_⟩
  show stCells ((Addr.mk g 0 none).add 1) _ _ _ _
  rw [add_row]
  refine stK hr5 (by simp) (by simp [Value.oneCell']) fun w6 r6 m6 z6 => ?_
  refine ⟨s, r6.lget rfl, by omega, by omega, ?_⟩
  rw [Int.toNat_natCast]
  refine stK r6 (by simp [ovw]) (by simp [Value.oneCell']) fun w7 r7 m7 z7 => ⟨rfl, ⟨_, r7, ?_⟩, ?_⟩
  · have ho5 : OutAt w5 B (addP l (setq x q)) (.slice p5 (addP l (setq x q)).length c5) := ⟨p5, c5, xs5, rfl, hown5, hcs5⟩
    exact (ho5.mod m6 fun k hk _ e => by omega).mod m7 fun k hk _ e => by omega
  · have m5' : MP g B w4.drew w5 := m5.weaken fun k hk => .inr (hod.ownLt hk).1
    exact ((sd.mp.trans m5').trans (m6.weaken fun k hk => .inl hk)).trans (m7.weaken fun k hk => .inl hk)
end Go.Proofs.YtcoeiiihmpnagaaDoor
namespace Go.Proofs.YtcoeiiihmpnagaaDoor
open Go.RowKit Vc
variable {w : World}

/-- Two parts in boxes, compared. -/
def SameBody (gx gy : Nat) (w5 : World) (R : Ending → World → Prop) (K : World → Prop) : Prop :=
  ∃ v : Int, w5.cell? (Addr.mk gx 0 none) = some (.int .i64 v) ∧ ∃ v1 : Int, w5.cell? (Addr.mk gy 0 none) = some (.int .i64 v1) ∧ bsel (!decide (v = v1)) (R (.returned (.bool false)) w5) (∃ v2 : Bool, w5.cell? (Addr.mk gx 1 none) = some (.bool v2) ∧ ∃ v3 : Bool, w5.cell? (Addr.mk gy 1 none) = some (.bool v3) ∧ bsel (!(decide (v2 = v3))) (R (.returned (.bool false)) w5) (∃ v4 : List UInt8, w5.cell? (Addr.mk gx 2 none) = some (.string (S v4)) ∧ ∃ v5 : List UInt8, w5.cell? (Addr.mk gy 2 none) = some (.string (S v5)) ∧ bsel (!(decide (v4 = v5))) (R (.returned (.bool false)) w5) (∃ v6 : List UInt8, w5.cell? (Addr.mk gx 3 none) = some (.string (S v6)) ∧ ∃ v7 : List UInt8, w5.cell? (Addr.mk gy 3 none) = some (.string (S v7)) ∧ bsel (!(decide (v6 = v7))) (R (.returned (.bool false)) w5) (∃ v8 : List UInt8, w5.cell? (Addr.mk gx 4 none) = some (.string (S v8)) ∧ ∃ v9 : List UInt8, w5.cell? (Addr.mk gy 4 none) = some (.string (S v9)) ∧ bsel (!(decide (v8 = v9))) (R (.returned (.bool false)) w5) (∃ (v10 : Option Addr) (vL vC : Nat), w5.cell? (Addr.mk gx 5 none) = some (.slice v10 vL vC) ∧ ∃ (v11 : Option Addr) (vL1 vC1 : Nat), w5.cell? (Addr.mk gy 5 none) = some (.slice v11 vL1 vC1) ∧ Calls Tryd.prog fn_ref08_Same #[(.slice v10 vL vC), (.slice v11 vL1 vC1)] w5 (fun ed w6 => (∃ r : Bool, ed = .returned (.bool r) ∧ bsel (!r) (R (.returned (.bool false)) w6) (K w6)) ∨ (∃ ch, ed = .panicked ch ∧ R (.panicked ch) w6)))))))
theorem sameBody_spec {w5 : World} {gx gy : Nat} {x y : Pt} {xp yp : Option Addr} {xc yc : Nat} {R : Ending → World → Prop} {K : World → Prop} (rx : Row w5 gx 56 ⟨pcell x (.slice xp x.w.length xc)⟩) (ry : Row w5 gy 56 ⟨pcell y (.slice yp y.w.length yc)⟩)
    (ih : Calls Tryd.prog fn_ref08_Same #[.slice xp x.w.length xc, .slice yp y.w.length yc] w5 (fun e w' => (∃ b : Bool, e = .returned (.bool b) ∧ (b = true ↔ x.w = y.w)) ∧ Still w5 w'))
    (hno : x ≠ y → ∀ w', Still w5 w' → R (.returned (.bool false)) w') (hyes : x = y → ∀ w', Still w5 w' → K w') : SameBody gx gy w5 R K := by
  have ne : ∀ {α : Type} (f : Pt → α), f x ≠ f y → R (.returned (.bool false)) w5 := fun f h => hno (fun e => h (by rw [e])) _ (Still.refl _)
  refine ⟨_, rx.lget rfl, _, ry.lget rfl, bsel_of (fun h => ne Pt.k (nt h)) (fun h1 => ⟨_, rx.lget rfl, _, ry.lget rfl, bsel_of (fun h => ne Pt.q (nt h)) (fun h2 => ⟨_, rx.lget rfl, _, ry.lget rfl, bsel_of (fun h => ne Pt.t (nt h)) (fun h3 => ⟨_, rx.lget rfl, _, ry.lget rfl, bsel_of (fun h => ne Pt.n (nt h)) (fun h4 => ⟨_, rx.lget rfl, _, ry.lget rfl, bsel_of (fun h => ne Pt.o (nt h)) (fun h5 => ⟨_, _, _, rx.lget rfl, _, _, _, ry.lget rfl, ih.mono ?_⟩)⟩)⟩)⟩)⟩)⟩
  rintro _ w6 ⟨⟨b, rfl, hb⟩, s6⟩
  have h1 : x.k = y.k := nf h1
  have h2 : x.q = y.q := nf h2
  have h3 : x.t = y.t := nf h3
  have h4 : x.n = y.n := nf h4
  have h5 : x.o = y.o := nf h5
  refine .inl ⟨b, rfl, bsel_of (fun h => ?_) (fun h => ?_)⟩
  · have h : b = false := by simpa using h
    exact hno (fun e => by rw [e] at hb; rw [hb.2 rfl] at h; cases h) _ s6
  · have h : b = true := by simpa using h
    have hw := hb.1 h
    refine hyes ?_ _ s6
    cases x
    cases y
    simp only [Pt.k, Pt.q, Pt.t, Pt.n, Pt.o, Pt.w] at h1 h2 h3 h4 h5 hw
    rw [h1, h2, h3, h4, h5, hw]
theorem same_of : ∀ (n : Nat) (la : List Pt), SizeOf.sizeOf la < n → wtL la < 500000000 → ∀ (lb : List Pt) (w : World) (F G : Nat → Prop) (u v : Value), SlAt w F la u → SlAt w G lb v →
    Calls Tryd.prog fn_ref08_Same #[u, v] w (fun e w' => (∃ b : Bool, e = .returned (.bool b) ∧ (b = true ↔ la = lb)) ∧ Still w w') := by
  intro n
  induction n with
  | zero => intro l h; omega
  | succ n ih =>
    intro la hn hl lb w F G u v hu hv
    obtain ⟨pa, ca, rfl⟩ := hu.form
    obtain ⟨pb, cb, rfl⟩ := hv.form
    have hwl := wtL_len la
    refine ref08_Same_calls _ _ _ _ _ _ _ _ ?_
    refine bsel_of (fun hne => ?_) (fun he => ?_)
    · have hne : ¬ ((la.length : Int) = (lb.length : Int)) := nt hne
      refine ⟨⟨_, rfl, fun h => (by cases h), fun h => ?_⟩, Still.refl _⟩
      rw [h] at hne
      exact absurd rfl hne
    have he : (la.length : Int) = (lb.length : Int) := nf he
    have hlen : lb.length = la.length := by omega
    refine ⟨fun i w1 => ∃ k : Nat, i = (k : Int) ∧ k ≤ la.length ∧ la.take k = lb.take k ∧ Still w w1, fun i _ => la.length - i.toNat, ⟨0, rfl, Nat.zero_le _, rfl, Still.refl _⟩, ?_⟩
    rintro _ _ w1 ⟨k, rfl, hk, hp, hs1⟩
    refine bsel_of (fun hx => ?_) (fun hx => ?_)
    rotate_left
    · have hx : k = la.length := by have := of_decide_eq_false hx; omega
      rw [hx, List.take_length, List.take_of_length_le (by omega)] at hp
      exact ⟨⟨_, rfl, fun _ => hp, fun _ => rfl⟩, hs1⟩
    have hx : k < la.length := by have := of_decide_eq_true hx; omega
    have hy : k < lb.length := by omega
    obtain ⟨ba, xp, xc, rfl, a0, a1, a2, a3, a4, a5, hsx⟩ := (hu.still hs1).fields hx
    obtain ⟨bb, yp, yc, rfl, b0, b1, b2, b3, b4, b5, hsy⟩ := (hv.still hs1).fields hy
    rw [Int.toNat_natCast]
    have e1 : IntKind.i64.wrap ((k : Int) + 1) = ((k + 1 : Nat) : Int) := by rw [wrap_i64 (by omega) (by omega)]; omega
    have body : ∀ (gx gy : Nat) (w5 : World), Row w5 gx 56 ⟨pcell la[k] (.slice xp la[k].w.length xc)⟩ → Row w5 gy 56 ⟨pcell lb[k] (.slice yp lb[k].w.length yc)⟩ → Still w1 w5 →
        SameBody gx gy w5 (fun e w' => (∃ b : Bool, e = .returned (.bool b) ∧ (b = true ↔ la = lb)) ∧ Still w w') (fun w6 => (∃ k' : Nat, IntKind.i64.wrap ((k : Int) + 1) = (k' : Int) ∧ k' ≤ la.length ∧ la.take k' = lb.take k' ∧ Still w w6) ∧ la.length - (IntKind.i64.wrap ((k : Int) + 1)).toNat < la.length - ((k : Int)).toNat) := by
      intro gx gy w5 rx ry s5
      refine sameBody_spec rx ry (ih _ (by have := word_of hx; omega) (by have := wt_word hx; omega) _ w5 F G _ _ (hsx.still s5) (hsy.still s5)) (fun hne w' s' => ⟨⟨_, rfl, fun h => (by cases h), fun h => ?_⟩, (hs1.trans s5).trans s'⟩) (fun heq w' s' => ⟨⟨k + 1, e1, hx, ?_, (hs1.trans s5).trans s'⟩, by rw [e1]; omega⟩)
      · subst h
        exact absurd rfl hne
      · rw [take_one hx, take_one hy, hp, heq]
    have z0 : w1.drew.heap.size = w1.heap.size := rfl
    refine ⟨fun wq => Still w1 wq, drew_still w1, by omega, by omega, _, _, _, _, _, _, _, _, fun wq hq => hq.cell a0, fun wq hq => hq.cell a1, fun wq hq => hq.cell a2, fun wq hq => hq.cell a3, fun wq hq => hq.cell a4, fun wq hq => hq.cell a5, by omega, by omega, _, _, _, _, _, _, _, _, fun wq hq => hq.cell b0, fun wq hq => hq.cell b1, fun wq hq => hq.cell b2, fun wq hq => hq.cell b3, fun wq hq => hq.cell b4, fun wq hq => hq.cell b5, ?_, ?_⟩
    · refine allocK fun w2 r2 s2 z2 => ⟨(drew_still w1).trans s2, allocK fun w3 r3 s3 z3 => ⟨((drew_still w1).trans s2).trans s3, ?_⟩⟩
      have s13 := ((drew_still w1).trans s2).trans s3
      refine stK (r2.still s3) (by simp) one6 fun w4 r4 m4 z4 => ?_
      have s14 : Still w1 w4 := s13.box (by omega) m4
      refine ⟨s14, stK (r3.mod m4 (by omega)) (by simp) one6 fun w5 r5 m5 z5 => body _ _ w5 (r4.mod m5 (by omega)) r5 (s14.box (by omega) m5)⟩
    · refine allocK fun w2 r2 s2 z2 => ⟨(drew_still w1).trans s2, allocK fun w3 r3 s3 z3 => ⟨((drew_still w1).trans s2).trans s3, ?_⟩⟩
      have s13 := ((drew_still w1).trans s2).trans s3
      refine stK r3 (by simp) one6 fun w4 r4 m4 z4 => ?_
      have s14 : Still w1 w4 := s13.box (by omega) m4
      refine ⟨s14, stK ((r2.still s3).mod m4 (by omega)) (by simp) one6 fun w5 r5 m5 z5 => body _ _ w5 (r4.mod m5 (by omega)) r5 (s14.box (by omega) m5)⟩
theorem Same_spec {F G : Nat → Prop} {la lb : List Pt} {u v : Value} (hu : SlAt w F la u) (hv : SlAt w G lb v) (hl : wtL la < 500000000) :
    Calls Tryd.prog fn_ref08_Same #[u, v] w (fun e w' => (∃ b : Bool, e = .returned (.bool b) ∧ (b = true ↔ la = lb)) ∧ Still w w') := same_of _ la (Nat.lt_succ_self _) hl lb w F G u v hu hv
end Go.Proofs.YtcoeiiihmpnagaaDoor
