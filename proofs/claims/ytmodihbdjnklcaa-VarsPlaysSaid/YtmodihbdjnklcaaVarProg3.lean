/- Variables, the program's side: what is set, marked, unset, handed on. Conditions: as each theorem names them. -/
import Derived.Test.YtmodihbdjnklcaaVarProg2
namespace Go.Proofs.Ytmodihbdjnklcaa
open Go.RowKit Vc Go.Shelf
variable {w : World}

/-- What an act gives back. -/
def Gave (w : World) (r : List Vr × Int) (e : Ending) (w' : World) : Prop := ∃ q D, e = .returned (.tuple #[.slice q r.1.length D, .int .i64 r.2]) ∧ VarAt w' q r.1.length D r.1 ∧ Still w w'
section
variable {p : Option Addr} {n C : Nat} {l : List Vr}
theorem set_spec (h : VarAt w p n C l) (hs : Rising l) (hn : n < 900000) (s x : Txt) (hsl : s.length ≤ 9223372036854775807) : Calls Try.prog fn_vars_Set #[.slice p n C, .string (S s), .string (S x)] w (Gave w (setR l s x)) := by
  refine vars_Set_calls _ _ _ _ _ _ _ ?_
  have hb : Row (w.alloc (.cells #[(.string (S x))] 9)) w.heap.size 9 ⟨[.string (S x)]⟩ := Row.new _ _ _
  have hst : Still w (w.alloc (.cells #[(.string (S x))] 9)) := (Mod.refl _ _).alloc _
  have hsz : (w.alloc (.cells #[(.string (S x))] 9)).heap.size = w.heap.size + 1 := World.size_alloc ..
  have e : chR l s (fun y => if y.ro = true then 150 else 0) (fun y => { y with value := x }) = setR l s x := by
    unfold chR setR
    split
    · generalize getD s l = v
      obtain ⟨a, b, c, d⟩ := v
      cases d <;> rfl
    · rfl
  refine (changed_spec (h.still hst) hs hn s hsl (err := fun y => if y.ro = true then 150 else 0) (upd := fun y => { y with value := x }) callable_set (fun _ => rfl) ?_).mono ?_
  · intro w1 g y h1 hg hr
    have hb1 := hb.mod h1 (fun h => h)
    refine vars_Set_1_calls _ _ _ _ ?_
    refine ⟨_, by rw [add_row]; exact hr.cellv rfl, bsel_of (fun hro => ?_) (fun hro => ?_)⟩
    · refine ⟨by rw [hro]; rfl, Mod.refl _ _, fun h => ?_⟩
      rw [hro] at h
      cases h
    · refine ⟨_, hb1.cellv rfl, ?_⟩
      show Wr _ ((Addr.mk g 0 none).add 1) ∧ _
      rw [add_row]
      exact ⟨hr.wr 1 (by simp [vcell]), by rw [hro]; rfl, (Mod.refl (fun i => i = g) w1).setCell (p := Addr.mk g (0 + 1) none) (.inl rfl) _, fun _ => hr.setl 1 _⟩
  · rw [e]
    rintro _ w1 ⟨q, D, rfl, hv, h1⟩
    exact .inl ⟨_, _, _, _, rfl, q, D, rfl, hv, hst.trans h1⟩
theorem mark_spec (h : VarAt w p n C l) (hs : Rising l) (hn : n < 900000) (s : Txt) (x y : Bool) (hsl : s.length ≤ 9223372036854775807) : Calls Try.prog fn_vars_Mark #[.slice p n C, .string (S s), .bool x, .bool y] w (Gave w (markR l s x y)) := by
  refine vars_Mark_calls _ _ _ _ _ _ _ _ ?_
  have hb0 : Row (w.alloc (.cells #[(.bool x)] 4)) w.heap.size 4 ⟨[.bool x]⟩ := Row.new _ _ _
  have hsz : (w.alloc (.cells #[(.bool x)] 4)).heap.size = w.heap.size + 1 := World.size_alloc ..
  have hc0 : Row ((w.alloc (.cells #[(.bool x)] 4)).alloc (.cells #[(.bool y)] 4)) (w.alloc (.cells #[(.bool x)] 4)).heap.size 4 ⟨[.bool y]⟩ := Row.new _ _ _
  have hb := hb0.alloc (.cells #[(.bool y)] 4)
  have hst : Still w ((w.alloc (.cells #[(.bool x)] 4)).alloc (.cells #[(.bool y)] 4)) := ((Mod.refl _ _).alloc _).alloc _
  have e : chR l s (fun _ => 0) (fun v => { v with exp := v.exp || x, ro := v.ro || y }) = markR l s x y := by
    unfold chR markR
    split <;> rfl
  refine (changed_spec (h.still hst) hs hn s hsl (err := fun _ => 0) (upd := fun v => { v with exp := v.exp || x, ro := v.ro || y }) callable_mark (fun _ => rfl) ?_).mono ?_
  · intro w1 g v h1 hg hr
    have hb1 := hb.mod h1 (fun h => h)
    have hc1 := hc0.mod h1 (fun h => h)
    have hbl := hb.lt
    have hcl := hc0.lt
    refine vars_Mark_1_calls _ _ _ _ _ ?_
    have fin : ∀ (a b : Bool), a = (v.exp || x) → b = (v.ro || y) → (Ending.returned (.int .i64 0) = Ending.returned (.int .i64 0) ∧ Mod (fun i => i = g) w1 ((w1.setCell (Addr.mk g 2 none) (.bool a)).setCell (Addr.mk g 3 none) (.bool b)) ∧ ((0 : Int) = 0 → Row ((w1.setCell (Addr.mk g 2 none) (.bool a)).setCell (Addr.mk g 3 none) (.bool b)) g 30 ⟨vcell { v with exp := v.exp || x, ro := v.ro || y }⟩)) := by
      rintro a b rfl rfl
      exact ⟨rfl, ((Mod.refl (fun i => i = g) w1).setCell (p := Addr.mk g 2 none) (.inl rfl) _).setCell (p := Addr.mk g 3 none) (.inl rfl) _, fun _ => (hr.setl 2 _).setl 3 _⟩
    have second : ∀ a : Bool, a = (v.exp || x) → someK (some (Addr.mk g 0 none)) (fun a2 => ∃ v2 : Bool, (w1.setCell (Addr.mk g 2 none) (.bool a)).cell? (a2.add 3) = some (.bool v2) ∧ bsel v2 (someK (some (Addr.mk g 0 none)) (fun a3 => Wr (w1.setCell (Addr.mk g 2 none) (.bool a)) (a3.add 3) ∧ (Ending.returned (.int .i64 0) = Ending.returned (.int .i64 0) ∧ Mod (fun i => i = g) w1 ((w1.setCell (Addr.mk g 2 none) (.bool a)).setCell (a3.add 3) (.bool true)) ∧ ((0 : Int) = 0 → Row ((w1.setCell (Addr.mk g 2 none) (.bool a)).setCell (a3.add 3) (.bool true)) g 30 ⟨vcell { v with exp := v.exp || x, ro := v.ro || y }⟩))))
        (someK (some (Addr.mk (w.alloc (.cells #[(.bool x)] 4)).heap.size 0 none)) (fun a4 => ∃ v3 : Bool, (w1.setCell (Addr.mk g 2 none) (.bool a)).cell? a4 = some (.bool v3) ∧ someK (some (Addr.mk g 0 none)) (fun a5 => Wr (w1.setCell (Addr.mk g 2 none) (.bool a)) (a5.add 3) ∧ (Ending.returned (.int .i64 0) = Ending.returned (.int .i64 0) ∧ Mod (fun i => i = g) w1 ((w1.setCell (Addr.mk g 2 none) (.bool a)).setCell (a5.add 3) (.bool v3)) ∧ ((0 : Int) = 0 → Row ((w1.setCell (Addr.mk g 2 none) (.bool a)).setCell (a5.add 3) (.bool v3)) g 30 ⟨vcell { v with exp := v.exp || x, ro := v.ro || y }⟩)))))) := by
      intro a ha
      have hr2 := hr.setl 2 (.bool a)
      refine ⟨v.ro, by rw [add_row]; exact hr2.cellv rfl, bsel_of (fun hro => ?_) (fun hro => ?_)⟩
      · show Wr _ ((Addr.mk g 0 none).add 3) ∧ _
        rw [add_row]
        exact ⟨hr2.wr 3 (by simp [vcell]), fin a true ha (by rw [hro]; rfl)⟩
      · refine ⟨y, (hc1.far (p := Addr.mk g 2 none) (fun e => by have e : _ = g := e; omega) _).cellv rfl, ?_⟩
        show Wr _ ((Addr.mk g 0 none).add 3) ∧ _
        rw [add_row]
        exact ⟨hr2.wr 3 (by simp [vcell]), fin a y ha (by rw [hro]; rfl)⟩
    refine ⟨v.exp, by rw [add_row]; exact hr.cellv rfl, bsel_of (fun hex => ?_) (fun hex => ⟨x, hb1.cellv rfl, ?_⟩)⟩
    · show Wr _ ((Addr.mk g 0 none).add 2) ∧ _
      rw [add_row]
      exact ⟨hr.wr 2 (by simp [vcell]), second true (by rw [hex]; rfl)⟩
    · show Wr _ ((Addr.mk g 0 none).add 2) ∧ _
      rw [add_row]
      exact ⟨hr.wr 2 (by simp [vcell]), second x (by rw [hex]; rfl)⟩
  · rw [e]
    rintro _ w1 ⟨q, D, rfl, hv, h1⟩
    exact .inl ⟨_, _, _, _, rfl, q, D, rfl, hv, hst.trans h1⟩
theorem getD_none {s : Txt} {l : List Vr} (h : (get s l).isSome = false) : getD s l = Vr.zero ∧ get s l = none := by
  cases hg : get s l with
  | none => exact ⟨by rw [getD, hg]; rfl, rfl⟩
  | some v => rw [hg] at h; cases h
theorem unset_spec (h : VarAt w p n C l) (hs : Rising l) (hn : n < 900000) (s : Txt) : Calls Try.prog fn_vars_Unset #[.slice p n C, .string (S s)] w (Gave w (unsetR l s)) := by
  refine vars_Unset_calls _ _ _ _ _ _ ?_
  refine (find_spec h hs (by omega) s).mono ?_
  rintro _ w1 ⟨rfl, h1⟩
  have h1' := h.still h1
  have hl := h.1
  have hpl := pos_le s l
  refine .inl ⟨_, _, rfl, fun x w2 => x = (getD s l).ro ∧ w2 = w1, bsel_of (fun hb => ?_) (fun hb => ?_), ?_⟩
  · obtain ⟨hk, he⟩ := getD_at hb
    obtain ⟨a, rfl, c1, c2, c3, c4⟩ := h1'.get (getD_some hk)
    exact ⟨by omega, by omega, _, by rw [Int.toNat_natCast]; exact c4, by rw [he], rfl⟩
  · exact ⟨by rw [(getD_none hb).1]; rfl, rfl⟩
  rintro _ _ w2 ⟨rfl, rfl⟩
  refine bsel_of (fun hro => ?_) (fun hro => bsel_of (fun hb => ?_) (fun hb => ?_))
  · have e : unsetR l s = ([], 150) := by unfold unsetR; rw [if_pos hro]
    rw [e]
    exact ⟨none, 0, rfl, VarAt.nil _, h1⟩
  · have e : unsetR l s = (del s l, 0) := by unfold unsetR; rw [if_neg (by rw [hro]; decide)]
    rw [e]
    obtain ⟨hk, he⟩ := getD_at hb
    have hC := h.2.1
    have e1 : IntKind.i64.wrap ((pos s l : Int) + 1) = ((pos s l + 1 : Nat) : Int) := by rw [wrap_i64 (by omega) (by omega)]; omega
    rw [e1]
    refine ⟨fun _ => True, trivial, by omega, by omega, by omega, by omega, ?_⟩
    rw [Int.toNat_natCast, Int.toNat_natCast]
    have hst : Still w2 (w2.drew.alloc (.cells ⟨pcells [(p, pos s l, C, l.take (pos s l)), ((if C = pos s l + 1 then p else Option.map (·.add ((pos s l + 1) * 4)) p), n - (pos s l + 1), C - (pos s l + 1), l.drop (pos s l + 1))]⟩ 24)) := ((Mod.refl _ _).drew).alloc _
    have hfl : flat [(p, pos s l, C, l.take (pos s l)), ((if C = pos s l + 1 then p else Option.map (·.add ((pos s l + 1) * 4)) p), n - (pos s l + 1), C - (pos s l + 1), l.drop (pos s l + 1))] = del s l := by
      rw [← cut_eq s l, if_pos hb]
      simp [flat]
    have hdl := del_length s l
    refine (concat_spec (P := [(p, pos s l, C, l.take (pos s l)), ((if C = pos s l + 1 then p else Option.map (·.add ((pos s l + 1) * 4)) p), n - (pos s l + 1), C - (pos s l + 1), l.drop (pos s l + 1))]) (Row.new _ _ _) (fun y hy => ?_) (by simp) (by rw [hfl]; omega)).mono ?_
    · simp only [List.mem_cons, List.not_mem_nil, or_false] at hy
      rcases hy with rfl | rfl
      · exact (h1'.take (k := pos s l) (by omega)).still hst
      · exact (h1'.drop (k := pos s l + 1) (by omega)).still hst
    · rw [hfl]
      rintro _ w9 ⟨r, E, rfl, hv, h9⟩
      exact .inl ⟨_, _, _, rfl, r, E, rfl, hv, (h1.trans hst).trans h9⟩
  · have e : unsetR l s = (l, 0) := by unfold unsetR; rw [if_neg (by rw [hro]; decide), del_none s (getD_none hb).2]
    rw [e]
    refine (clone_spec h1' (by omega)).mono ?_
    rintro _ w4 ⟨q, D, rfl, hv, h4⟩
    refine .inl ⟨_, _, _, rfl, q, D, by rw [hl], ?_, h1.trans h4⟩
    rw [hl]
    exact hv

/-! ### Handed on -/
def strs (l : List Txt) : List Value := l.map fun x => .string (S x)
theorem strs_append (l m : List Txt) : strs (l ++ m) = strs l ++ strs m := by simp [strs]
theorem environ_app (l m : List Vr) : environ (l ++ m) = environ l ++ environ m := by simp [environ]
theorem environ_step {k : Nat} (h : k < l.length) : environ (l.take (k + 1)) = environ (l.take k) ++ if l[k].exp = true then [l[k].name ++ [61] ++ l[k].value] else [] := by
  rw [List.take_add_one, getD_some h, environ_app]
  congr 1
  cases hx : l[k].exp <;> simp [environ, hx]
theorem environ_few (k : Nat) : (environ (l.take k)).length ≤ l.length := by
  rw [environ, List.length_map]
  refine Nat.le_trans (List.length_filter_le _ _) ?_
  rw [List.length_take]
  omega
theorem environ_spec (h : VarAt w p n C l) (hn : n < 900000) (hb : ∀ v ∈ l, v.name.length + v.value.length < 9223372036854775806) : Calls Try.prog fn_vars_Environ #[.slice p n C] w
    (fun e w' => ∃ q D, e = .returned (.slice q (environ l).length D) ∧ Owns w' w.heap.size 9 1 (.slice q (environ l).length D) (environ l).length (strs (environ l)) ∧ Still w w') := by
  refine vars_Environ_calls _ _ _ _ _ ?_
  have hl := h.1
  refine ⟨fun q L D x w1 => ∃ k : Nat, x = (k : Int) ∧ k ≤ n ∧ L = (environ (l.take k)).length ∧ Owns w1 w.heap.size 9 1 (.slice q L D) L (strs (environ (l.take k))) ∧ Still w w1, fun _ _ _ x _ => n - x.toNat, ⟨0, rfl, Nat.zero_le _, rfl, Owns.nil _ _ _ _, Mod.refl _ _⟩, ?_⟩
  rintro q _ D _ _ w1 ⟨k, rfl, hk, rfl, ho, hst⟩
  refine bsel_of (fun hx => ?_) (fun hx => ?_)
  · have hx : k < n := by have := of_decide_eq_true hx; omega
    have hkl : k < l.length := by omega
    have e1 : IntKind.i64.wrap ((k : Int) + 1) = ((k + 1 : Nat) : Int) := by rw [wrap_i64 (by omega) (by omega)]; omega
    rw [e1]
    obtain ⟨a, rfl, c1, c2, c3, c4⟩ := (h.still hst).get (getD_some hkl)
    refine ⟨by omega, by omega, _, _, _, _, by rw [Int.toNat_natCast]; exact c1, by rw [Int.toNat_natCast]; exact c2, by rw [Int.toNat_natCast]; exact c3, by rw [Int.toNat_natCast]; exact c4, ?_⟩
    obtain ⟨w0, hw0, hr0, hst0, hs0⟩ := newbox w1
    rw [← hw0]
    obtain ⟨w2, hw2, d1, d2, d3, d4, hr2, hm2⟩ := put4 hr0 (.string (S l[k].name)) (.string (S l[k].value)) (.bool l[k].exp) (.bool l[k].ro)
    refine ⟨d1, d2, d3, d4, ?_⟩
    rw [← hw2]
    have hst2 : Still w w2 := (hst.trans hst0).box hst.size hm2
    have h12 : Still w1 w2 := hst0.box (Nat.le_refl _) hm2
    have ho2 := ho.mod h12 (fun _ _ h => h)
    have hstep := environ_step hkl
    have hfew := environ_few (l := l) k
    refine ⟨_, hr2.cellv rfl, bsel_of (fun hex => ?_) (fun hex => ?_)⟩
    · have hbk := hb _ (List.getElem_mem hkl)
      rw [if_pos hex] at hstep
      refine ⟨_, hr2.cellv rfl, by simp only [List.length_cons, List.length_nil]; omega, _, hr2.cellv rfl, by simp only [List.length_append, List.length_cons, List.length_nil]; omega, strs (environ (l.take k)), [.string (S (l[k].name ++ [61] ++ l[k].value))], (ho2.alloc _).base0, rfl, one_one rfl, one_src _ _ _, by omega, by omega, fun p3 C3 w3 ho3 hg3 hb3 => ?_⟩
      refine ⟨⟨k + 1, rfl, hx, by rw [hstep, List.length_append]; rfl, ?_, hst2.pushed ho2 (Nat.le_refl _) hg3⟩, by dsimp only; omega⟩
      rw [hstep, strs_append]
      exact ho2.pushed hst2.size ho3 hb3
    · rw [if_neg (by rw [hex]; decide), List.append_nil] at hstep
      refine ⟨⟨k + 1, rfl, hx, by rw [hstep], ?_, hst2⟩, by dsimp only; omega⟩
      rw [hstep]
      exact ho2
  · have hx : k = n := by have := of_decide_eq_false hx; omega
    subst hx
    rw [List.take_of_length_le (by omega)] at ho ⊢
    exact ⟨q, D, rfl, ho, hst⟩
end
end Go.Proofs.Ytmodihbdjnklcaa
