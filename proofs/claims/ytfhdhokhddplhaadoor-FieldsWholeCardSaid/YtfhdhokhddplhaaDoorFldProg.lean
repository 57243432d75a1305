/- Fields, the program's side. Conditions: as each theorem names them; texts are small. -/
import Derived.Test.YtfhdhokhddplhaaDoorFld
namespace Go.Proofs.YtfhdhokhddplhaaDoor
open Go.RowKit Vc
variable {w : World}

theorem escape_snoc (l : Txt) (c : UInt8) : escape (l ++ [c]) = escape l ++ [92, c] := by simp [escape]
theorem escape_spec (s : Txt) (hs : s.length < 1000000) : Calls Tryd.prog fn_pattern_Escape #[.string (S s)] w (fun e w' => e = .returned (.string (S (escape s))) ∧ Still w w') := by
  refine pattern_Escape_calls _ _ _ ?_
  have e1 : IntKind.i64.wrap (2 * (s.length : Int)) = ((2 * s.length : Nat) : Int) := by rw [wrap_i64 (by omega) (by omega)]; omega
  unfold vc_pattern_Escape
  rw [e1, Int.toNat_natCast]
  have hmk : Owns (w.alloc (.cells (madeCells #[(.int .u8 (0 : Int))] (2 * s.length * 1)) 5)) w.heap.size 5 1 (.slice (some ⟨w.heap.size, 0, none⟩) 0 (2 * s.length)) 0 [] :=
    ⟨rfl, .inr ⟨w.heap.size, _, _, rfl, Nat.le_refl _, Row.new w _ _, by omega, by simp only [maxLen]; omega, by rw [size_madeCells], rfl⟩⟩
  refine ⟨by decide, by omega, by omega, by omega, letIn ⟨fun p L C x w1 => ∃ i : Nat, x = (i : Int) ∧ i ≤ s.length ∧ L = 2 * i ∧ Owns w1 w.heap.size 5 1 (.slice p L C) L (bc (escape (s.take i))) ∧ Still w w1, fun _ _ _ x _ => s.length - x.toNat,
    ⟨0, rfl, by omega, rfl, hmk, (Mod.refl _ _).alloc _⟩, ?_⟩⟩
  rintro p _ C _ _ w1 ⟨i, rfl, hi, rfl, ho, hst⟩
  refine bsel_of (fun hx => ?_) (fun hx => ?_)
  · have hx : i < s.length := by have := of_decide_eq_true hx; omega
    refine ⟨by omega, s[i], by rw [Int.toNat_natCast]; exact getD_some hx, allocK fun w2 hr2 hs2 hz2 => ?_⟩
    refine appK_push (ho.still hs2) (by have := hst.size; omega) (bc [92, s[i]]) rfl (bc_one _) (fun _ => ⟨_, rfl, fun j u hu => ?_⟩) (by omega) (by omega) fun p' c' w3 ho3 hm3 _ => ?_
    · rw [add_row, Nat.zero_add]
      exact hr2.lget hu
    · have e2 : IntKind.i64.wrap ((i : Int) + 1) = ((i + 1 : Nat) : Int) := by rw [wrap_i64 (by omega) (by omega)]; omega
      rw [e2]
      refine ⟨⟨i + 1, rfl, hx, by omega, ?_, (hst.trans hs2).own (ho.still hs2) (Nat.le_refl _) hm3⟩, by dsimp only; omega⟩
      rw [take_snoc hx, escape_snoc, bc_append]
      exact ho3
  · have hx : i = s.length := by have := of_decide_eq_false hx; omega
    subst hx
    rw [List.take_length] at ho
    exact ⟨escape s, ho.bytes, rfl, hst⟩
theorem active_spec (s : Txt) (hs : s.length ≤ 1000000) : Calls Tryd.prog fn_fields_active #[.string (S s)] w (fun e w' => e = .returned (.string (S (active s))) ∧ Still w w') := by
  refine fields_active_calls _ _ _ ((replaceAll_spec 92 [92, 92] s hs (by decide) (by decide) (by decide)).mono ?_)
  rintro _ w1 ⟨rfl, h⟩
  exact .inl ⟨_, rfl, rfl, h⟩

/-! ### Pieces that may be read -/
def sgCells (x : Sg) : List Value := [.int .i64 (x.kind : Int), .string (S x.text)]
def sgs (l : List Sg) : List Value := l.flatMap sgCells
theorem sgs_length (l : List Sg) : (sgs l).length = l.length * 2 := flat_len (f := sgCells) (fun _ => rfl) l
theorem sgs_one (l : List Sg) : ∀ u ∈ sgs l, u.oneCell' = true := flat_one (f := sgCells) (fun x u hu => by
  simp only [sgCells, List.mem_cons, List.not_mem_nil, or_false] at hu
  rcases hu with rfl | rfl <;> rfl) l
def SegsAt (w : World) (p : Option Addr) (n : Nat) (l : List Sg) : Prop := l.length = n ∧ At w p n (sgs l)
theorem SegsAt.get {p : Option Addr} {n : Nat} {l : List Sg} (h : SegsAt w p n l) {k : Nat} (hk : k < n) : ∃ a x, p = some a ∧ l[k]? = some x ∧ w.cell? (a.add (k * 2)) = some (.int .i64 (x.kind : Int)) ∧ w.cell? ((a.add (k * 2)).add 1) = some (.string (S x.text)) := by
  obtain ⟨h1, h2⟩ := h
  obtain ⟨a, rfl, h3⟩ := h2 (by omega)
  have hx := getD_some (p := l) (i := k) (by omega)
  refine ⟨a, _, rfl, hx, h3 _ _ (by have := flat_get (f := sgCells) (sz := 2) (fun _ => rfl) hx 0 (by decide); exact this), ?_⟩
  rw [adds]
  exact h3 _ _ (by have := flat_get (f := sgCells) (sz := 2) (fun _ => rfl) hx 1 (by decide); exact this)
theorem SegsAt.still {w' : World} {p : Option Addr} {n : Nat} {l : List Sg} (h : SegsAt w p n l) (hm : Still w w') : SegsAt w' p n l := ⟨h.1, h.2.still hm⟩

/-! ### The splitter -/
structure SplAt (w : World) (g : Nat) (ifs : Txt) (x : St) (q : Option Addr) (v : Value) (pa : Option Addr) (co : Nat) : Prop where
  bld : BldAt w 45 g 2 (g + 1) [.string (S ifs), .slice pa x.out.length co, .pointer q, v, .bool x.has, .bool x.gap] v x.cur
  own : Owns w (g + 1) 9 1 (.slice pa x.out.length co) x.out.length (strs x.out)
/-- The splitter at block g: what it holds. -/
def Spl (w : World) (g : Nat) (ifs : Txt) (x : St) : Prop := ∃ q v pa co, SplAt w g ifs x q v pa co
theorem liesSpl : LiesB 45 6 2 := by unfold LiesB; kernel_rfl
abbrev Up (g : Nat) (w w' : World) : Prop := Mod (fun k => g ≤ k) w w'
theorem Up.trans {g : Nat} {a b c : World} (h : Up g a b) (k : Up g b c) : Up g a c := Mod.trans h k (fun _ h => h) (fun _ _ h => h)
theorem Up.refl (g : Nat) (w : World) : Up g w w := Mod.refl _ _
theorem Up.of {g : Nat} {a b : World} (h : Still a b) : Up g a b := h.weaken (fun _ h => h.elim)
theorem Spl.still {w' : World} {g : Nat} {ifs : Txt} {x : St} (h : Spl w g ifs x) (hm : Still w w') : Spl w' g ifs x := by
  obtain ⟨q, v, pa, co, h1, h2⟩ := h
  exact ⟨q, v, pa, co, h1.still hm, h2.still hm⟩
theorem Spl.lt {g : Nat} {ifs : Txt} {x : St} (h : Spl w g ifs x) : g < w.heap.size := by
  obtain ⟨q, v, pa, co, h1, h2⟩ := h
  exact h1.row.lt
theorem put_spec {g : Nat} {ifs : Txt} {x : St} (h : Spl w g ifs x) (p : Txt) (hs : x.cur.length + p.length ≤ 1000000000) :
    Calls Tryd.prog fn_fields_splitter_put #[.pointer (some ⟨g, 0, none⟩), .string (S p)] w (fun e w' => e = .returned (.tuple #[]) ∧ Spl w' g ifs (x.put p) ∧ Up g w w') := by
  have hlt := h.lt
  obtain ⟨q, v, pa, co, hb, ho⟩ := h
  refine fields_splitter_put_calls _ _ _ _ ?_
  show Calls _ _ #[.pointer (some (Addr.add _ 2)), _] _ _
  rw [add_row]
  refine (writeString_spec hb liesSpl p hlt (by omega)).mono ?_
  rintro _ w1 ⟨rfl, v1, hb1, hm1⟩
  have ho1 := ho.mod hm1 (fun k hk e => by
    rcases e with rfl | e
    · exact ho.notRow hb.row (by decide) hk
    · exact ho.apart hb.own (by decide) hk e)
  have hu1 : Up g w w1 := hm1.weaken (fun k e => by
    rcases e with rfl | e
    · exact Nat.le_refl _
    · have := hb.own.ownLt e; omega)
  refine .inl ⟨_, _, rfl, rfl, ?_⟩
  show stCells (Addr.add _ 4) _ _ _ _
  rw [add_row]
  refine stK hb1.row (by simp) (by simp [Value.oneCell']) fun w2 hr2 hm2 hz2 => ?_
  show stCells (Addr.add _ 5) _ _ _ _
  rw [add_row]
  have hb2 := hb1.other hr2 hm2 rfl rfl
  have ho2 := ho1.mod hm2 (fun k hk e => by subst e; exact ho1.notRow hb1.row (by decide) hk)
  refine stK hr2 (by simp [ovw]) (by simp [Value.oneCell']) fun w3 hr3 hm3 hz3 => ⟨rfl, ?_, ?_⟩
  · have hb3 := hb2.other hr3 hm3 rfl rfl
    exact ⟨_, _, _, _, hb3, ho2.mod hm3 (fun k hk e => by subst e; exact ho2.notRow hr2 (by decide) hk)⟩
  · exact (hu1.trans (hm2.weaken (fun k e => by omega))).trans (hm3.weaken (fun k e => by omega))
theorem end_spec {g : Nat} {ifs : Txt} {x : St} (h : Spl w g ifs x) (hs : x.size ≤ 1000000000) :
    Calls Tryd.prog fn_fields_splitter_end #[.pointer (some ⟨g, 0, none⟩)] w (fun e w' => e = .returned (.tuple #[]) ∧ Spl w' g ifs x.fin ∧ Up g w w') := by
  have hlt := h.lt
  have hf1 := out_few x
  have hf2 := cur_few x
  obtain ⟨q, v, pa, co, hb, ho⟩ := h
  refine fields_splitter_end_calls _ _ _ ?_
  refine ⟨fun wq => Row wq g 45 ⟨[.string (S ifs), .slice pa x.out.length co, .pointer q, v, .bool x.has, .bool x.gap]⟩, hb.row, _, _, _, fun wq hq => by rw [add_row]; exact hq.lget rfl, ?_⟩
  show Calls _ _ #[.pointer (some (Addr.add _ 2))] _ _
  rw [add_row]
  have hbd : BldAt w.drew 45 g 2 (g + 1) [.string (S ifs), .slice pa x.out.length co, .pointer q, v, .bool x.has, .bool x.gap] v x.cur := hb.still (Still.refl w).toDrew
  refine (string_spec hbd (by omega)).mono ?_
  rintro _ w1 ⟨rfl, hm1⟩
  have hr1 := hbd.row.mod hm1 (fun e => hb.ne e)
  have hod := ho.still (Still.refl w).toDrew
  have ho1 := hod.mod hm1 (fun k hk e => ho.apart hb.own (by decide) hk e)
  have hu1 : Up g w w1 := Mod.trans (Still.refl w).toDrew hm1 (fun _ h => h.elim) (fun k _ e => by have := hb.own.ownLt e; omega)
  refine .inl ⟨_, rfl, hr1, allocK fun w2 hr2 hs2 hz2 => ⟨hr1.still hs2, ?_⟩⟩
  refine appK_push (ho1.still hs2) (by have := hr1.lt; omega) [.string (S x.cur)] rfl (one_one rfl) (fun _ => ⟨_, rfl, fun j u hu => ?_⟩) (by omega) (by omega) fun p' c' w3 ho3 hm3 hb3 => ?_
  · rw [add_row, Nat.zero_add]
    exact hr2.lget hu
  have ho2 := ho1.still hs2
  have hr3 := (hr1.still hs2).mod hm3 (fun e => ho2.notRow (hr1.still hs2) (by decide) e)
  have hu3 : Up g w w3 := (hu1.trans (Up.of hs2)).trans (hm3.weaken (fun k e => by have := ho2.ownLt e; omega))
  show stCells (Addr.add _ 1) _ _ _ _
  rw [add_row]
  refine stK hr3 (by simp) (by simp [Value.oneCell']) fun w4 hr4 hm4 hz4 => ?_
  have ho4 := ho3.mod hm4 (fun k hk e => by subst e; exact ho3.notRow hr3 (by decide) hk)
  show Calls _ _ #[.pointer (some (Addr.add _ 2))] _ _
  rw [add_row]
  refine (reset_spec (B := g + 1) (o := 2) hr4 (by simp [ovw])).mono ?_
  rintro _ w5 ⟨rfl, hb5, hm5⟩
  have ho5 := ho4.mod hm5 (fun k hk e => by subst e; exact ho4.notRow hr4 (by decide) hk)
  refine .inl ⟨rfl, ?_⟩
  show stCells (Addr.add _ 4) _ _ _ _
  rw [add_row]
  refine stK hb5.row (by simp [ovw]) (by simp [Value.oneCell']) fun w6 hr6 hm6 hz6 => ⟨rfl, ?_, ?_⟩
  · have hb6 := hb5.other hr6 hm6 rfl rfl
    have ho6 := ho5.mod hm6 (fun k hk e => by subst e; exact ho5.notRow hb5.row (by decide) hk)
    refine ⟨none, .slice none 0 0, p', c', ?_, ?_⟩
    · have e : x.fin.out.length = x.out.length + 1 := by simp [St.fin]
      rw [e]
      exact hb6
    · have e : x.fin.out.length = x.out.length + 1 := by simp [St.fin]
      have e2 : strs x.fin.out = strs x.out ++ [.string (S x.cur)] := by simp [St.fin, strs]
      rw [e, e2]
      exact ho6
  · exact ((hu3.trans (hm4.weaken (fun k e => by omega))).trans (hm5.weaken (fun k e => by omega))).trans (hm6.weaken (fun k e => by omega))
end Go.Proofs.YtfhdhokhddplhaaDoor
