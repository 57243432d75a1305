/- strings.Builder at any place of a row: copyCheck, WriteString, WriteByte, String, Reset. Conditions: the row is the call's own, the place that of a builder. -/
import Derived.Test.YtckcdbkggaoomaaDoorGen
import Derived.Test.YtckcdbkggaoomaaDoorKit
namespace Go.Proofs.YtckcdbkggaoomaaDoor
open Go.RowKit Vc
variable {w : World}

/-- A builder lies at place o of row g, of type T; its bytes are bs, its buffer v. -/
structure BldAt0 (w : World) (T g o B : Nat) (cs : List Value) (v : Value) (bs : List UInt8) : Prop where
  row : Row w g T ⟨cs⟩
  addr : cs[o]? = some (.pointer none) ∨ cs[o]? = some (.pointer (some ⟨g, o, none⟩))
  buf : cs[o + 1]? = some v
  own : Owns w B 5 1 v bs.length (bc bs)
  ne : v.ownBlock ≠ some g
/-- Its buffer is none, or has room. -/
def Roomy (v : Value) (bs : List UInt8) : Prop := ∀ p c, v = .slice p bs.length c → p = none ∨ c ≠ 0
structure BldAt (w : World) (T g o B : Nat) (cs : List Value) (v : Value) (bs : List UInt8) : Prop extends BldAt0 w T g o B cs v bs where
  room : Roomy v bs
/-- A builder may lie there. -/
def LiesB (T n o : Nat) : Prop := liesAt Tryd.prog Tryd.prog.depth T (n / Tryd.prog.cellsOf T) o 44 1 = true
theorem Row.shape {g : Nat} {t : TypeId} {cs : List Value} (h : Row w g t ⟨cs⟩) : w.shape? g = some (t, cs.length) := by
  obtain ⟨fz, h, _⟩ := h
  simp [World.shape?, h]
theorem noEscape : ExtSame Tryd.prog fn_internal_abi_NoEscape := ⟨_, Tryd.func42, by kernel_rfl, by kernel_rfl, by kernel_rfl, by kernel_rfl⟩
theorem set_same {α : Type} {l : List α} {i : Nat} {a : α} (h : l[i]? = some a) : l.set i a = l := by
  apply List.ext_getElem?
  intro j
  by_cases hj : i = j
  · subst hj
    rw [List.getElem?_set_self (List.getElem?_eq_some_iff.1 h).1, h]
  · rw [List.getElem?_set_ne hj]
section
variable {T g o B : Nat} {cs : List Value} {v : Value} {bs : List UInt8}
theorem BldAt0.roomy (h : BldAt0 w T g o B cs v bs) (hb : bs ≠ []) : BldAt w T g o B cs v bs := by
  refine ⟨h, fun p c e => ?_⟩
  have hpos : 0 < bs.length := List.length_pos_iff.2 hb
  obtain ⟨g', cap, cur, hv, _, _, hcap, _⟩ := h.own.row hpos
  rw [e] at hv
  injection hv with _ _ hv2
  exact .inr (by omega)
theorem BldAt0.lt (h : BldAt0 w T g o B cs v bs) : o + 1 < cs.length := (List.getElem?_eq_some_iff.1 h.buf).1
theorem BldAt.lt (h : BldAt w T g o B cs v bs) : o + 1 < cs.length := h.toBldAt0.lt
theorem BldAt.mod {S : Nat → Prop} {w' : World} (h : BldAt w T g o B cs v bs) (hm : Mod S w w') (hg : ¬ S g) (hv : ∀ k, v.ownBlock = some k → ¬ S k) : BldAt w' T g o B cs v bs :=
  ⟨⟨h.row.mod hm hg, h.addr, h.buf, h.own.mod hm hv, h.ne⟩, h.room⟩
theorem BldAt.still {w' : World} (h : BldAt w T g o B cs v bs) (hm : Still w w') : BldAt w' T g o B cs v bs := h.mod hm (fun h => h) (fun _ _ h => h)
/-- A builder that is new. -/
theorem BldAt.fresh (h : Row w g T ⟨cs⟩) (h0 : cs[o]? = some (.pointer none)) (h1 : cs[o + 1]? = some (.slice none 0 0)) : BldAt w T g o B cs (.slice none 0 0) [] :=
  ⟨⟨h, .inl h0, h1, Owns.nil _ _ _ _, by simp [Value.ownBlock]⟩, fun p c e => by injection e with e1 _ _; exact .inl e1.symm⟩
/-- Another cell of the row is turned. -/
theorem BldAt.other (h : BldAt w T g o B cs v bs) {w' : World} {cs' : List Value} (hr : Row w' g T ⟨cs'⟩) (hm : Mod (fun k => k = g) w w') (h0 : cs'[o]? = cs[o]?) (h1 : cs'[o + 1]? = cs[o + 1]?) : BldAt w' T g o B cs' v bs :=
  ⟨⟨hr, by rw [h0]; exact h.addr, h1.trans h.buf, h.own.mod hm (fun k hk e => h.ne (by rw [hk, e])), h.ne⟩, h.room⟩

theorem copyCheck_spec (h : BldAt0 w T g o B cs v bs) (hl : LiesB T cs.length o) : Calls Tryd.prog fn_strings_Builder_copyCheck #[.pointer (some ⟨g, o, none⟩)] w
    (fun e w' => e = .returned (.tuple #[]) ∧ BldAt0 w' T g o B (cs.set o (.pointer (some ⟨g, o, none⟩))) v bs ∧ Mod (fun k => k = g) w w' ∧ w'.heap.size = w.heap.size) := by
  refine strings_Builder_copyCheck_calls _ _ _ ?_
  have hlt := h.lt
  have hsh := h.row.shape
  rcases h.addr with h0 | h0
  · refine ⟨none, h.row.lget h0, bsel_of (fun _ => ?_) (fun h => by cases h)⟩
    refine ⟨⟨_, _, hsh, by show o < _; omega⟩, noEscape, ⟨_, _, hsh, hl⟩, stK h.row (by simp; omega) (by simp [Value.oneCell']) fun w1 hr1 hm1 hz1 => ⟨rfl, ?_, hm1, hz1⟩⟩
    exact ⟨hr1, .inr (List.getElem?_set_self (by omega)), by show (cs.set o _)[o + 1]? = _; rw [List.getElem?_set_ne (by omega)]; exact h.buf, h.own.mod hm1 (fun k hk e => h.ne (by rw [hk, e])), h.ne⟩
  · refine ⟨_, h.row.lget h0, bsel_of (fun h => by cases h) (fun _ => ⟨_, h.row.lget h0, by kernel_rfl, rfl, rfl, ?_, Mod.refl _ _, rfl⟩)⟩
    rw [set_same h0]
    exact h
theorem room_blk {p p' : Option Addr} {n n' m c c' s : Nat} (hb : Blk p p' n' c c' s) (hn' : n' = n + m) (h : ∀ q d, (Value.slice p n c) = .slice q n d → q = none ∨ d ≠ 0) {xs : List Value} {e : TypeId} {sz : Nat} (ho : Owns w B e sz (.slice p' n' c') n' xs) :
    ∀ q d, (Value.slice p' n' c') = .slice q n' d → q = none ∨ d ≠ 0 := by
  intro q d hq
  injection hq with q1 _ q2
  subst q1
  subst q2
  rcases hb with ⟨rfl, rfl⟩ | ⟨_, h0⟩
  · exact h _ _ rfl
  · rcases ho.2 with ⟨hv, h1⟩ | ⟨_, cap, _, hv, _, _, hc, _⟩
    · omega
    · injection hv with _ _ hv
      exact .inr (by omega)
theorem writeString_spec0 (h : BldAt0 w T g o B cs v bs) (hl : LiesB T cs.length o) (s : List UInt8) (hB : B ≤ w.heap.size) (hs : bs.length + s.length ≤ 140737488355328) :
    Calls Tryd.prog fn_strings_Builder_WriteString #[.pointer (some ⟨g, o, none⟩), .string (S s)] w (fun e w' => e = .returned (.tuple #[.int .i64 (s.length : Int), .nilIface]) ∧
      ∃ v', BldAt0 w' T g o B ((cs.set o (.pointer (some ⟨g, o, none⟩))).set (o + 1) v') v' (bs ++ s) ∧ (Roomy v bs → Roomy v' (bs ++ s)) ∧ Mod (fun k => k = g ∨ v.ownBlock = some k) w w') := by
  refine strings_Builder_WriteString_calls _ _ _ _ ?_
  refine (copyCheck_spec h hl).mono ?_
  rintro _ w1 ⟨rfl, h1, hm1, hz1⟩
  obtain ⟨p, c, rfl⟩ := h1.own.form
  have hlt := h.lt
  refine .inl ⟨rfl, _, _, _, by rw [add_row]; exact h1.row.lget h1.buf, ?_⟩
  refine appS_push h1.own (by omega) (by omega) (by omega) fun p' c' w2 ho2 hm2 hb2 => ?_
  have hr2 := h1.row.mod hm2 (fun e => h1.ne e)
  show stCells (Addr.add _ 1) _ _ _ _
  rw [add_row]
  refine stK hr2 (by simp; omega) (by simp [Value.oneCell']) fun w3 hr3 hm3 hz3 => ⟨rfl, _, ⟨hr3, ?_, ?_, ?_, ?_⟩, ?_, ?_⟩
  · exact .inr (by show ((cs.set o _).set (o + 1) _)[o]? = _; rw [List.getElem?_set_ne (by omega), List.getElem?_set_self (by omega)])
  · exact List.getElem?_set_self (by simp; omega)
  · have hne : (Value.slice p' (bs.length + s.length) c').ownBlock ≠ some g := by
      rcases hb2.own (n := bs.length) with e | e
      · rw [e]; exact h1.ne
      · rw [e]; have := h1.row.lt; exact fun e => by injection e with e; omega
    have := ho2.mod hm3 (fun k hk e => hne (by rw [hk, e]))
    rw [← bc_append] at this
    rw [List.length_append]
    exact this
  · rcases hb2.own (n := bs.length) with e | e
    · rw [e]; exact h1.ne
    · rw [e]; have := h1.row.lt; exact fun e => by injection e with e; omega
  · intro hroom
    rw [Roomy, List.length_append]
    exact room_blk hb2 rfl hroom ho2
  · exact Mod.trans hm1 (Mod.trans hm2 hm3 (U := fun k => k = g ∨ (Value.slice p bs.length c).ownBlock = some k) (fun _ h => .inr h) (fun _ _ h => .inl h)) (fun _ h => .inl h) (fun _ _ h => h)
theorem writeString_spec (h : BldAt w T g o B cs v bs) (hl : LiesB T cs.length o) (s : List UInt8) (hB : B ≤ w.heap.size) (hs : bs.length + s.length ≤ 140737488355328) :
    Calls Tryd.prog fn_strings_Builder_WriteString #[.pointer (some ⟨g, o, none⟩), .string (S s)] w (fun e w' => e = .returned (.tuple #[.int .i64 (s.length : Int), .nilIface]) ∧
      ∃ v', BldAt w' T g o B ((cs.set o (.pointer (some ⟨g, o, none⟩))).set (o + 1) v') v' (bs ++ s) ∧ Mod (fun k => k = g ∨ v.ownBlock = some k) w w') := by
  refine (writeString_spec0 h.toBldAt0 hl s hB hs).mono ?_
  rintro _ w' ⟨rfl, v', h1, h2, h3⟩
  exact ⟨rfl, v', ⟨h1, h2 h.room⟩, h3⟩
theorem string_spec (h : BldAt w T g o B cs v bs) (hs : bs.length ≤ 140737488355328) :
    Calls Tryd.prog fn_strings_Builder_String #[.pointer (some ⟨g, o, none⟩)] w (fun e w' => e = .returned (.string (S bs)) ∧ Mod (fun k => v.ownBlock = some k) w w') := by
  refine strings_Builder_String_calls _ _ _ ?_
  obtain ⟨p, c, rfl⟩ := h.own.form
  refine ⟨_, _, _, by rw [add_row]; exact h.row.lget h.buf, h.room _ _ rfl, _, _, _, by rw [add_row]; exact h.row.lget h.buf, ?_⟩
  refine ⟨bs, rfl, by omega, ?_⟩
  rcases Decidable.em (bs = []) with rfl | h0
  · exact .inl ⟨rfl, rfl, (Mod.refl _ _).drew⟩
  · have hpos : 0 < bs.length := List.length_pos_iff.2 h0
    obtain ⟨g', cap, cur, hv, _, hrow, hcap, hsz, _⟩ := h.own.row hpos
    injection hv with hv1 _ hv2
    subst hv1
    subst hv2
    refine .inr ⟨h0, g', cur.size, rfl, by obtain ⟨fz, hh, _⟩ := hrow; exact (show World.shape? w g' = _ by simp [World.shape?, hh]), by omega, fun j x hx => ?_, rfl, ?_⟩
    · rw [add_row, Nat.zero_add]
      exact h.own.cells rfl j _ (bc_get hx)
    · unfold World.freeze
      split
      · exact (Mod.refl _ _).drew
      · exact ⟨rfl, rfl, rfl, by simp, fun k hk hn => by
          simp only [Array.getElem?_modify]
          rw [if_neg (fun e => hn (by rw [← e]; rfl))]
          rfl⟩
end
end Go.Proofs.YtckcdbkggaoomaaDoor
