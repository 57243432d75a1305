/- Variables, the program's side: lists joined, one taken, one changed. Conditions: as each theorem names them. -/
import Derived.Test.YtgincpkggnndeaaGreatDoorVarProg
namespace Go.Proofs.YtgincpkggnndeaaGreatDoor
open Go.RowKit Vc Go.Shelf
variable {w : World}

def Tryz.grow_ren : Go.Shelf.Ren := ⟨fun | 4 => 115 | n => n, fun | 22 => 25 | 25 => 31 | 3 => 3 | 4 => 4 | 9 => 9 | 20 => 20 | 0 => 0 | n => n, fun | n => n⟩
theorem Tryz.grow : Go.Proofs.Lays8.n4 Tryz.prog Tryz.grow_ren := {
  mixed := by kernel_rfl
  f4 := ⟨Tryz.f115.name, by decide, Tryz.func115.trans (congrArg some (by kernel_rfl))⟩
  t0 := Tryz.underlying0
  a0 := Tryz.isAgg0
  z0 := Tryz.sizeOf0
  v0 := Tryz.zeroValue0
  t3 := Tryz.underlying3
  a3 := Tryz.isAgg3
  z3 := Tryz.sizeOf3
  v3 := Tryz.zeroValue3
  t4 := Tryz.underlying4
  a4 := Tryz.isAgg4
  z4 := Tryz.sizeOf4
  v4 := Tryz.zeroValue4
  t9 := Tryz.underlying9
  a9 := Tryz.isAgg9
  z9 := Tryz.sizeOf9
  v9 := Tryz.zeroValue9
  t20 := Tryz.underlying20
  a20 := Tryz.isAgg20
  z20 := Tryz.sizeOf20
  v20 := Tryz.zeroValue20
  t22 := Tryz.underlying25
  a22 := Tryz.isAgg25
  z22 := Tryz.sizeOf25
  v22 := Tryz.zeroValue25 }

/-! ### Boxes -/
theorem put4 {g : Nat} {t : TypeId} {x0 x1 x2 x3 : Value} (h : Row w g t ⟨[x0, x1, x2, x3]⟩) (y0 y1 y2 y3 : Value) : ∃ W, W = (((w.setCell (Addr.mk g 0 none) y0).setCell (Addr.mk g 1 none) y1).setCell (Addr.mk g 2 none) y2).setCell (Addr.mk g 3 none) y3 ∧
    Wr w (Addr.mk g 0 none) ∧ Wr (w.setCell (Addr.mk g 0 none) y0) (Addr.mk g 1 none) ∧ Wr ((w.setCell (Addr.mk g 0 none) y0).setCell (Addr.mk g 1 none) y1) (Addr.mk g 2 none) ∧
    Wr (((w.setCell (Addr.mk g 0 none) y0).setCell (Addr.mk g 1 none) y1).setCell (Addr.mk g 2 none) y2) (Addr.mk g 3 none) ∧ Row W g t ⟨[y0, y1, y2, y3]⟩ ∧ Mod (fun i => i = g) w W := by
  have h1 := h.setl 0 y0
  have h2 := h1.setl 1 y1
  have h3 := h2.setl 2 y2
  have h4 := h3.setl 3 y3
  exact ⟨_, rfl, h.wr 0 (by simp), h1.wr 1 (by simp), h2.wr 2 (by simp), h3.wr 3 (by simp), h4, ((((Mod.refl (fun i => i = g) w).setCell (p := Addr.mk g 0 none) (.inl rfl) y0).setCell (p := Addr.mk g 1 none) (.inl rfl) y1).setCell (p := Addr.mk g 2 none) (.inl rfl) y2).setCell (p := Addr.mk g 3 none) (.inl rfl) y3⟩
theorem newbox (w : World) : ∃ w0, w0 = w.alloc (.cells #[(.string (S ([] : List UInt8))), (.string (S ([] : List UInt8))), (.bool false), (.bool false)] 31) ∧ Row w0 w.heap.size 31 ⟨vcell Vr.zero⟩ ∧ Still w w0 ∧ w0.heap.size = w.heap.size + 1 :=
  ⟨_, rfl, Row.new w 31 ⟨vcell Vr.zero⟩, (Mod.refl _ _).alloc _, World.size_alloc ..⟩

/-! ### Growing, joining -/
section
variable {w2 w7 : World} {B L L' : Nat} {e : TypeId} {v v' : Value} {xs ys : List Value} {size : Nat}
theorem Owns.grew {p p' : Option Addr} {n n' c c' : Nat} (ho : Owns w2 B e size (.slice p n c) L xs) (hB : B ≤ w2.heap.size) (ho7 : Owns w7 0 e size (.slice p' n' c') L' ys) (hblk : Blk p p' n' c c' w2.heap.size) : Owns w7 B e size (.slice p' n' c') L' ys := by
  refine ho7.base fun k hk => ?_
  rcases hblk.own (n := n) with h | h
  · exact (ho.lt k (by rw [← h, hk])).1
  · rw [hk] at h
    obtain rfl := Option.some.inj h
    exact hB
theorem Still.grew (hm : Still w w2) (ho : Owns w2 B e size v L xs) (hwB : w.heap.size ≤ B) (hg : w2.grownBy w7 v.ownBlock) : Still w w7 :=
  Mod.grown hm hg fun g hk => .inr (Nat.le_trans hwB (ho.lt g hk).1)
end
theorem grow_spec (n : Nat) (hn : n < 1000000) : Calls Tryz.prog fn_slices_Grow_api_Var_api_Var #[.slice none 0 0, .int .i64 (n : Int)] w (fun e w' => ∃ p C, e = .returned (.slice p 0 C) ∧ Owns w' w.heap.size 31 4 (.slice p 0 C) 0 [] ∧ Still w w') := by
  rcases Nat.eq_zero_or_pos n with rfl | h0
  · refine (Any8.slices_Grow_room Tryz.grow none 0 0 0 w (Nat.le_refl _) (by decide) (by decide) (by decide)).mono ?_
    rintro _ w' ⟨rfl, rfl⟩
    exact ⟨none, 0, rfl, Owns.nil _ _ _ _, Mod.refl _ _⟩
  · have hi : Tryz.prog.info? 31 = some ((Tryz.prog.info? 31).getD default) := by kernel_rfl
    have hz : ((Tryz.prog.info? 31).getD default).zero = some (.agg ⟨vcell Vr.zero⟩) := by kernel_rfl
    have hs : ((Tryz.prog.info? 31).getD default).size = 4 := by kernel_rfl
    have hb : ((Tryz.prog.info? 31).getD default).bytes = 40 := by kernel_rfl
    refine (Any8.slices_Grow_grow Tryz.grow _ _ hi hz (by rw [hs]; decide) none 0 0 n [] w (Nat.le_refl _) (by omega) (by rw [hb]; omega) (by omega) (by simp) (fun _ => rfl) (fun a h => by cases h)).mono ?_
    rintro _ w' ⟨rfl, rfl⟩
    refine ⟨_, _, rfl, ⟨rfl, .inr ⟨w.heap.size, _, _, rfl, Nat.le_refl _, Row.new w.drew _ _, Nat.zero_le _, ?_, ?_, rfl⟩⟩, ((Mod.refl _ _).drew).alloc _⟩
    · exact grownCap_le_maxLen _ _ _ _ (by simp only [maxLen]; omega)
    · have hge := grownCap_ge w (0 + n) 0 31
      have hzc : (Value.agg ⟨vcell Vr.zero⟩).cells.size = 4 := rfl
      show (_ : Nat) = grownCap w (0 + n) 0 31 * 4
      simp only [Array.size_append, List.size_toArray, List.length_nil, size_zeroCells, hzc]
      show 0 + (0 + n - 0) * 4 + (grownCap w (0 + n) 0 31 - (0 + n)) * 4 = grownCap w (0 + n) 0 31 * 4
      omega

abbrev Part := Option Addr × Nat × Nat × List Vr
def pcells (P : List Part) : List Value := P.map fun x => .slice x.1 x.2.1 x.2.2.1
def flat (P : List Part) : List Vr := P.flatMap fun x => x.2.2.2
theorem flat_take (P : List Part) (k : Nat) : (flat (P.take k)).length ≤ (flat P).length := by
  conv => rhs; rw [← List.take_append_drop k P]
  rw [flat, flat, List.flatMap_append, List.length_append]
  omega
theorem flat_step {P : List Part} {k : Nat} (h : k < P.length) : flat (P.take (k + 1)) = flat (P.take k) ++ P[k].2.2.2 := by
  rw [List.take_add_one, getD_some h, flat, flat, List.flatMap_append]
  simp
theorem concat_spec {g : Nat} {P : List Part} (hr : Row w g 25 ⟨pcells P⟩) (hP : ∀ x ∈ P, VarAt w x.1 x.2.1 x.2.2.1 x.2.2.2) (hlen : P.length < 1000) (hsum : (flat P).length < 1000000) :
    Calls Tryz.prog fn_slices_Concat_api_Var_api_Var #[.slice (some (Addr.mk g 0 none)) P.length P.length] w (fun e w' => ∃ p C, e = .returned (.slice p (flat P).length C) ∧ VarAt w' p (flat P).length C (flat P) ∧ Still w w') := by
  refine slices_Concat_api_Var_api_Var_calls _ _ _ _ _ ?_
  have cell : ∀ {w1 : World}, Still w w1 → ∀ k : Nat, (hk : k < P.length) → w1.cell? ((Addr.mk g 0 none).add (Int.toNat (k : Int) * 1)) = some (.slice P[k].1 P[k].2.1 P[k].2.2.1) := by
    intro w1 hst k hk
    rw [Int.toNat_natCast, Nat.mul_one, add_row, Nat.zero_add]
    refine hst.cell (hr.cellv ?_)
    simp [pcells, hk]
  have step : ∀ k : Nat, k < 1000 → IntKind.i64.wrap ((k : Int) + 1) = ((k + 1 : Nat) : Int) := fun k hk => by rw [wrap_i64 (by omega) (by omega)]; omega
  refine ⟨fun size x w1 => ∃ k : Nat, x = (k : Int) ∧ k ≤ P.length ∧ size = ((flat (P.take k)).length : Int) ∧ w1 = w, fun _ x _ => P.length - x.toNat, ⟨0, rfl, Nat.zero_le _, rfl, rfl⟩, ?_⟩
  rintro _ _ _ w1 ⟨k, rfl, hk, rfl, rfl⟩
  refine bsel_of (fun hx => ?_) (fun hx => ?_)
  · have hx : k < P.length := by have := of_decide_eq_true hx; omega
    have hv := (hP _ (List.getElem_mem hx)).1
    have hle := flat_take P (k + 1)
    rw [flat_step hx, List.length_append] at hle
    have e1 : IntKind.i64.wrap (((flat (P.take k)).length : Int) + ((P[k].2.1 : Nat) : Int)) = ((flat (P.take (k + 1))).length : Int) := by
      rw [wrap_i64 (by omega) (by omega), flat_step hx, List.length_append]
      omega
    refine ⟨by omega, by omega, _, _, _, cell (Mod.refl _ _) k hx, ?_⟩
    rw [e1, step k (by omega)]
    exact bsel_of (fun h => by have := of_decide_eq_true h; omega) (fun _ => ⟨⟨k + 1, rfl, hx, rfl, rfl⟩, by dsimp only; omega⟩)
  have hx : k = P.length := by have := of_decide_eq_false hx; omega
  subst hx
  rw [List.take_length]
  refine (grow_spec (flat P).length hsum).mono ?_
  rintro _ w2 ⟨p, C, rfl, ho2, h2⟩
  refine .inl ⟨_, _, _, rfl, fun q L D x w3 => ∃ k : Nat, x = (k : Int) ∧ k ≤ P.length ∧ L = (flat (P.take k)).length ∧ Owns w3 w1.heap.size 31 4 (.slice q L D) L (vcs (flat (P.take k))) ∧ Still w1 w3, fun _ _ _ x _ => P.length - x.toNat, ⟨0, rfl, Nat.zero_le _, rfl, ho2, h2⟩, ?_⟩
  rintro q _ D _ _ w3 ⟨k, rfl, hk, rfl, ho3, h3⟩
  refine bsel_of (fun hx => ?_) (fun hx => ?_)
  · have hx : k < P.length := by have := of_decide_eq_true hx; omega
    have hva := (hP _ (List.getElem_mem hx)).still h3
    have hle := flat_take P (k + 1)
    rw [flat_step hx, List.length_append] at hle
    have hv := hva.1
    refine ⟨by omega, by omega, _, _, _, cell h3 k hx, vcs (flat (P.take k)), vcs P[k].2.2.2, ho3.base0, by rw [vcs_length, hv], vcs_one _, hva.2.2, by omega, by omega, fun p4 C4 w4 ho4 hg4 hb4 => ?_⟩
    rw [step k (by omega)]
    refine ⟨⟨k + 1, rfl, hx, by rw [flat_step hx, List.length_append, hv], ?_, h3.grew ho3 (Nat.le_refl _) hg4⟩, by dsimp only; omega⟩
    rw [flat_step hx, vcs_append]
    exact ho3.grew h3.size ho4 hb4
  · have hx : k = P.length := by have := of_decide_eq_false hx; omega
    subst hx
    rw [List.take_length] at ho3 ⊢
    exact ⟨q, D, rfl, VarAt.of ho3, h3⟩

/-! ### One taken, one changed -/
theorem getD_at {s : Txt} {l : List Vr} (h : (get s l).isSome = true) : ∃ hk : pos s l < l.length, getD s l = l[pos s l] := by
  have hg := get_pos s l
  cases hp : l[pos s l]? with
  | none => rw [hp] at hg; rw [hg] at h; cases h
  | some v =>
    rw [hp] at hg
    dsimp only at hg
    split at hg
    · obtain ⟨hk, he⟩ := List.getElem?_eq_some_iff.1 hp
      exact ⟨hk, by rw [getD, hg, he]; rfl⟩
    · rw [hg] at h; cases h
theorem get_spec {p : Option Addr} {n C : Nat} {l : List Vr} (h : VarAt w p n C l) (hs : Rising l) (hn : n < 1000000) (s : Txt) :
    Calls Tryz.prog fn_vars_Get #[.slice p n C, .string (S s)] w (fun e w' => e = .returned (.tuple #[.agg #[.string (S (getD s l).name), .string (S (getD s l).value), .bool (getD s l).exp, .bool (getD s l).ro], .bool (get s l).isSome]) ∧ Still w w') := by
  refine vars_Get_calls _ _ _ _ _ _ ?_
  unfold vc_vars_Get
  obtain ⟨w0, hw0, hr0, hst0, hs0⟩ := newbox w
  rw [← hw0]
  refine (find_spec (h.still hst0) hs hn s).mono ?_
  rintro _ w1 ⟨rfl, h1⟩
  have hr1 : Row w1 w.heap.size 31 ⟨vcell Vr.zero⟩ := hr0.mod h1 (fun h => h)
  have hst1 := hst0.trans h1
  refine .inl ⟨_, _, rfl, fun w2 => Row w2 w.heap.size 31 ⟨vcell (getD s l)⟩ ∧ Still w w2, bsel_of (fun hb => ?_) (fun hb => ?_), ?_⟩
  · obtain ⟨hk, he⟩ := getD_at hb
    obtain ⟨a, rfl, c1, c2, c3, c4⟩ := (h.still hst1).get (getD_some hk)
    have hl := h.1
    obtain ⟨w2, hw2, d1, d2, d3, d4, hr2, hm2⟩ := put4 hr1 (.string (S l[pos s l].name)) (.string (S l[pos s l].value)) (.bool l[pos s l].exp) (.bool l[pos s l].ro)
    refine ⟨by omega, by omega, _, _, _, _, by rw [Int.toNat_natCast]; exact c1, by rw [Int.toNat_natCast]; exact c2, by rw [Int.toNat_natCast]; exact c3, by rw [Int.toNat_natCast]; exact c4, d1, d2, d3, d4, ?_⟩
    rw [← hw2, he]
    exact ⟨hr2, hst1.box (Nat.le_refl _) hm2⟩
  · have : getD s l = Vr.zero := by
      cases hg : get s l with
      | none => rw [getD, hg]; rfl
      | some v => rw [hg] at hb; cases hb
    rw [this]
    exact ⟨hr1, hst1⟩
  · rintro _ w2 ⟨hr2, hst2⟩
    obtain ⟨w3, hw3, d1, d2, d3, d4, hr3, hm3⟩ := put4 hr2 (.string (S (getD s l).name)) (.string (S (getD s l).value)) (.bool (getD s l).exp) (.bool (getD s l).ro)
    refine ⟨_, _, _, _, hr2.cellv rfl, hr2.cellv rfl, hr2.cellv rfl, hr2.cellv rfl, d1, d2, d3, d4, ?_⟩
    rw [← hw3]
    exact ⟨_, _, _, _, hr3.cellv rfl, hr3.cellv rfl, hr3.cellv rfl, hr3.cellv rfl, rfl, hst2.box (Nat.le_refl _) hm3⟩
theorem callable_set : callable Tryz.prog fn_vars_Set_1 = true := by kernel_rfl
/-- What 'changed' comes to. -/
def chR (l : List Vr) (s : Txt) (err : Vr → Int) (upd : Vr → Vr) : List Vr × Int := if isName s = true then (if err { getD s l with name := s } = 0 then (ins (upd { getD s l with name := s }) l, 0) else ([], err { getD s l with name := s })) else ([], 1)
set_option maxRecDepth 10000 in
theorem changed_spec {p : Option Addr} {n C : Nat} {l : List Vr} (h : VarAt w p n C l) (hs : Rising l) (hn : n < 900000) (s : Txt) (hsl : s.length ≤ 9223372036854775807) {f : FuncId} {cap : List Value} {err : Vr → Int} {upd : Vr → Vr} (hf : callable Tryz.prog f = true) (hu : ∀ x, (upd x).name = x.name)
    (hch : ∀ (w1 : World) (g : Nat) (x : Vr), Still w w1 → w.heap.size ≤ g → Row w1 g 31 ⟨vcell x⟩ → Calls Tryz.prog f ⟨[.pointer (some (Addr.mk g 0 none))] ++ cap⟩ w1 (fun e w2 => e = .returned (.int .i64 (err x)) ∧ Mod (fun i => i = g) w1 w2 ∧ (err x = 0 → Row w2 g 31 ⟨vcell (upd x)⟩))) :
    Calls Tryz.prog fn_vars_changed #[.slice p n C, .string (S s), .func (.func f) #[] ⟨cap⟩] w (fun e w' => ∃ q D, e = .returned (.tuple #[.slice q (chR l s err upd).1.length D, .int .i64 (chR l s err upd).2]) ∧ VarAt w' q (chR l s err upd).1.length D (chR l s err upd).1 ∧ Still w w') := by
  refine vars_changed_calls _ _ _ _ _ _ _ ?_
  refine (isName_spec s hsl).mono ?_
  rintro _ w1 ⟨rfl, h1⟩
  refine .inl ⟨_, rfl, bsel_of (fun hnm => ?_) (fun hnm => ?_)⟩
  · have hnm : isName s = false := by simpa using hnm
    have e : chR l s err upd = ([], 1) := by unfold chR; rw [if_neg (by rw [hnm]; decide)]
    rw [e]
    exact ⟨none, 0, rfl, VarAt.nil _, h1⟩
  have hnm : isName s = true := by simpa using hnm
  refine (get_spec (h.still h1) hs (by omega) s).mono ?_
  rintro _ w2 ⟨rfl, h2⟩
  refine .inl ⟨_, _, _, _, _, rfl, ?_⟩
  have hst2 := h1.trans h2
  obtain ⟨w0, hw0, hr0, hst0, hs0⟩ := newbox w2
  rw [← hw0]
  obtain ⟨w3, hw3, d1, d2, d3, d4, hr3, hm3⟩ := put4 hr0 (.string (S (getD s l).name)) (.string (S (getD s l).value)) (.bool (getD s l).exp) (.bool (getD s l).ro)
  refine ⟨d1, d2, d3, d4, ?_⟩
  rw [← hw3]
  have hst3 : Still w w3 := (hst2.trans hst0).box hst2.size hm3
  have hr4 := hr3.setl 0 (.string (S s))
  have hst4 : Still w (w3.setCell (Addr.mk w2.heap.size 0 none) (.string (S s))) := hst3.setCell (.inr hst2.size) _
  refine ⟨hr3.wr 0 (by simp), calleeK_mk (g := f) (first := []) (cap := cap) ?_⟩
  rw [hf]
  refine (hch _ w2.heap.size { getD s l with name := s } hst4 hst2.size hr4).mono ?_
  rintro _ w5 ⟨rfl, hm5, hr5⟩
  have hst5 : Still w w5 := hst4.box hst2.size hm5
  refine .inl ⟨_, rfl, bsel_of (fun he => ?_) (fun he => ?_)⟩
  · have he : ¬ err { getD s l with name := s } = 0 := by rw [Bool.not_eq_true'] at he; exact of_decide_eq_false he
    have e : chR l s err upd = ([], err { getD s l with name := s }) := by unfold chR; rw [if_pos hnm, if_neg he]
    rw [e]
    exact ⟨none, 0, rfl, VarAt.nil _, hst5⟩
  have he : err { getD s l with name := s } = 0 := by rw [Bool.not_eq_false'] at he; exact of_decide_eq_true he
  have e : chR l s err upd = (ins (upd { getD s l with name := s }) l, 0) := by unfold chR; rw [if_pos hnm, if_pos he]
  rw [e]
  have hr5 := hr5 he
  have hux := hu { getD s l with name := s }
  generalize upd { getD s l with name := s } = x at hr5 hux ⊢
  have hux : x.name = s := hux
  refine (find_spec (h.still hst5) hs (by omega) s).mono ?_
  rintro _ w6 ⟨rfl, h6⟩
  have hst6 := hst5.trans h6
  have hr6 := hr5.mod h6 (fun h => h)
  have hpl := pos_le s l
  have hl := h.1
  have h6' := h.still hst6
  refine .inl ⟨_, _, rfl, by omega, by omega, fun q L D w7 => L = n - (pos s l + if (get s l).isSome = true then 1 else 0) ∧ pos s l + (if (get s l).isSome = true then 1 else 0) ≤ n ∧ VarAt w6 q L D (l.drop (pos s l + if (get s l).isSome = true then 1 else 0)) ∧ w7 = w6, bsel_of (fun hb => ?_) (fun hb => ?_), ?_⟩
  · obtain ⟨hk, _⟩ := getD_at hb
    rw [Int.toNat_natCast, if_pos hb]
    have hd := (h6'.drop (k := pos s l) (by omega)).drop (k := 1) (by omega)
    rw [List.drop_drop] at hd
    exact ⟨by decide, by omega, by show n - pos s l - 1 = _; omega, by omega, hd, rfl⟩
  · rw [Int.toNat_natCast, if_neg (by rw [hb]; decide)]
    exact ⟨rfl, by omega, h6'.drop (by omega), rfl⟩
  rintro q L D _ w7 ⟨rfl, hkn, hq, rfl⟩
  have hC := h.2.1
  refine ⟨fun wq => Row wq w2.heap.size 31 ⟨vcell x⟩, hr6.drew, by omega, by omega, _, _, _, _, fun wq hq => hq.cellv rfl, fun wq hq => hq.cellv rfl, fun wq hq => hq.cellv rfl, fun wq hq => hq.cellv rfl, ?_⟩
  rw [Int.toNat_natCast]
  have hb1 : Row (w7.drew.alloc (.cells ⟨vcell x⟩ 31)) w7.drew.heap.size 31 ⟨vcell x⟩ := Row.new _ _ _
  have hst8 : Still w7 ((w7.drew.alloc (.cells ⟨vcell x⟩ 31)).alloc (.cells ⟨pcells [(p, pos s l, C, l.take (pos s l)), (some (Addr.mk w7.drew.heap.size 0 none), 1, 1, [x]), (q, n - (pos s l + if (get s l).isSome = true then 1 else 0), D, l.drop (pos s l + if (get s l).isSome = true then 1 else 0))]⟩ 25)) := (((Mod.refl _ _).drew).alloc _).alloc _
  have hx8 : VarAt ((w7.drew.alloc (.cells ⟨vcell x⟩ 31)).alloc (.cells ⟨pcells [(p, pos s l, C, l.take (pos s l)), (some (Addr.mk w7.drew.heap.size 0 none), 1, 1, [x]), (q, n - (pos s l + if (get s l).isSome = true then 1 else 0), D, l.drop (pos s l + if (get s l).isSome = true then 1 else 0))]⟩ 25)) (some (Addr.mk w7.drew.heap.size 0 none)) 1 1 [x] := by
    refine ⟨rfl, Nat.le_refl _, fun _ => ⟨_, rfl, fun j u hu => ?_⟩⟩
    rw [add_row, Nat.zero_add]
    exact (hb1.alloc _).cellv (by simpa [vcs] using hu)
  have hfl : flat [(p, pos s l, C, l.take (pos s l)), (some (Addr.mk w7.drew.heap.size 0 none), 1, 1, [x]), (q, n - (pos s l + if (get s l).isSome = true then 1 else 0), D, l.drop (pos s l + if (get s l).isSome = true then 1 else 0))] = ins x l := by
    rw [← put_eq x l, hux]
    simp [flat]
  have hil := ins_length x l
  refine (concat_spec (P := [(p, pos s l, C, l.take (pos s l)), (some (Addr.mk w7.drew.heap.size 0 none), 1, 1, [x]), (q, n - (pos s l + if (get s l).isSome = true then 1 else 0), D, l.drop (pos s l + if (get s l).isSome = true then 1 else 0))]) (Row.new _ _ _) (fun y hy => ?_) (by simp) (by rw [hfl, hil]; split <;> omega)).mono ?_
  · simp only [List.mem_cons, List.not_mem_nil, or_false] at hy
    rcases hy with rfl | rfl | rfl
    · exact (h6'.take (k := pos s l) (by omega)).still hst8
    · exact hx8
    · exact hq.still hst8
  · rw [hfl]
    rintro _ w9 ⟨r, E, rfl, hv, h9⟩
    exact .inl ⟨_, _, _, rfl, r, E, rfl, hv, (hst6.trans hst8).trans h9⟩
end Go.Proofs.YtgincpkggnndeaaGreatDoor
