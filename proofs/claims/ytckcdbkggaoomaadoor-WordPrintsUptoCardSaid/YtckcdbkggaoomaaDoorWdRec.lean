/- Parts looked through: whether there is a command, and parts that are all quoted; the program's and the reference's. Conditions: as each theorem names them. -/
import Derived.Test.YtckcdbkggaoomaaDoorWdAdd
namespace Go.Proofs.YtckcdbkggaoomaaDoor
open Go.RowKit Vc
variable {w : World}

theorem SlAt.fields {F : Nat → Prop} {l : List Pt} {p : Option Addr} {n c : Nat} (h : SlAt w F l (.slice p n c)) {i : Nat} (hi : i < l.length) : ∃ b wp wc, p = some b ∧ w.cell? (b.add (i * 6)) = some (.int .i64 l[i].k) ∧ w.cell? ((b.add (i * 6)).add 1) = some (.bool l[i].q) ∧ w.cell? ((b.add (i * 6)).add 2) = some (.string (S l[i].t)) ∧ w.cell? ((b.add (i * 6)).add 3) = some (.string (S l[i].n)) ∧ w.cell? ((b.add (i * 6)).add 4) = some (.string (S l[i].o)) ∧
    w.cell? ((b.add (i * 6)).add 5) = some (.slice wp l[i].w.length wc) ∧ SlAt w F l[i].w (.slice wp l[i].w.length wc) := by
  obtain ⟨b, v, rfl, _, hc, hs⟩ := h.get (List.getElem?_eq_getElem hi)
  obtain ⟨wp, wc, rfl⟩ := hs.form
  have a0 : (b.add (i * 6)).add 0 = b.add (i * 6) := by unfold Addr.add; simp
  refine ⟨b, wp, wc, rfl, ?_, hc 1 _ rfl, hc 2 _ rfl, hc 3 _ rfl, hc 4 _ rfl, hc 5 _ rfl, hs⟩
  have := hc 0 _ rfl
  rwa [a0] at this
theorem take_one {α : Type} {l : List α} {k : Nat} (h : k < l.length) : l.take (k + 1) = l.take k ++ [l[k]] := by rw [List.take_add_one, List.getElem?_eq_getElem h]; rfl
theorem wt_take {l : List Pt} {k : Nat} (h : k < l.length) : wtL (l.take k) + l[k].wt ≤ wtL l := by
  have e : l = l.take k ++ (l[k] :: l.drop (k + 1)) := by rw [← List.drop_eq_getElem_cons h, List.take_append_drop]
  have h2 := wtL_append (l.take k) (l[k] :: l.drop (k + 1))
  rw [← e] at h2
  simp only [wtL] at h2
  omega
theorem hasL_app : ∀ a b : List Pt, hasL (a ++ b) = (hasL a || hasL b)
  | [], _ => rfl
  | p :: a, b => by simp only [List.cons_append, hasL, hasL_app a b, Bool.or_assoc]
theorem hasL_cut {l : List Pt} {k : Nat} (h : k < l.length) (hk : hasL (l.take k) = false) : (l[k].k = 2 → hasL l = true) ∧ (hasL l[k].w = true → hasL l = true) ∧ (l[k].k ≠ 2 → hasL l[k].w = false → hasL (l.take (k + 1)) = false) := by
  have hp : l[k].has = (decide (l[k].k = 2) || hasL l[k].w) := by
    generalize l[k] = p
    cases p
    rfl
  have mem : l[k].has = true → hasL l = true := fun h2 => hasL_mem.2 ⟨_, List.getElem_mem h, h2⟩
  refine ⟨fun h2 => mem (by rw [hp, h2]; rfl), fun h2 => mem (by rw [hp, h2, Bool.or_true]), fun h2 h3 => ?_⟩
  rw [take_one h, hasL_app, hk]
  simp only [hasL, hp, h3, decide_eq_false h2]
  rfl
theorem word_of {l : List Pt} {k : Nat} (h : k < l.length) : SizeOf.sizeOf l[k].w < SizeOf.sizeOf l := mem_size (List.getElem_mem h)
theorem wt_word {l : List Pt} {k : Nat} (h : k < l.length) : wtL l[k].w ≤ wtL l := by
  have h1 := wtL_mem (List.getElem_mem h)
  have h2 := l[k].wt_eq
  omega
theorem one6 {x : Pt} {wp : Option Addr} {n wc : Nat} : ∀ v ∈ [Value.int .i64 x.k, .bool x.q, .string (S x.t), .string (S x.n), .string (S x.o), .slice wp n wc], v.oneCell' = true := by simp [Value.oneCell']
theorem has_of : ∀ (n : Nat) (l : List Pt), SizeOf.sizeOf l < n → wtL l < 500000000 → ∀ (w : World) (F : Nat → Prop) (v : Value), SlAt w F l v → Calls Tryd.prog fn_word_has #[v] w (fun e w' => e = .returned (.bool (hasL l)) ∧ Still w w') := by
  intro n
  induction n with
  | zero => intro l h; omega
  | succ n ih =>
    intro l hn hl w F v hv
    obtain ⟨p, c, rfl⟩ := hv.form
    have hwl := wtL_len l
    refine word_has_calls _ _ _ _ _ ?_
    refine ⟨fun x w1 => ∃ k : Nat, x = (k : Int) ∧ k ≤ l.length ∧ hasL (l.take k) = false ∧ Still w w1, fun x _ => l.length - x.toNat, ⟨0, rfl, Nat.zero_le _, rfl, Still.refl _⟩, ?_⟩
    rintro _ _ w1 ⟨k, rfl, hk, hh, hs1⟩
    refine bsel_of (fun hx => ?_) (fun hx => ?_)
    rotate_left
    · have hx : k = l.length := by have := of_decide_eq_false hx; omega
      rw [hx, List.take_length] at hh
      rw [hh]
      exact ⟨rfl, hs1⟩
    have hx : k < l.length := by have := of_decide_eq_true hx; omega
    obtain ⟨b, wp, wc, rfl, c0, c1, c2, c3, c4, c5, hsw⟩ := (hv.still hs1).fields hx
    obtain ⟨h2, h3, h4⟩ := hasL_cut hx hh
    rw [Int.toNat_natCast]
    refine ⟨by omega, by omega, _, _, _, _, _, _, _, _, c0, c1, c2, c3, c4, c5, boxK rfl one6 fun w3 r3 s3 z3 => ⟨_, r3.lget rfl, bsel_of (fun hk2 => ?_) (fun hk2 => ?_)⟩⟩
    · rw [h2 (of_decide_eq_true hk2)]
      exact ⟨rfl, hs1.trans s3⟩
    · refine ⟨_, _, _, r3.lget rfl, (ih _ (by have := word_of hx; omega) (by have := wt_word hx; omega) w3 F _ (hsw.still s3)).mono ?_⟩
      rintro _ w4 ⟨rfl, s4⟩
      refine .inl ⟨_, rfl, bsel_of (fun hb => ?_) (fun hb => ?_)⟩
      · rw [h3 hb]
        exact ⟨rfl, (hs1.trans s3).trans s4⟩
      · rw [show IntKind.i64.wrap ((k : Int) + 1) = ((k + 1 : Nat) : Int) by rw [wrap_i64 (by omega) (by omega)]; omega]
        exact ⟨⟨k + 1, rfl, hx, h4 (of_decide_eq_false hk2) hb, (hs1.trans s3).trans s4⟩, by dsimp only; omega⟩
theorem has_spec {F : Nat → Prop} {l : List Pt} {v : Value} (hv : SlAt w F l v) (hl : wtL l < 500000000) : Calls Tryd.prog fn_word_has #[v] w (fun e w' => e = .returned (.bool (hasL l)) ∧ Still w w') := has_of _ l (Nat.lt_succ_self _) hl w F v hv
theorem commands_of : ∀ (n : Nat) (l : List Pt), SizeOf.sizeOf l < n → wtL l < 500000000 → ∀ (w : World) (F : Nat → Prop) (v : Value), SlAt w F l v → Calls Tryd.prog fn_ref08_commands #[v] w (fun e w' => e = .returned (.bool (hasL l)) ∧ Still w w') := by
  intro n
  induction n with
  | zero => intro l h; omega
  | succ n ih =>
    intro l hn hl w F v hv
    obtain ⟨p, c, rfl⟩ := hv.form
    have hwl := wtL_len l
    refine ref08_commands_calls _ _ _ _ _ ?_
    refine ⟨fun x w1 => ∃ k : Nat, x = (k : Int) ∧ k ≤ l.length ∧ hasL (l.take k) = false ∧ Still w w1, fun x _ => l.length - x.toNat, ⟨0, rfl, Nat.zero_le _, rfl, Still.refl _⟩, ?_⟩
    rintro _ _ w1 ⟨k, rfl, hk, hh, hs1⟩
    refine bsel_of (fun hx => ?_) (fun hx => ?_)
    rotate_left
    · have hx : k = l.length := by have := of_decide_eq_false hx; omega
      rw [hx, List.take_length] at hh
      rw [hh]
      exact ⟨rfl, hs1⟩
    have hx : k < l.length := by have := of_decide_eq_true hx; omega
    obtain ⟨b, wp, wc, rfl, c0, c1, c2, c3, c4, c5, hsw⟩ := (hv.still hs1).fields hx
    obtain ⟨h2, h3, h4⟩ := hasL_cut hx hh
    rw [Int.toNat_natCast]
    refine ⟨by omega, by omega, _, c0, bsel_of (fun hk2 => ?_) (fun hk2 => ?_)⟩
    · rw [h2 (of_decide_eq_true hk2)]
      exact ⟨rfl, hs1⟩
    · refine ⟨by omega, by omega, _, _, _, c5, (ih _ (by have := word_of hx; omega) (by have := wt_word hx; omega) w1 F _ hsw).mono ?_⟩
      rintro _ w4 ⟨rfl, s4⟩
      refine .inl ⟨_, rfl, bsel_of (fun hb => ?_) (fun hb => ?_)⟩
      · rw [h3 hb]
        exact ⟨rfl, hs1.trans s4⟩
      · rw [show IntKind.i64.wrap ((k : Int) + 1) = ((k + 1 : Nat) : Int) by rw [wrap_i64 (by omega) (by omega)]; omega]
        exact ⟨⟨k + 1, rfl, hx, h4 (of_decide_eq_false hk2) hb, hs1.trans s4⟩, by dsimp only; omega⟩
theorem commands_spec {F : Nat → Prop} {l : List Pt} {v : Value} (hv : SlAt w F l v) (hl : wtL l < 500000000) : Calls Tryd.prog fn_ref08_commands #[v] w (fun e w' => e = .returned (.bool (hasL l)) ∧ Still w w') := commands_of _ l (Nat.lt_succ_self _) hl w F v hv

/-! ### Parts that are all quoted -/
theorem qdL_step {l : List Pt} {k : Nat} (h : k < l.length) : qdL [] (l.take (k + 1)) = addP (qdL [] (l.take k)) l[k].qd := by
  rw [qdL_fold, qdL_fold, take_one h, List.map_append, List.foldl_append]
  rfl
theorem qd_shape (x : Pt) : x.qd = .mk x.k true x.t x.n x.o (qdL [] x.w) := by cases x; rfl
theorem OutAt.ownLt {B : Nat} {l : List Pt} {v : Value} (h : OutAt w B l v) {k : Nat} (hk : v.ownBlock = some k) : B ≤ k ∧ k < w.heap.size := by
  obtain ⟨p, c, xs, rfl, ho, _⟩ := h
  exact ho.lt k hk
theorem quoted_of : ∀ (n : Nat) (l : List Pt), SizeOf.sizeOf l < n → wtL l < 500000000 → ∀ (w : World) (F : Nat → Prop) (v : Value), SlAt w F l v →
    Calls Tryd.prog fn_word_quoted #[v] w (fun e w' => ∃ v', e = .returned v' ∧ SlAt w' (fun k => w.heap.size ≤ k ∧ k < w'.heap.size) (qdL [] l) v' ∧ Still w w') := by
  intro n
  induction n with
  | zero => intro l h; omega
  | succ n ih =>
    intro l hn hl w F v hv
    obtain ⟨p, c, rfl⟩ := hv.form
    have hwl := wtL_len l
    refine word_quoted_calls _ _ _ _ _ ?_
    refine ⟨fun out outL outC x w1 => ∃ k : Nat, x = (k : Int) ∧ k ≤ l.length ∧ OutAt w1 w.heap.size (qdL [] (l.take k)) (.slice out outL outC) ∧ Still w w1, fun _ _ _ x _ => l.length - x.toNat, ⟨0, rfl, Nat.zero_le _, OutAt.nil _ _, Still.refl _⟩, ?_⟩
    rintro out outL outC _ _ w1 ⟨k, rfl, hk, ho, hs1⟩
    refine bsel_of (fun hx => ?_) (fun hx => ?_)
    rotate_left
    · have hx : k = l.length := by have := of_decide_eq_false hx; omega
      rw [hx, List.take_length] at ho
      exact ⟨_, rfl, ho.sl, hs1⟩
    have hx : k < l.length := by have := of_decide_eq_true hx; omega
    obtain ⟨b, wp, wc, rfl, c0, c1, c2, c3, c4, c5, hsw⟩ := (hv.still hs1).fields hx
    rw [Int.toNat_natCast]
    refine ⟨by omega, by omega, _, _, _, _, _, _, _, _, c0, c1, c2, c3, c4, c5, boxK rfl one6 fun w3 r3 s3 z3 => ⟨_, _, _, r3.lget rfl, (ih _ (by have := word_of hx; omega) (by have := wt_word hx; omega) w3 F _ (hsw.still s3)).mono ?_⟩⟩
    rintro _ w4 ⟨v4, rfl, hs4, s4⟩
    obtain ⟨rp, rc, rfl⟩ := hs4.form
    refine .inl ⟨_, _, _, rfl, ?_⟩
    have r4 := r3.still s4
    refine stK r4 (by simp) (by simp [Value.oneCell']) fun w5 r5 m5 z5 => stK r5 (by simp [ovw]) (by simp [Value.oneCell']) fun w6 r6 m6 z6 => ?_
    have hsz := s3.size
    have hsz4 := s4.size
    have m16 : Still w1 w6 := Mod.trans (Mod.trans (s3.trans s4) m5 (U := fun k => k = w1.heap.size) (fun _ h => h.elim) (fun _ _ h => h)) m6 (U := fun k => k = w1.heap.size) (fun _ h => h) (fun _ _ h => h) |>.block |> fun hb => ⟨m6.os.trans (m5.os.trans (s3.trans s4).os), m6.tape.trans (m5.tape.trans (s3.trans s4).tape), m6.output.trans (m5.output.trans (s3.trans s4).output), by have := m6.size; have := m5.size; omega, fun i hi _ => hb i hi (by omega)⟩
    have m46 : Mod (fun k => k = w1.heap.size) w4 w6 := Mod.trans m5 m6 (fun _ h => h) (fun _ _ h => h)
    have ho6 := ho.still m16
    have hq6 : SlAt w6 (fun k => w.heap.size ≤ k ∧ k < w6.heap.size ∧ (Value.slice out outL outC).ownBlock ≠ some k) (qdL [] l[k].w) (.slice rp (qdL [] l[k].w).length rc) :=
      (hs4.mod m46 (fun j hj e => by have := hj.1; omega)).mono fun j hj => ⟨by have := hj.1; have := hs1.size; omega, by have := hj.2; have := m46.size; omega, fun e => by have := (ho.ownLt e).2; have := hj.1; omega⟩
    have hwk := wt_take hx
    have hq1 := wt_qdL (l.take k) []
    have hq2 := l[k].wt_qd
    simp only [wtL] at hq1
    have hadd := add_spec (x := l[k].qd) ho6 (by have := hs1.size; have := m16.size; omega) (by rw [qd_shape]; exact hq6) (by omega)
    rw [qd_shape] at hadd
    refine ⟨_, _, _, _, _, _, _, _, r6.lget rfl, r6.lget rfl, r6.lget rfl, r6.lget rfl, r6.lget rfl, r6.lget rfl, hadd.mono ?_⟩
    rintro _ w7 ⟨v7, rfl, ho7, m7, _⟩
    rw [← qd_shape, ← qdL_step hx] at ho7
    obtain ⟨p7, c7, xs7, rfl, hown7, hcs7⟩ := ho7
    have s17 : Still w w7 := Mod.trans (hs1.trans m16) m7 (fun _ h => h) fun j hj e => by have := (ho.ownLt e).1; omega
    rw [show IntKind.i64.wrap ((k : Int) + 1) = ((k + 1 : Nat) : Int) by rw [wrap_i64 (by omega) (by omega)]; omega]
    exact .inl ⟨_, _, _, rfl, ⟨k + 1, rfl, hx, ⟨p7, c7, xs7, rfl, hown7, hcs7⟩, s17⟩, by dsimp only; omega⟩
theorem quoted_spec {F : Nat → Prop} {l : List Pt} {v : Value} (hv : SlAt w F l v) (hl : wtL l < 500000000) : Calls Tryd.prog fn_word_quoted #[v] w (fun e w' => ∃ v', e = .returned v' ∧ SlAt w' (fun k => w.heap.size ≤ k ∧ k < w'.heap.size) (qdL [] l) v' ∧ Still w w') := quoted_of _ l (Nat.lt_succ_self _) hl w F v hv
theorem quotes_of : ∀ (n : Nat) (l : List Pt), SizeOf.sizeOf l < n → wtL l < 500000000 → ∀ (w : World) (F : Nat → Prop) (v : Value), SlAt w F l v →
    Calls Tryd.prog fn_ref08_quotes #[v] w (fun e w' => ∃ v', e = .returned v' ∧ SlAt w' (fun k => w.heap.size ≤ k) (qdL [] l) v' ∧ Still w w') := by
  intro n
  induction n with
  | zero => intro l h; omega
  | succ n ih =>
    intro l hn hl w F v hv
    obtain ⟨p, c, rfl⟩ := hv.form
    have hwl := wtL_len l
    refine ref08_quotes_calls _ _ _ _ _ ?_
    refine ⟨fun out outL outC x w1 => ∃ k : Nat, x = (k : Int) ∧ k ≤ l.length ∧ SlAt w1 (fun k => w.heap.size ≤ k) (qdL [] (l.take k)) (.slice out outL outC) ∧ Still w w1, fun _ _ _ x _ => l.length - x.toNat, ⟨0, rfl, Nat.zero_le _, SlAt.nil _ _ _ _, Still.refl _⟩, ?_⟩
    rintro out outL outC _ _ w1 ⟨k, rfl, hk, ho, hs1⟩
    refine bsel_of (fun hx => ?_) (fun hx => ?_)
    rotate_left
    · have hx : k = l.length := by have := of_decide_eq_false hx; omega
      rw [hx, List.take_length] at ho
      exact ⟨_, rfl, ho, hs1⟩
    have hx : k < l.length := by have := of_decide_eq_true hx; omega
    obtain ⟨b, wp, wc, rfl, c0, c1, c2, c3, c4, c5, hsw⟩ := (hv.still hs1).fields hx
    rw [Int.toNat_natCast]
    refine ⟨by omega, by omega, _, _, _, _, _, _, _, _, c0, c1, c2, c3, c4, c5, boxK rfl one6 fun w3 r3 s3 z3 => stK r3 (by simp) (by simp [Value.oneCell']) fun w4 r4 m4 z4 => ?_⟩
    have s4 : Still w1 w4 := s3.box (Nat.le_refl _) m4
    refine ⟨_, _, _, r4.lget rfl, (ih _ (by have := word_of hx; omega) (by have := wt_word hx; omega) w4 F _ (hsw.still s4)).mono ?_⟩
    rintro _ w5 ⟨v5, rfl, hs5, s5⟩
    obtain ⟨rp, rc, rfl⟩ := hs5.form
    refine .inl ⟨_, _, _, rfl, ?_⟩
    have s15 := s4.trans s5
    refine stK (r4.still s5) (by simp [ovw]) (by simp [Value.oneCell']) fun w6 r6 m6 z6 => ?_
    have s16 : Still w1 w6 := s15.box (Nat.le_refl _) m6
    have hsz := s3.size
    have hq6 : SlAt w6 (fun k => w.heap.size ≤ k) (qdL [] l[k].w) (.slice rp (qdL [] l[k].w).length rc) :=
      (hs5.mod m6 (fun j hj e => by omega)).mono fun j hj => by have := hs1.size; omega
    have hwk := wt_take hx
    have hq1 := wt_qdL (l.take k) []
    have hq2 := l[k].wt_qd
    simp only [wtL] at hq1
    have hadd := ref_Add_spec (x := l[k].qd) (ho.still s16) (by have := hs1.size; have := s16.size; omega) (by rw [qd_shape]; exact hq6) (by omega)
    rw [qd_shape] at hadd
    refine ⟨_, _, _, _, _, _, _, _, r6.lget rfl, r6.lget rfl, r6.lget rfl, r6.lget rfl, r6.lget rfl, r6.lget rfl, hadd.mono ?_⟩
    rintro _ w7 ⟨v7, rfl, ho7, s7⟩
    rw [← qd_shape, ← qdL_step hx] at ho7
    obtain ⟨p7, c7, rfl⟩ := ho7.form
    rw [show IntKind.i64.wrap ((k : Int) + 1) = ((k + 1 : Nat) : Int) by rw [wrap_i64 (by omega) (by omega)]; omega]
    exact .inl ⟨_, _, _, rfl, ⟨k + 1, rfl, hx, ho7, (hs1.trans s16).trans s7⟩, by dsimp only; omega⟩
theorem quotes_spec {F : Nat → Prop} {l : List Pt} {v : Value} (hv : SlAt w F l v) (hl : wtL l < 500000000) : Calls Tryd.prog fn_ref08_quotes #[v] w (fun e w' => ∃ v', e = .returned v' ∧ SlAt w' (fun k => w.heap.size ≤ k) (qdL [] l) v' ∧ Still w w') := quotes_of _ l (Nat.lt_succ_self _) hl w F v hv
end Go.Proofs.YtckcdbkggaoomaaDoor
