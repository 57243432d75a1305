/- Words: the laws, at the walk's level. Conditions: as each theorem names them. -/
import Derived.Test.YtckcdbkggaoomaaDoorWdRef
import Derived.Test.YtckcdbkggaoomaaDoorWdPrint
import Derived.Test.YtckcdbkggaoomaaDoorWdSame
import Derived.Test.YtckcdbkggaoomaaDoorWdLawP
namespace Go.Proofs.YtckcdbkggaoomaaDoor
open Go.RowKit Vc
variable {w : World}

def resL (r : Rs (List Pt)) : List Pt × Nat := match r with
  | .ok l => (l, 0)
  | .bad k => ([], k)
theorem resL_ok {s : Txt} (h : (resL (wpL 30 s)).2 = 0) : wpL 30 s = .ok (resL (wpL 30 s)).1 := by
  cases hw : wpL 30 s with
  | ok l => rfl
  | bad k =>
    rw [hw] at h
    have h : k = 0 := h
    exact absurd hw (by rw [h]; exact wpL_nz 30 s)
theorem resL_bad {s : Txt} (h : (resL (wpL 30 s)).2 ≠ 0) : (resL (wpL 30 s)).1 = [] := by
  cases hw : wpL 30 s with
  | ok l =>
    rw [hw] at h
    exact absurd rfl h
  | bad k => rfl
theorem resL_wt (s : Txt) : wtL (resL (wpL 30 s)).1 ≤ 12 * s.length := by
  cases hw : wpL 30 s with
  | ok l => exact wpL_wt 30 s l hw
  | bad k => exact Nat.zero_le _
def Got (w : World) (r : List Pt × Nat) (e : Ending) (w' : World) : Prop := ∃ p c, e = .returned (.tuple #[.slice p r.1.length c, .int .i64 (r.2 : Int)]) ∧ SlAt w' (fun _ => True) r.1 (.slice p r.1.length c) ∧ Still w w'
theorem parse_got (s : Txt) (hs : s.length < 1000000) : Calls Tryd.prog fn_word_Parse #[.string (S s)] w (Got w (resL (wpL 30 s))) := by
  refine (Parse_spec s hs).mono ?_
  rintro e w1 ⟨h, s1⟩
  cases hw : wpL 30 s with
  | bad k =>
    rw [hw] at h
    exact ⟨none, 0, h, SlAt.nil _ _ _ _, s1⟩
  | ok l =>
    rw [hw] at h
    obtain ⟨v, rfl, hsl⟩ := h
    obtain ⟨p, c, rfl⟩ := hsl.form
    exact ⟨p, c, rfl, hsl.any, s1⟩
theorem ref_got (s : Txt) (hs : s.length < 1000000) : Calls Tryd.prog fn_ref08_Parse #[.string (S s)] w (Got w (resL (wpL 30 s))) := by
  refine (ref_Parse_spec s hs).mono ?_
  rintro e w1 ⟨h, s1⟩
  cases hw : wpL 30 s with
  | bad k =>
    rw [hw] at h
    exact ⟨none, 0, h, SlAt.nil _ _ _ _, s1⟩
  | ok l =>
    rw [hw] at h
    obtain ⟨v, rfl, hsl⟩ := h
    obtain ⟨p, c, rfl⟩ := hsl.form
    exact ⟨p, c, rfl, hsl.any, s1⟩
theorem same_true {F G : Nat → Prop} {l : List Pt} {u v : Value} (hu : SlAt w F l u) (hv : SlAt w G l v) (hl : wtL l < 500000000) :
    Calls Tryd.prog fn_ref08_Same #[u, v] w (fun e w' => e = .returned (.bool true) ∧ Still w w') := by
  refine (Same_spec hu hv hl).mono ?_
  rintro _ w1 ⟨⟨b, rfl, hb⟩, s1⟩
  rw [hb.2 rfl]
  exact ⟨rfl, s1⟩
theorem SlAt.row {g c : Nat} {l : List Pt} {xs : List Value} (hr : Row w g 39 ⟨xs⟩) (hc : Cs w (fun _ => True) l xs) (hl : l.length ≤ c) : SlAt w (fun _ => True) l (.slice (some ⟨g, 0, none⟩) l.length c) :=
  ⟨_, c, rfl, hl, fun _ => ⟨_, rfl, trivial, hc.at fun j u hu => by rw [add_row, Nat.zero_add]; exact hr.lget hu⟩⟩
theorem Cs.one1 {F : Nat → Prop} (x : Pt) (hx : x.w = []) (p : Option Addr) (c : Nat) : Cs w F [x] (pcell x (.slice p 0 c)) := ⟨.slice p 0 c, [], (List.append_nil _).symm, by rw [hx]; exact SlAt.nil _ _ _ _, rfl⟩

/-! ### A tree's size -/
theorem size_of : ∀ (n : Nat) (l : List Pt), SizeOf.sizeOf l < n → wtL l < 1000000000 → ∀ (w : World) (F : Nat → Prop) (v : Value) (most : Nat), SlAt w F l v → most ≤ 1000 → Calls Tryd.prog fn_ref08_Size #[v, .int .i64 (most : Int)] w (fun e w' => (∃ k : Nat, e = .returned (.int .i64 (k : Int)) ∧ k ≤ wtL l ∧ (k ≤ most → wtL l ≤ 8 * k)) ∧ Still w w') := by
  intro n
  induction n with
  | zero => intro l h; omega
  | succ n ih =>
    intro l hn hl w F v most hv hmost
    obtain ⟨p, c, rfl⟩ := hv.form
    have hwl := wtL_len l
    refine ref08_Size_calls _ _ _ _ _ _ ?_
    refine ⟨fun x i w1 => ∃ k j : Nat, x = (k : Int) ∧ i = (j : Int) ∧ j ≤ l.length ∧ k ≤ wtL (l.take j) ∧ (k ≤ most → wtL (l.take j) ≤ 8 * k) ∧ Still w w1, fun _ i _ => l.length - i.toNat, ⟨0, 0, rfl, rfl, Nat.zero_le _, Nat.zero_le _, fun _ => by simp [wtL], Still.refl _⟩, ?_⟩
    rintro _ _ _ w1 ⟨k, j, rfl, rfl, hj, hk, hk2, s1⟩
    refine bsel_of (fun hx => bsel_of (fun hy => ?_) (fun hy => ?_)) (fun hx => ?_)
    · have hx : j < l.length := by have := of_decide_eq_true hx; omega
      have hy : k ≤ most := by have := of_decide_eq_true hy; omega
      obtain ⟨b, wp, wc, rfl, c0, c1, c2, c3, c4, c5, hsw⟩ := (hv.still s1).fields hx
      have hwt := wt_take hx
      have hwe := l[j].wt_eq
      have hk3 := hk2 hy
      simp only [Int.toNat_natCast]
      have e0 : IntKind.i64.wrap ((most : Int) - (k : Int)) = ((most - k : Nat) : Int) := by rw [wrap_i64 (by omega) (by omega)]; omega
      rw [e0]
      refine ⟨fun wq => Still w1 wq, drew_still _, by omega, by omega, _, (fun wq (hq : Still w1 wq) => hq.cell c2), by omega, by omega, _, (fun wq (hq : Still w1 wq) => hq.cell c3), by omega, by omega, _, (fun wq (hq : Still w1 wq) => hq.cell c4), by omega, by omega, _, _, _, (fun wq (hq : Still w1 wq) => hq.cell c5), ?_⟩
      refine (ih _ (by have := word_of hx; omega) (by omega) w1.drew F _ (most - k) (hsw.still (drew_still _)) (by omega)).mono ?_
      rintro _ w2 ⟨⟨r, rfl, hr, hr2⟩, s2⟩
      have s12 : Still w1 w2 := (drew_still w1).trans s2
      have htk : wtL (l.take (j + 1)) = wtL (l.take j) + l[j].wt := by rw [take_one hx, wtL_append, wtL_one]
      have e1 : IntKind.i64.wrap (IntKind.i64.wrap (IntKind.i64.wrap (IntKind.i64.wrap (IntKind.i64.wrap ((k : Int) + 1) + (l[j].t.length : Int)) + (l[j].n.length : Int)) + (l[j].o.length : Int)) + (r : Int)) = ((k + 1 + l[j].t.length + l[j].n.length + l[j].o.length + r : Nat) : Int) := by
        rw [wrap_i64 (n := (k : Int) + 1) (by omega) (by omega), wrap_i64 (n := (k : Int) + 1 + (l[j].t.length : Int)) (by omega) (by omega), wrap_i64 (n := (k : Int) + 1 + (l[j].t.length : Int) + (l[j].n.length : Int)) (by omega) (by omega), wrap_i64 (n := (k : Int) + 1 + (l[j].t.length : Int) + (l[j].n.length : Int) + (l[j].o.length : Int)) (by omega) (by omega), wrap_i64 (by omega) (by omega)]
        omega
      have e2 : IntKind.i64.wrap ((j : Int) + 1) = ((j + 1 : Nat) : Int) := by rw [wrap_i64 (by omega) (by omega)]; omega
      refine .inl ⟨_, rfl, ?_⟩
      rw [e1, e2]
      refine ⟨s12, ⟨_, j + 1, rfl, rfl, hx, by omega, fun h => ?_, s1.trans s12⟩, by omega⟩
      have := hr2 (by omega)
      omega
    · have hy : ¬ k ≤ most := by have := of_decide_eq_false hy; omega
      refine ⟨⟨k, rfl, ?_, fun h => absurd h hy⟩, s1⟩
      have e : l = l.take j ++ l.drop j := (List.take_append_drop _ _).symm
      have h2 := wtL_append (l.take j) (l.drop j)
      rw [← e] at h2
      omega
    · have hx : j = l.length := by have := of_decide_eq_false hx; omega
      rw [hx, List.take_length] at hk hk2
      exact ⟨⟨k, rfl, hk, hk2⟩, s1⟩

/-! ### The laws -/
theorem awake_spec : Calls Tryd.prog fn_law08_awake #[] w (fun e w' => e = .returned (.bool true) ∧ Still w w') := by
  refine law08_awake_calls _ _ ?_
  have e1 : resL (wpL 30 [97, 39, 98, 39, 36, 99]) = ([tx false [97], tx true [98], .mk 1 false [] [99] [] []], 0) := by kernel_rfl
  have e2 : resL (wpL 30 [34, 36, 123, 120, 58, 45, 121, 125, 34]) = ([.mk 1 true [] [120] [58, 45] [tx true [121]]], 0) := by kernel_rfl
  have e3 : resL (wpL 30 [36, 123, 125]) = ([], 90) := by kernel_rfl
  have h1 := parse_got (w := w) [97, 39, 98, 39, 36, 99] (by decide)
  have l1 := resL_wt [97, 39, 98, 39, 36, 99]
  have l2 := resL_wt [34, 36, 123, 120, 58, 45, 121, 125, 34]
  rw [e1] at h1 l1
  rw [e2] at l2
  simp only [List.length_cons, List.length_nil] at l1 l2
  refine h1.mono ?_
  rintro _ w1 ⟨p1, c1, rfl, hp1, s1⟩
  have h2 := parse_got (w := w1) [34, 36, 123, 120, 58, 45, 121, 125, 34] (by decide)
  rw [e2] at h2
  refine .inl ⟨_, _, _, _, rfl, h2.mono ?_⟩
  rintro _ w2 ⟨p2, c2, rfl, hp2, s2⟩
  have h3 := parse_got (w := w2) [36, 123, 125] (by decide)
  rw [e3] at h3
  refine .inl ⟨_, _, _, _, rfl, h3.mono ?_⟩
  rintro _ w3 ⟨p3, c3, rfl, hp3, s3⟩
  refine .inl ⟨_, _, _, _, rfl, bsel_of (fun _ => ?_) (fun h => absurd rfl (of_decide_eq_false h))⟩
  refine allocK fun w4 r4 s4 z4 => ?_
  refine (same_true (((hp1.still s2).still s3).still s4) (SlAt.row (c := 3) (l := [tx false [97], tx true [98], .mk 1 false [] [99] [] []]) r4 ⟨.slice none 0 0, _, rfl, SlAt.nil _ _ _ _, .slice none 0 0, _, rfl, SlAt.nil _ _ _ _, .slice none 0 0, _, rfl, SlAt.nil _ _ _ _, rfl⟩ (by decide)) (by dsimp only; omega)).mono ?_
  rintro _ w5 ⟨rfl, s5⟩
  refine .inl ⟨_, rfl, bsel_of (fun _ => bsel_of (fun _ => ?_) (fun h => absurd rfl (of_decide_eq_false h))) (fun h => by cases h)⟩
  refine allocK fun w6 r6 s6 z6 => allocK fun w7 r7 s7 z7 => ?_
  have hy : SlAt w7 (fun _ => True) [tx true [121]] (.slice (some ⟨w5.heap.size, 0, none⟩) 1 1) := SlAt.row (c := 1) (l := [tx true [121]]) (r6.still s7) ⟨.slice none 0 0, _, rfl, SlAt.nil _ _ _ _, rfl⟩ (by decide)
  refine (same_true ((((hp2.still s3).still s4).still s5).still (s6.trans s7)) (SlAt.row (c := 1) (l := [.mk 1 true [] [120] [58, 45] [tx true [121]]]) r7 ⟨_, _, rfl, hy, rfl⟩ (by decide)) (by dsimp only; omega)).mono ?_
  rintro _ w8 ⟨rfl, s8⟩
  exact .inl ⟨_, rfl, bsel_of (fun _ => ⟨rfl, ((((((s1.trans s2).trans s3).trans s4).trans s5).trans s6).trans s7).trans s8⟩) (fun h => by cases h)⟩
def sg08 : List Txt := [[97], [39, 98, 32, 99, 39], [34], [36, 120], [36, 123, 120, 125], [36, 123, 121, 58, 45], [125], [36, 123, 35, 120, 125], [36, 40, 99, 32, 100, 41], [36, 40, 40, 49, 43, 50, 41, 41], [92], [36], [36, 123, 122, 37, 37], [42], [36, 123, 49, 58, 61, 119, 125], [39], [36, 123, 120, 61, 36, 120, 125], [36, 64], [36, 123, 64, 125], [36, 49], [36, 123, 49, 50, 125], [126], [36, 123, 120], [36, 123, 35, 125]]
theorem Signs_spec : Calls Tryd.prog fn_law08_Signs #[] w (fun e w' => ∃ q, e = .returned (.slice q sg08.length 24) ∧ StrsAt w' q sg08.length sg08 ∧ Still w w') := by
  refine law08_Signs_calls _ _ ?_
  exact allocK fun w1 r1 s1 z1 => ⟨_, rfl, StrsAt.row (l := sg08) r1, s1⟩
/-- Program and reference, at a text. -/
theorem both_spec (s : Txt) (hs : s.length < 1000000) {Q : World → Prop} {p1 c1 p2 c2} (h1 : SlAt w (fun _ => True) (resL (wpL 30 s)).1 (.slice p1 (resL (wpL 30 s)).1.length c1)) (h2 : SlAt w (fun _ => True) (resL (wpL 30 s)).1 (.slice p2 (resL (wpL 30 s)).1.length c2)) :
    Calls Tryd.prog fn_ref08_Same #[.slice p1 (resL (wpL 30 s)).1.length c1, .slice p2 (resL (wpL 30 s)).1.length c2] w (fun e w' => e = .returned (.bool true) ∧ Still w w') := by
  have := resL_wt s
  exact same_true h1 h2 (by omega)
theorem WordSmall_spec {l : Option Addr} {lL lC : Nat} {vs : List Nat} (hl : U8At w l lL vs) : Calls Tryd.prog fn_law08_WordSmall #[.slice l lL lC] w (fun e w' => e = .returned (.bool true) ∧ Still w w') := by
  refine law08_WordSmall_calls _ _ _ _ _ ?_
  refine Signs_spec.mono ?_
  rintro _ w1 ⟨q, rfl, hq, s1⟩
  refine .inl ⟨_, _, _, rfl, (pieces_spec (sg := sg08) (hl.still s1) hq (by decide) (by decide) (by decide)).mono ?_⟩
  have hlen := piecesR_len (sg := sg08) (M := 8) (by decide) vs
  generalize piecesR sg08 vs = s at hlen
  rintro _ w2 ⟨rfl, rfl⟩
  have hw := resL_wt s
  refine .inl ⟨_, rfl, (parse_got s (by omega)).mono ?_⟩
  rintro _ w3 ⟨p3, c3, rfl, h3, s3⟩
  refine .inl ⟨_, _, _, _, rfl, (ref_got s (by omega)).mono ?_⟩
  rintro _ w4 ⟨p4, c4, rfl, h4, s4⟩
  refine .inl ⟨_, _, _, _, rfl, awake_spec.mono ?_⟩
  rintro _ w5 ⟨rfl, s5⟩
  refine .inl ⟨_, rfl, bsel_of (fun _ => (same_true ((h3.still s4).still s5) (h4.still s5) (by omega)).mono ?_) (fun h => by cases h)⟩
  rintro _ w6 ⟨rfl, s6⟩
  refine .inl ⟨_, rfl, bsel_of (fun _ => bsel_of (fun _ => (Print_spec ((h4.still s5).still s6) (by omega)).mono ?_) (fun h => absurd rfl (of_decide_eq_false h))) (fun h => by cases h)⟩
  rintro _ w7 ⟨rfl, s7⟩
  refine .inl ⟨_, rfl, (ref_Print_spec (((h4.still s5).still s6).still s7) (by omega)).mono ?_⟩
  rintro _ w8 ⟨rfl, s8⟩
  exact .inl ⟨_, rfl, by rw [decide_eq_true rfl], ((((((s1.trans s3).trans s4).trans s5).trans s6).trans s7).trans s8)⟩
theorem WordPrints_spec {F : Nat → Prop} {l : List Pt} {p : Option Addr} {c : Nat} (hv : SlAt w F l (.slice p l.length c)) (hl : wtL l < 1000000000) : Calls Tryd.prog fn_law08_WordPrints #[.slice p l.length c] w (fun e w' => e = .returned (.bool true) ∧ Still w w') := by
  refine law08_WordPrints_calls _ _ _ _ _ ?_
  refine awake_spec.mono ?_
  rintro _ w1 ⟨rfl, s1⟩
  refine .inl ⟨_, rfl, bsel_of (fun _ => (size_of _ l (Nat.lt_succ_self _) hl w1 F _ 1000 (hv.still s1) (by decide)).mono ?_) (fun h => by cases h)⟩
  rintro _ w2 ⟨⟨k, rfl, _, hk⟩, s2⟩
  refine .inl ⟨_, rfl, bsel_of (fun _ => ⟨rfl, s1.trans s2⟩) (fun h => ?_)⟩
  have h : k ≤ 1000 := by have := of_decide_eq_false h; omega
  have hk := hk h
  refine (Print_spec ((hv.still s1).still s2) (by omega)).mono ?_
  rintro _ w7 ⟨rfl, s7⟩
  refine .inl ⟨_, rfl, (ref_Print_spec (((hv.still s1).still s2).still s7) (by omega)).mono ?_⟩
  rintro _ w8 ⟨rfl, s8⟩
  exact .inl ⟨_, rfl, by rw [decide_eq_true rfl], ((s1.trans s2).trans s7).trans s8⟩
theorem WordBack_spec (raw : Txt) {l : Option Addr} {lL lC : Nat} {vs : List Nat} (hl : U8At w l lL vs) (small : Bool) : Calls Tryd.prog fn_law08_WordBack #[.string (S raw), .slice l lL lC, .bool small] w (fun e w' => e = .returned (.bool true) ∧ Still w w') := by
  refine law08_WordBack_calls _ _ _ _ _ _ _ ?_
  refine awake_spec.mono ?_
  rintro _ w1 ⟨rfl, s1⟩
  refine .inl ⟨_, rfl, bsel_of (fun h => by cases h) (fun _ => ⟨fun _ w2 => Still w w2, bsel_of (fun _ => Signs_spec.mono ?_) (fun _ => s1), ?_⟩)⟩
  · rintro _ w2 ⟨q, rfl, hq, s2⟩
    refine .inl ⟨_, _, _, rfl, (pieces_spec (sg := sg08) ((hl.still s1).still s2) hq (by decide) (by decide) (by decide)).mono ?_⟩
    rintro _ w3 ⟨rfl, rfl⟩
    exact .inl ⟨_, rfl, s1.trans s2⟩
  rintro s _ w4 s4
  refine bsel_of (fun _ => ⟨rfl, s4⟩) (fun h => ?_)
  have h : s.length ≤ 40 := by have := of_decide_eq_false h; omega
  refine (parse_got s (by omega)).mono ?_
  rintro _ w5 ⟨p5, c5, rfl, h5, s5⟩
  refine .inl ⟨_, _, _, _, rfl, bsel_of (fun h0 => bsel_of (fun _ => ⟨?_, s4.trans s5⟩) (fun h => by cases h)) (fun h0 => ?_)⟩
  · have h0 : ¬ (((resL (wpL 30 s)).2 : Int) = 0) := nt h0
    rw [resL_bad (by omega)]
    rfl
  have h0 : ((resL (wpL 30 s)).2 : Int) = 0 := nf h0
  have hok := resL_ok (s := s) (by omega)
  have hw := resL_wt s
  generalize (resL (wpL 30 s)).1 = m at *
  have hb := wp_back h hok
  have hpl := prL_len m
  refine (Print_spec h5 (by omega)).mono ?_
  rintro _ w6 ⟨rfl, s6⟩
  have h7 := parse_got (w := w6) (prL m) (by omega)
  rw [hb] at h7
  refine .inl ⟨_, rfl, h7.mono ?_⟩
  rintro _ w7 ⟨p7, c7, rfl, h7, s7⟩
  refine .inl ⟨_, _, _, _, rfl, bsel_of (fun _ => bsel_of (fun _ => (same_true ((h5.still s6).still s7) h7 (by omega)).mono ?_) (fun h => absurd rfl (of_decide_eq_false h))) (fun h => by cases h)⟩
  rintro _ w8 ⟨rfl, s8⟩
  refine .inl ⟨_, rfl, bsel_of (fun _ => (Print_spec (h7.still s8) (show wtL m < 1000000 by omega)).mono ?_) (fun h => by cases h)⟩
  rintro _ w9 ⟨rfl, s9⟩
  exact .inl ⟨_, rfl, by rw [show (resL (.ok m)).1 = m from rfl, decide_eq_true rfl], ((((s4.trans s5).trans s6).trans s7).trans s8).trans s9⟩
theorem WordQuotes_spec (s : Txt) : Calls Tryd.prog fn_law08_WordQuotes #[.string (S s)] w (fun e w' => e = .returned (.bool true) ∧ Still w w') := by
  refine law08_WordQuotes_calls _ _ _ ?_
  refine awake_spec.mono ?_
  rintro _ w1 ⟨rfl, s1⟩
  refine .inl ⟨_, rfl, bsel_of (fun h => by cases h) (fun _ => bsel_of (fun _ => ⟨rfl, s1⟩) (fun h => ?_))⟩
  have h : s.length ≤ 300 := by have := of_decide_eq_false h; omega
  have hwt := tx_wt true s
  have hsl := single_len s
  refine allocK fun w2 r2 s2 z2 => ?_
  have e1 : prL [tx true s] = single s := by simp only [prL, List.append_nil]; rfl
  have h3 := Print_spec (l := [tx true s]) (SlAt.row (c := 1) (l := [tx true s]) r2 (Cs.one1 (tx true s) rfl none 0) (Nat.le_refl 1)) (by rw [wtL_one]; omega)
  rw [e1] at h3
  refine h3.mono ?_
  rintro _ w3 ⟨rfl, s3⟩
  have h4 := parse_got (w := w3) (single s) (by omega)
  rw [quotes_law] at h4
  refine .inl ⟨_, rfl, h4.mono ?_⟩
  rintro _ w4 ⟨p4, c4, rfl, h4, s4⟩
  refine .inl ⟨_, _, _, _, rfl, fun t i w5 => ∃ k : Nat, i = (k : Int) ∧ k ≤ s.length ∧ t = backs (s.take k) ∧ w5 = w4, fun _ i _ => s.length - i.toNat, ⟨0, rfl, Nat.zero_le _, rfl, rfl⟩, ?_⟩
  rintro t _ _ w5 ⟨k, rfl, hk, rfl, rfl⟩
  have hbl := backs_len (s.take k)
  rw [List.length_take] at hbl
  refine bsel_of (fun hx => ?_) (fun hx => ?_)
  · have hx : k < s.length := by have := of_decide_eq_true hx; omega
    have e2 : IntKind.i64.wrap ((k : Int) + 1) = ((k + 1 : Nat) : Int) := by rw [wrap_i64 (by omega) (by omega)]; omega
    rw [e2]
    have e3 : (s.drop (Int.toNat (k : Int))).take (Int.toNat ((k + 1 : Nat) : Int) - Int.toNat (k : Int)) = [s[k]] := by
      rw [Int.toNat_natCast, Int.toNat_natCast, Nat.add_sub_cancel_left, List.drop_eq_getElem_cons hx]
      rfl
    rw [e3]
    simp only [List.length_append, List.length_cons, List.length_nil]
    refine ⟨by omega, by omega, by omega, by omega, by omega, ⟨k + 1, rfl, hx, ?_, trivial⟩, by omega⟩
    rw [backs_take hx, List.append_assoc]
  have hx : k = s.length := by have := of_decide_eq_false hx; omega
  subst hx
  rw [List.take_length] at hbl ⊢
  simp only [List.length_cons, List.length_nil]
  have h6 := parse_got (w := w5) (backs s ++ [39, 39]) (by rw [List.length_append, hbl]; simp only [List.length_cons, List.length_nil]; omega)
  rw [backs_law] at h6
  refine ⟨by omega, h6.mono ?_⟩
  rintro _ w6 ⟨p6, c6, rfl, h6, s6⟩
  refine .inl ⟨_, _, _, _, rfl, bsel_of (fun _ => bsel_of (fun _ => bsel_of (fun _ => ?_) (fun h => absurd rfl (of_decide_eq_false h))) (fun h => absurd rfl (of_decide_eq_false h))) (fun h => by cases h)⟩
  refine allocK fun w7 r7 s7 z7 => ?_
  refine (same_true (l := [tx true s]) ((h4.still s6).still s7) (SlAt.row (c := 1) (l := [tx true s]) r7 (Cs.one1 (tx true s) rfl none 0) (Nat.le_refl 1)) (by rw [wtL_one]; omega)).mono ?_
  rintro _ w8 ⟨rfl, s8⟩
  refine .inl ⟨_, rfl, bsel_of (fun _ => (same_true (l := [tx true s]) (((h4.still s6).still s7).still s8) ((h6.still s7).still s8) (by rw [wtL_one]; omega)).mono ?_) (fun h => by cases h)⟩
  rintro _ w9 ⟨rfl, s9⟩
  exact .inl ⟨_, rfl, rfl, (((((((s1.trans s2).trans s3).trans s4).trans s6).trans s7).trans s8).trans s9)⟩
theorem WordDeep_spec (n : Int) (hn0 : 0 ≤ n) (hn1 : n < 256) (quoted : Bool) : Calls Tryd.prog fn_law08_WordDeep #[.int .u8 n, .bool quoted] w (fun e w' => e = .returned (.bool true) ∧ Still w w') := by
  obtain ⟨n, rfl⟩ := Int.eq_ofNat_of_zero_le hn0
  refine law08_WordDeep_calls _ _ _ _ ?_
  have h21 : n % 21 < 21 := Nat.mod_lt _ (by decide)
  have e7 : IntKind.i64.wrap (20 + Int.tmod (IntKind.i64.wrap (n : Int)) 21) = ((20 + n % 21 : Nat) : Int) := by
    rw [wrap_i64 (n := (n : Int)) (by omega) (by omega), show Int.tmod (n : Int) 21 = ((n % 21 : Nat) : Int) from tmod_nat _ 21, wrap_i64 (by omega) (by omega)]
    omega
  unfold vc_law08_WordDeep
  rw [e7]
  refine ⟨by decide, fun s t i w1 => ∃ k : Nat, i = (k : Int) ∧ k ≤ 20 + n % 21 ∧ s.length = 5 * k ∧ t.length = k ∧ w1 = w, fun _ _ i _ => 20 + n % 21 - i.toNat, ⟨0, rfl, Nat.zero_le _, rfl, rfl, rfl⟩, ?_⟩
  rintro s t _ _ w1 ⟨k, rfl, hk, hs, ht, rfl⟩
  refine bsel_of (fun hx => ?_) (fun hx => ?_)
  · have hx : k < 20 + n % 21 := by have := of_decide_eq_true hx; omega
    have e2 : IntKind.i64.wrap ((k : Int) + 1) = ((k + 1 : Nat) : Int) := by rw [wrap_i64 (by omega) (by omega)]; omega
    rw [e2]
    simp only [List.length_append, List.length_cons, List.length_nil]
    exact ⟨by omega, by omega, ⟨k + 1, rfl, hx, by omega, by omega, trivial⟩, by omega⟩
  · simp only [List.length_append, List.length_cons, List.length_nil]
    refine ⟨by omega, by omega, fun s1 w2 => s1.length ≤ 500 ∧ w2 = w1, bsel_of (fun _ => ⟨by omega, by omega, ?_, rfl⟩) (fun _ => ⟨?_, rfl⟩), ?_⟩
    · simp only [List.length_append, List.length_cons, List.length_nil]
      omega
    · simp only [List.length_append, List.length_cons, List.length_nil]
      omega
    rintro s1 _ w2 ⟨hs1, rfl⟩
    have hw := resL_wt s1
    refine (parse_got s1 (by omega)).mono ?_
    rintro _ w3 ⟨p3, c3, rfl, h3, s3⟩
    refine .inl ⟨_, _, _, _, rfl, (ref_got s1 (by omega)).mono ?_⟩
    rintro _ w4 ⟨p4, c4, rfl, h4, s4⟩
    refine .inl ⟨_, _, _, _, rfl, awake_spec.mono ?_⟩
    rintro _ w5 ⟨rfl, s5⟩
    refine .inl ⟨_, rfl, bsel_of (fun _ => (same_true ((h3.still s4).still s5) (h4.still s5) (by omega)).mono ?_) (fun h => by cases h)⟩
    rintro _ w6 ⟨rfl, s6⟩
    exact .inl ⟨_, rfl, bsel_of (fun _ => ⟨by rw [decide_eq_true rfl], ((s3.trans s4).trans s5).trans s6⟩) (fun h => by cases h)⟩
end Go.Proofs.YtckcdbkggaoomaaDoor
