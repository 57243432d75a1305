/- The program's parser of words: its state, and a part that is put. Conditions: as each theorem names them. -/
import Derived.Test.YtckcdbkggaoomaaDoorWdRec
import Derived.Test.YtckcdbkggaoomaaDoorLxTok
namespace Go.Proofs.YtckcdbkggaoomaaDoor
open Go.RowKit Vc
variable {w : World}

abbrev PRow (w : World) (g : Nat) (s : Txt) (v : Value) (q : Bool) (d : Int) : Prop := Row w g 55 ⟨[.string (S s), v, .bool q, .int .i64 d]⟩
/-- The parser's text, and its parts so far. -/
def PS (w : World) (g B : Nat) (s : Txt) (l : List Pt) (q : Bool) (d : Int) : Prop := ∃ v, PRow w g s v q d ∧ OutAt w B l v
/-- Only the parser, and what is its own, has turned. -/
abbrev MP (g B : Nat) (w w' : World) : Prop := Mod (fun k => k = g ∨ B ≤ k) w w'
theorem MP.trans {g B : Nat} {a b c : World} (h : MP g B a b) (k : MP g B b c) : MP g B a c := Mod.trans h k (fun _ h => h) (fun _ _ h => h)
theorem Still.mp {g B : Nat} {a b : World} (h : Still a b) : MP g B a b := h.weaken fun _ h => h.elim
theorem MP.still {g B : Nat} {a b c : World} (h : MP g B a b) (k : Still b c) : MP g B a c := MP.trans h k.mp
theorem PRow.text {g : Nat} {s : Txt} {v : Value} {q : Bool} {d : Int} (h : PRow w g s v q d) : w.cell? ⟨g, 0, none⟩ = some (.string (S s)) := h.lget rfl
theorem PRow.quoted {g : Nat} {s : Txt} {v : Value} {q : Bool} {d : Int} (h : PRow w g s v q d) : w.cell? ⟨g, 2, none⟩ = some (.bool q) := h.lget rfl
theorem PRow.depth {g : Nat} {s : Txt} {v : Value} {q : Bool} {d : Int} (h : PRow w g s v q d) : w.cell? ⟨g, 3, none⟩ = some (.int .i64 d) := h.lget rfl
def setq (x : Pt) (b : Bool) : Pt := .mk x.k (x.q || b) x.t x.n x.o x.w
theorem setq_wt (x : Pt) (b : Bool) : (setq x b).wt = x.wt := by
  rw [Pt.wt_eq, Pt.wt_eq]
  rfl
theorem PS.still {w' : World} {g B : Nat} {s : Txt} {l : List Pt} {q : Bool} {d : Int} (h : PS w g B s l q d) (hs : Still w w') : PS w' g B s l q d := by
  obtain ⟨v, h1, h2⟩ := h
  exact ⟨v, h1.still hs, h2.still hs⟩
theorem put_spec {g B n : Nat} {s : Txt} {l : List Pt} {v vw : Value} {q : Bool} {d : Int} {x : Pt} (hr : PRow w g s v q d) (ho : OutAt w B l v) (hg : g < B) (hB : B ≤ w.heap.size) (hw : SlAt w (fun k => B ≤ k ∧ k < w.heap.size ∧ v.ownBlock ≠ some k) x.w vw) (hn : n ≤ s.length) (hl : wtL l + x.wt < 1000000000) :
    Calls Tryd.prog fn_word_parser_put #[.pointer (some ⟨g, 0, none⟩), pagg x vw, .int .i64 (n : Int)] w (fun e w' => e = .returned (.tuple #[]) ∧ PS w' g B (s.drop n) (addP l (setq x q)) q d ∧ MP g B w w') := by
  obtain ⟨wp, wc, rfl⟩ := hw.form
  refine word_parser_put_calls _ _ _ _ _ _ _ _ _ _ _ _ ?_
  refine allocK fun w1 r1 s1 z1 => ?_
  have f1 := (box_fields (x := x) r1).2.1
  have hr1 : PRow w1 g s v q d := hr.still s1
  refine ⟨fun w4 => Row w4 w.heap.size 39 ⟨pcell (setq x q) (.slice wp x.w.length wc)⟩ ∧ Still w w4, ⟨_, f1, bsel_of (fun h => ?_) (fun h => ?_)⟩, ?_⟩
  · refine stK r1 (by simp) (by simp [Value.oneCell']) fun w2 r2 m2 z2 => ⟨?_, s1.box (Nat.le_refl _) m2⟩
    have e : pcell (setq x q) (.slice wp x.w.length wc) = ovw (pcell x (.slice wp x.w.length wc)) 1 [.bool true] := by
      rw [show setq x q = .mk x.k true x.t x.n x.o x.w by rw [setq, h, Bool.true_or]]
      rfl
    rw [e]
    exact r2
  · refine ⟨_, by rw [add_row]; exact hr1.quoted, stK r1 (by simp) (by simp [Value.oneCell']) fun w2 r2 m2 z2 => ⟨?_, s1.box (Nat.le_refl _) m2⟩⟩
    have e : pcell (setq x q) (.slice wp x.w.length wc) = ovw (pcell x (.slice wp x.w.length wc)) 1 [.bool q] := by
      rw [show setq x q = .mk x.k q x.t x.n x.o x.w by rw [setq, h, Bool.false_or]]
      rfl
    rw [e]
    exact r2
  rintro _ w4 ⟨r4, s4⟩
  have sd : Still w w4.drew := s4.toDrew
  have hrd := hr.still sd
  have hod := ho.still sd
  obtain ⟨p, c, xs, hv, hown, hcs⟩ := hod
  subst hv
  have hod : OutAt w4.drew B l (.slice p l.length c) := ⟨p, c, xs, rfl, hown, hcs⟩
  have rd : Row w4.drew w.heap.size 39 ⟨pcell (setq x q) (.slice wp x.w.length wc)⟩ := r4.still (drew_still w4)
  refine ⟨fun wq => wq = w4.drew, rfl, p, l.length, c, ?_, (setq x q).k, (setq x q).q, (setq x q).t, (setq x q).n, (setq x q).o, wp, x.w.length, wc, ?_, ?_, ?_, ?_, ?_, ?_, ?_⟩
  · rintro _ rfl
    rw [add_row]
    exact hrd.lget rfl
  · rintro _ rfl; exact rd.lget rfl
  · rintro _ rfl; exact rd.lget rfl
  · rintro _ rfl; exact rd.lget rfl
  · rintro _ rfl; exact rd.lget rfl
  · rintro _ rfl; exact rd.lget rfl
  · rintro _ rfl; exact rd.lget rfl
  have hzd := sd.size
  refine (add_spec (x := setq x q) hod (by omega) ((hw.still sd).mono fun k hk => ⟨hk.1, by omega, hk.2.2⟩) (by rw [setq_wt]; exact hl)).mono ?_
  rintro _ w5 ⟨v5, rfl, ho5, m5, own5⟩
  obtain ⟨p5, c5, xs5, rfl, hown5, hcs5⟩ := ho5
  have hr5 : PRow w5 g s (.slice p l.length c) q d := hrd.mod m5 fun e => by have := (hod.ownLt e).1; omega
  refine .inl ⟨_, _, _, rfl, ?_⟩
  show stCells ((Addr.mk g 0 none).add 1) _ _ _ _
  rw [add_row]
  refine stK hr5 (by simp) (by simp [Value.oneCell']) fun w6 r6 m6 z6 => ?_
  refine ⟨s, r6.lget rfl, by omega, by omega, ?_⟩
  rw [Int.toNat_natCast]
  refine stK r6 (by simp [ovw]) (by simp [Value.oneCell']) fun w7 r7 m7 z7 => ⟨rfl, ⟨_, r7, ?_⟩, ?_⟩
  · have ho5 : OutAt w5 B (addP l (setq x q)) (.slice p5 (addP l (setq x q)).length c5) := ⟨p5, c5, xs5, rfl, hown5, hcs5⟩
    exact (ho5.mod m6 fun k hk _ e => by omega).mod m7 fun k hk _ e => by omega
  · have m5' : MP g B w4.drew w5 := m5.weaken fun k hk => .inr (hod.ownLt hk).1
    exact ((sd.mp.trans m5').trans (m6.weaken fun k hk => .inl hk)).trans (m7.weaken fun k hk => .inl hk)
end Go.Proofs.YtckcdbkggaoomaaDoor
