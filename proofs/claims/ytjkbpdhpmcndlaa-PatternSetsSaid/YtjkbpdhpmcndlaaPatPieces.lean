/- The patterns' program: a pattern's pieces. Conditions: the pattern has fewer than a million bytes. -/
import Derived.Test.YtjkbpdhpmcndlaaPatSet
namespace Go.Proofs.Ytjkbpdhpmcndlaa
open Go.RowKit Vc
variable {w : World}

def pcell (x : Pc) : List Value := .bool x.star :: bcells x.set
def pcells (l : List Pc) : List Value := l.flatMap pcell
@[simp] theorem pcell_length (x : Pc) : (pcell x).length = 257 := by simp [pcell]
theorem pcell_one (x : Pc) : ∀ v ∈ pcell x, v.oneCell' = true := by
  intro v hv
  rcases List.mem_cons.1 hv with rfl | hv
  · rfl
  · exact bcells_one _ v hv
theorem pcells_append (l m : List Pc) : pcells (l ++ m) = pcells l ++ pcells m := by simp [pcells]
theorem pcells_get : ∀ {l : List Pc} {i j : Nat} (hi : i < l.length) (_ : j < 257), (pcells l)[i * 257 + j]? = (pcell l[i])[j]?
  | [], _, _, hi, _ => by simp at hi
  | x :: l, 0, j, _, hj => by
    have : (pcells (x :: l)) = pcell x ++ pcells l := rfl
    rw [this, Nat.zero_mul, Nat.zero_add, List.getElem?_append_left (by simpa using hj)]
    rfl
  | x :: l, i + 1, j, hi, hj => by
    have e : (pcells (x :: l)) = pcell x ++ pcells l := rfl
    rw [e, List.getElem?_append_right (by simp; omega), pcell_length, show (i + 1) * 257 + j - 257 = i * 257 + j by omega, pcells_get (by simpa using hi) hj]
    rfl

/-- What the loop over a pattern keeps. -/
structure Pcs (w w1 : World) (p q : List UInt8) (P : Option Addr) (L C : Nat) (l : List Pc) : Prop where
  all : l ++ pcs q = pcs p
  len : L = l.length
  few : l.length + q.length ≤ p.length
  own : Owns w1 w.heap.size 42 257 (.slice P L C) L (pcells l)
  still : Still w w1

set_option maxRecDepth 10000 in
set_option maxHeartbeats 1000000 in
theorem pieces_spec (p : List UInt8) (hp : p.length < 1000000) : Calls Try.prog fn_pattern_pieces #[.string (S p)] w
    (fun e w' => ∃ P C, e = .returned (.slice P (pcs p).length C) ∧ Owns w' w.heap.size 42 257 (.slice P (pcs p).length C) (pcs p).length (pcells (pcs p)) ∧ Still w w') := by
  refine pattern_pieces_calls _ _ _ ?_
  refine ⟨fun q P L C w1 => ∃ l, Pcs w w1 p q P L C l, fun q _ _ _ _ => q.length, ⟨[], rfl, rfl, by simp, Owns.nil _ _ _ _, Mod.refl _ _⟩, ?_⟩
  rintro q P L C _ w1 ⟨l, h⟩
  refine bsel_of (fun hq => ?_) (fun hq => ?_)
  case _ =>
    have hq : q ≠ [] := by simpa using hq
    obtain ⟨a, r, rfl⟩ := List.exists_cons_of_ne_nil hq
    have hz : Row (w1.alloc (.cells ⟨List.replicate 257 (.bool false)⟩ 42)) w1.heap.size 42 ⟨[.bool false] ++ bcells (fun _ => false)⟩ := by
      have e : [Value.bool false] ++ bcells (fun _ => false) = List.replicate 257 (.bool false) := by
        rw [bcells_false]
        exact (List.replicate_succ (n := 256)).symm
      rw [e]
      exact Row.new _ _ _
    have ho := h.own.alloc (.cells ⟨List.replicate 257 (.bool false)⟩ 42)
    have hst := h.still.alloc (.cells ⟨List.replicate 257 (.bool false)⟩ 42)
    have hs1 := h.still.size
    have hown : ∀ k, (Value.slice P L C).ownBlock = some k → ¬ k = w1.heap.size := fun k hk => by have := (h.own.lt k hk).2; omega
    have hne : ∀ wq, Owns wq w.heap.size 42 257 (.slice P L C) L (pcells l) → Owns wq w.heap.size 42 257 (.slice P L C) L (pcells l) := fun _ h => h
    refine ⟨fun q2 w6 => ∃ x : Pc, l ++ x :: pcs q2 = pcs p ∧ q2.length < (a :: r).length ∧ Row w6 w1.heap.size 42 ⟨pcell x⟩ ∧ Owns w6 w.heap.size 42 257 (.slice P L C) L (pcells l) ∧ Still w w6, ⟨by decide, a, rfl, bsel_of (fun ha => ?_) (fun ha => bsel_of (fun hb => ?_) (fun hb => bsel_of (fun hc => ?_) (fun hc => ?_)))⟩, ?_⟩
    · have ha : a = 42 := UInt8.toNat_inj.1 (Int.ofNat_inj.1 (of_decide_eq_true ha))
      subst ha
      refine ⟨fun _ => True, trivial, by decide, by simp only [List.length_cons]; omega, hz.drew.wr 0 (by simp), ⟨true, fun _ => false⟩, ?_, by simp, ?_, ho.drew.far (fun e => hown _ e rfl) _, hst.drew.setCell (.inr hs1) _⟩
      · rw [← h.all, pcs_star]
        rfl
      · exact hz.drew.setl 0 _
    · have ha : ¬ a = 42 := fun e => of_decide_eq_false ha (by rw [e]; rfl)
      have hb : a = 63 := UInt8.toNat_inj.1 (Int.ofNat_inj.1 (of_decide_eq_true hb))
      subst hb
      refine (turn_spec hz rfl).mono ?_
      rintro _ w2 ⟨rfl, hm2, hr2⟩
      refine .inl ⟨rfl, by decide, by simp only [List.length_cons]; omega, ⟨false, fun _ => true⟩, ?_, by simp, hr2, ho.mod hm2 hown, Mod.trans hst hm2 (fun _ h => h) (fun i hi h => by omega)⟩
      rw [← h.all, pcs_one hq (by simp)]
      rfl
    · have ha : ¬ a = 42 := fun e => of_decide_eq_false ha (by rw [e]; rfl)
      have hb : ¬ a = 63 := fun e => of_decide_eq_false hb (by rw [e]; rfl)
      have hc : a = 91 := UInt8.toNat_inj.1 (Int.ofNat_inj.1 (of_decide_eq_true hc))
      subst hc
      refine ⟨by decide, by simp only [List.length_cons]; omega, (set_spec r).mono ?_⟩
      rintro _ w3 ⟨hres, hm3⟩
      have hz3 := hz.mod hm3 (fun h => h)
      have ho3 := ho.mod hm3 (fun _ _ h => h)
      have hst3 : Still w w3 := Still.trans hst hm3
      have hgx : w1.heap.size < w3.heap.size := hz3.lt
      have fin : ∀ (S1 : Set8) (rest : List UInt8) (w4 : World), onePc (91 :: r) = (S1, rest) → Row w4 w3.heap.size 40 ⟨[] ++ bcells S1⟩ → Row w4 w1.heap.size 42 ⟨[.bool false] ++ bcells (fun _ => false)⟩ → Owns w4 w.heap.size 42 257 (.slice P L C) L (pcells l) → Still w w4 →
          ∃ v : List Value, v.length = 256 ∧ (∀ (j : Nat) (u : Value), v[j]? = some u → w4.cell? ((Addr.mk w3.heap.size 0 none).add j) = some u) ∧ v.length = 256 ∧ (∀ qv : Value, qv ∈ v → qv.oneCell' = true) ∧ ∃ (g2 o2 : Nat) (cur2 : List Value) (ty2 : TypeId), (Addr.mk w1.heap.size 1 none) = Addr.mk g2 o2 none ∧ Row w4 g2 ty2 ⟨cur2⟩ ∧ o2 + v.length ≤ cur2.length ∧
            ∃ x : Pc, l ++ x :: pcs rest = pcs p ∧ rest.length < (91 :: r).length ∧ Row (w4.setRow g2 ⟨cur2.take o2 ++ (v ++ cur2.drop (o2 + v.length))⟩) w1.heap.size 42 ⟨pcell x⟩ ∧ Owns (w4.setRow g2 ⟨cur2.take o2 ++ (v ++ cur2.drop (o2 + v.length))⟩) w.heap.size 42 257 (.slice P L C) L (pcells l) ∧ Still w (w4.setRow g2 ⟨cur2.take o2 ++ (v ++ cur2.drop (o2 + v.length))⟩) := by
        intro S1 rest w4 hone hr4 hx4 ho4 hst4
        have hlen := onePc_length hq
        have hpc := pcs_one hq (by simp)
        rw [hone] at hlen hpc
        have hall := h.all
        rw [hpc] at hall
        have hs2 := store_big (K := fun w' => ∃ x : Pc, l ++ x :: pcs rest = pcs p ∧ rest.length < (91 :: r).length ∧ Row w' w1.heap.size 42 ⟨pcell x⟩ ∧ Owns w' w.heap.size 42 257 (.slice P L C) L (pcells l) ∧ Still w w') (o := 1) hx4 rfl (bcells_length _) (bcells_length S1) (bcells_one _)
          ⟨⟨false, S1⟩, hall, hlen, hx4.setRow _ (by simp), ho4.block (fun k hk => setRow_other _ _ _ _ (hown k hk)), hst4.setRow (.inr hs1) _⟩
        refine ⟨bcells S1, bcells_length _, ?_, hs2⟩
        intro j u hu
        rw [add_row, Nat.zero_add]
        exact hr4.cellv (by simpa using hu)
      have hnew : Row (w3.alloc (.cells ⟨List.replicate 256 (.bool false)⟩ 40)) w3.heap.size 40 ⟨[] ++ bcells (fun _ => false)⟩ := by
        rw [List.nil_append, bcells_false]
        exact Row.new _ _ _
      have hkn : ∀ k, (Value.slice P L C).ownBlock = some k → ¬ k = w3.heap.size := fun k hk => by have := (ho3.lt k hk).2; omega
      have hs3 := hst3.size
      rcases hres with ⟨S0, rest, hmk, rfl⟩ | ⟨hmk, S0, rfl⟩
      · have hone : onePc (91 :: r) = (S0, rest) := by simp [onePc, hmk]
        refine .inl ⟨bcells S0, bcells_length _, rest, true, rfl, ?_⟩
        have hs2 := store_big (K := fun w' => ∃ xJ1 : List UInt8 → World → Prop, xJ1 rest w' ∧ ∀ (rest : List UInt8) (us2 : Nat → Value) (w4 : World), (xJ1 rest w4) → ∃ v : List Value, v.length = 256 ∧ (∀ (j : Nat) (u : Value), v[j]? = some u → w4.cell? ((Addr.mk w3.heap.size 0 none).add j) = some u) ∧ v.length = 256 ∧ (∀ qv : Value, qv ∈ v → qv.oneCell' = true) ∧ ∃ (g2 o2 : Nat) (cur2 : List Value) (ty2 : TypeId), (Addr.mk w1.heap.size 1 none) = Addr.mk g2 o2 none ∧ Row w4 g2 ty2 ⟨cur2⟩ ∧ o2 + v.length ≤ cur2.length ∧
            ∃ x : Pc, l ++ x :: pcs rest = pcs p ∧ rest.length < (91 :: r).length ∧ Row (w4.setRow g2 ⟨cur2.take o2 ++ (v ++ cur2.drop (o2 + v.length))⟩) w1.heap.size 42 ⟨pcell x⟩ ∧ Owns (w4.setRow g2 ⟨cur2.take o2 ++ (v ++ cur2.drop (o2 + v.length))⟩) w.heap.size 42 257 (.slice P L C) L (pcells l) ∧ Still w (w4.setRow g2 ⟨cur2.take o2 ++ (v ++ cur2.drop (o2 + v.length))⟩))
          hnew rfl (bcells_length _) (bcells_length S0) (bcells_one _) ?_
        · obtain ⟨b1, b2, g, o, cur, ty, b3, b4, b5, xJ1, b6, b7⟩ := hs2
          exact ⟨b1, b2, g, o, cur, ty, b3, b4, b5, xJ1, bsel_of (fun h => by cases h) (fun _ => b6), b7⟩
        · refine ⟨fun q w4 => q = rest ∧ Row w4 w3.heap.size 40 ⟨[] ++ bcells S0⟩ ∧ Row w4 w1.heap.size 42 ⟨[.bool false] ++ bcells (fun _ => false)⟩ ∧ Owns w4 w.heap.size 42 257 (.slice P L C) L (pcells l) ∧ Still w w4, ⟨rfl, hnew.setRow _ (by simp), ?_, ?_, ?_⟩, ?_⟩
          · exact (hz3.alloc _).setRow_far (Nat.ne_of_lt hgx) _
          · exact (ho3.alloc _).block (fun k hk => setRow_other _ _ _ _ (hkn k hk))
          · exact (hst3.alloc _).setRow (.inr hs3) _
          · rintro _ _ w4 ⟨rfl, a1, a2, a3, a4⟩
            exact fin S0 _ w4 hone a1 a2 a3 a4
      · have hone : onePc (91 :: r) = (fun c => decide (c = 91), r) := by simp [onePc, hmk]
        refine .inl ⟨bcells S0, bcells_length _, [], false, rfl, ?_⟩
        have h1 := hnew.setRow ⟨[] ++ bcells S0⟩ (by simp)
        have h2 : Row ((w3.alloc (.cells ⟨List.replicate 256 (.bool false)⟩ 40)).setRow w3.heap.size ⟨[] ++ bcells S0⟩) w1.heap.size 42 ⟨[.bool false] ++ bcells (fun _ => false)⟩ := (hz3.alloc _).setRow_far (Nat.ne_of_lt hgx) _
        have h3 := (ho3.alloc (.cells ⟨List.replicate 256 (.bool false)⟩ 40)).block (w' := (w3.alloc (.cells ⟨List.replicate 256 (.bool false)⟩ 40)).setRow w3.heap.size ⟨[] ++ bcells S0⟩) (fun k hk => setRow_other _ _ _ _ (hkn k hk))
        have h4 : Still w ((w3.alloc (.cells ⟨List.replicate 256 (.bool false)⟩ 40)).setRow w3.heap.size ⟨[] ++ bcells S0⟩) := (hst3.alloc _).setRow (.inr hs3) _
        refine ⟨bcells_length _, bcells_one _, w3.heap.size, 0, [] ++ bcells (fun _ => false), 40, rfl, hnew, by simp, ?_⟩
        have ee : ([] ++ bcells (fun _ => false)).take 0 ++ (bcells S0 ++ ([] ++ bcells (fun _ => false)).drop (0 + (bcells S0).length)) = [] ++ bcells S0 := by
          rw [bcells_length, List.drop_of_length_le (by simp)]
          simp
        rw [ee]
        generalize (w3.alloc (.cells ⟨List.replicate 256 (.bool false)⟩ 40)).setRow w3.heap.size ⟨[] ++ bcells S0⟩ = w5 at h1 h2 h3 h4 ⊢
        refine ⟨fun q w4 => q = r ∧ Row w4 w3.heap.size 40 ⟨[] ++ bcells (fun c => decide (c = 91))⟩ ∧ Row w4 w1.heap.size 42 ⟨[.bool false] ++ bcells (fun _ => false)⟩ ∧ Owns w4 w.heap.size 42 257 (.slice P L C) L (pcells l) ∧ Still w w4, bsel_of (fun _ => ⟨fun _ => True, trivial, by decide, by simp only [List.length_cons]; omega, ?_⟩) (fun h => by cases h), ?_⟩
        · exact store_big_eq (K := fun w' => r = r ∧ Row w' w3.heap.size 40 ⟨[] ++ bcells (fun c => decide (c = 91))⟩ ∧ Row w' w1.heap.size 42 ⟨[.bool false] ++ bcells (fun _ => false)⟩ ∧ Owns w' w.heap.size 42 257 (.slice P L C) L (pcells l) ∧ Still w w') (ws := bcells (fun c => decide (c = 91)))
            (by kernel_rfl) h1.drew rfl (bcells_length _) (bcells_length _) (bcells_one _) ⟨rfl, h1.drew.setRow _ (by simp), h2.drew.setRow_far (Nat.ne_of_lt hgx) _, h3.drew.block (fun k hk => setRow_other _ _ _ _ (hkn k hk)), h4.drew.setRow (.inr hs3) _⟩
        · rintro _ _ w4 ⟨rfl, a1, a2, a3, a4⟩
          exact fin _ _ w4 hone a1 a2 a3 a4
    · have ha : ¬ a = 42 := fun e => of_decide_eq_false ha (by rw [e]; rfl)
      have hb : ¬ a = 63 := fun e => of_decide_eq_false hb (by rw [e]; rfl)
      have hc : ¬ a = 91 := fun e => of_decide_eq_false hc (by rw [e]; rfl)
      refine (single_spec hq).mono ?_
      rintro _ w2 ⟨rfl, rfl⟩
      have hlt := (single (a :: r)).1.toNat_lt
      refine .inl ⟨_, _, rfl, by omega, by omega, ?_⟩
      rw [Int.toNat_natCast]
      refine ⟨hz.drew.wrO (o := 1) rfl hlt, ⟨false, fun c => decide (c = (single (a :: r)).1)⟩, ?_, single_length hq, ?_, ho.drew.far ?_ _, hst.drew.setO (.inr hs1) _ _⟩
      · rw [← h.all, pcs_one hq (by simpa using ha)]
        simp [onePc, hb, hc]
      · have h2 := hz.drew.setO (o := 1) rfl hlt true
        have e : pcell ⟨false, fun c => decide (c = (single (a :: r)).1)⟩ = [.bool false] ++ bcells (fun c => if c.toNat = (single (a :: r)).1.toNat then true else false) := by
          unfold pcell
          rw [bcells_congr (T := fun c => if c.toNat = (single (a :: r)).1.toNat then true else false) (fun c => by
            show decide (c = (single (a :: r)).1) = _
            by_cases h : c = (single (a :: r)).1
            · rw [h, if_pos rfl, decide_eq_true rfl]
            · rw [if_neg (fun e => h (UInt8.toNat_inj.1 e)), decide_eq_false h])]
          rfl
        rw [e]
        exact h2
      · rw [add_row]
        exact fun e => hown _ e rfl
    · rintro q2 _ w6 ⟨x, hall, hlen, hr6, ho6, hst6⟩
      refine ⟨pcell x, pcell_length x, ?_, bsel_of (fun _ => ?_) (fun h => by rw [pcell_length] at h; cases h)⟩
      · intro j u hu
        rw [add_row, Nat.zero_add]
        exact hr6.cellv (by simpa using hu)
      have hl := h.few
      have hL := h.len
      simp only [List.length_cons] at hlen hl
      refine ⟨_, pcell x, (ho6.alloc _).base0, by simp, pcell_one x, fun _ => ⟨_, rfl, ?_⟩, by omega, by omega, fun p3 c3 w7 ho7 hg7 hb7 => ?_⟩
      · intro j u hu
        rw [add_row, Nat.zero_add]
        exact (Row.new w6 42 ⟨pcell x⟩).cellv (by simpa using hu)
      · refine ⟨⟨l ++ [x], by simpa using hall, by simp [hL], by simp; omega, ?_, hst6.pushed ho6 (Nat.le_refl _) hg7⟩, by simp only [List.length_cons]; omega⟩
        have := ho6.pushed hst6.size ho7 hb7
        rw [pcells_append]
        simpa [pcells] using this
  · have hq : q = [] := by simpa using hq
    subst hq
    have hall := h.all
    rw [pcs_nil, List.append_nil] at hall
    have hL := h.len
    rw [hall] at hL
    subst hL
    exact ⟨P, C, rfl, hall ▸ h.own, h.still⟩
end Go.Proofs.Ytjkbpdhpmcndlaa
