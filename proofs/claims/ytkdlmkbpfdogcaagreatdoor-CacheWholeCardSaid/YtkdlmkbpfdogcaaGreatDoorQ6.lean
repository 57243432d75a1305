/- Texts of one proof, one behind the other. Conditions: as each theorem names them. -/
import Derived.Test.YtkdlmkbpfdogcaaGreatDoorQ5
namespace Go.Proofs.YtkdlmkbpfdogcaaGreatDoor
open Go.RowKit Vc
variable {w w0 : World}
def NewOr (rp rp' : Option Nat) (w : World) : Prop := ∀ k, rp' = some k → rp = some k ∨ w.heap.size ≤ k
theorem NewOr.refl (rp : Option Nat) (w : World) : NewOr rp rp w := fun _ h => .inl h
theorem NewOr.none (rp : Option Nat) (w : World) : NewOr rp none w := fun _ h => by cases h
def Foot2 (gj : Nat) (rp : Option Nat) (k : Nat) : Prop := k = gj ∨ rp = some k
theorem Foot2.foot {gj g b : Nat} {rp : Option Nat} {k : Nat} (h : Foot2 gj rp k) : Foot gj g b rp k := h.elim (fun h => .inr (.inr (.inl h))) (fun h => .inr (.inr (.inr h)))
theorem push1b {w : World} {B : Nat} {e : TypeId} {sz bytes : Nat} {p : Option Addr} {n c : Nat} {xs cs : List Value} {K : Option Addr → Nat → World → Prop} (ho : Owns w B e sz (.slice p n c) n xs) (hB : B ≤ w.heap.size)
    (hl : cs.length = sz) (h1 : ∀ u ∈ cs, u.oneCell' = true) (hs : n + 1 ≤ 9223372036854775807) (hb : (n + 1) * bytes ≤ 140737488355328)
    (h : ∀ p' c' w', Owns w' B e sz (.slice p' (n + 1) c') (n + 1) (xs ++ cs) → Mod (fun k => (Value.slice p n c).ownBlock = some k) w w' → NewOr (Value.slice p n c).ownBlock (Value.slice p' (n + 1) c').ownBlock w → K p' c' w') :
    letW (w.alloc (.cells ⟨cs⟩ e)) (fun w2 => appK w2 e sz bytes p n c (some (Addr.mk w.heap.size 0 none)) 1 K) := by
  refine allocK fun w1 hr hst hz => ?_
  refine appK_push (ho.still hst) (by omega) cs (by omega) h1 (fun _ => ⟨_, rfl, fun j u hu => ?_⟩) hs hb fun p' c' w' ho' hm hk => h p' c' w' ho' (Mod.trans hst hm (fun _ h => h.elim) (fun _ _ h => h)) (fun k hk' => ?_)
  · rw [add_row, Nat.zero_add]
    exact hr.cellv (by simpa using hu)
  · rcases hk.own (n := n) with e | e
    · exact .inl (e.symm.trans hk')
    · rw [hk'] at e
      have := Option.some.inj e
      exact .inr (by omega)
theorem jadd_spec {gj g b : Nat} {rp : Option Nat} {j : Js} (h0 : Still w0 w) (h : Jr w0 w gj g b rp j) (hl : j.l.length ≤ 5000) (hk : j.k ≤ 5000) (t : Txt) (ht : t.length ≤ 100000) :
    Calls Tryz.prog fn_journal_Journal_add #[.pointer (some ⟨gj, 0, none⟩), .string (S t)] w (fun e w' => e = .returned (.tuple #[]) ∧ ∃ rp', Jr w0 w' gj g b rp' ⟨j.s, j.l ++ [t], j.k + 1 + cnt t.length⟩ ∧ Mod (Foot2 gj rp) w w' ∧ NewOr rp rp' w) := by
  obtain ⟨p, c, t1, t2, t3⟩ := h.top
  have hc := cnt_le ht
  refine journal_Journal_add_calls _ _ _ _ ?_
  refine ⟨_, _, _, t1.lget rfl, push1b t2 h0.size (cs := [.string (S t)]) rfl (by simp [Value.oneCell']) (by omega) (by omega) fun p' c' w2 o2 m2 n2 => ?_⟩
  have hgt : ∀ k, (Value.slice p j.l.length c).ownBlock = some k → gj ≠ k := fun k hk => by
    obtain ⟨cur, hr⟩ := t2.typed hk
    exact t1.ne hr (by decide)
  have t12 := t1.mod m2 (fun e => hgt _ e rfl)
  have hgt2 : (Value.slice p' (j.l.length + 1) c').ownBlock ≠ some gj := fun e => by
    obtain ⟨cur, hr⟩ := o2.typed e
    exact t12.ne hr (by decide) rfl
  refine stK (g := gj) (o := 1) t12 (by simp) (by simp [Value.oneCell']) fun w3 r3 m3 z3 => ?_
  simp only [ovw, List.set_cons_succ, List.set_cons_zero] at r3
  have r3D : Row w3.drew gj ty_journal_Journal _ := r3
  refine ⟨fun wq => wq = w3.drew, rfl, _, fun wq hq => by subst hq; exact r3D.lget rfl, (sectors_spec t.length (by omega)).mono ?_⟩
  rintro _ w4 ⟨rfl, rfl⟩
  refine .inl ⟨_, rfl, rfl, stK (g := gj) (o := 2) r3D (by simp) (by simp [Value.oneCell']) fun w5 r5 m5 z5 => ?_⟩
  simp only [ovw, List.set_cons_succ, List.set_cons_zero] at r5
  have e1 : IntKind.i64.wrap ((j.k : Int) + IntKind.i64.wrap (1 + ((cnt t.length : Nat) : Int))) = ((j.k + 1 + cnt t.length : Nat) : Int) := by rw [wrap_i64 (n := 1 + ((cnt t.length : Nat) : Int)) (by omega) (by omega), wrap_i64 (by omega) (by omega)]; omega
  rw [e1] at r5
  have m25 : Mod (fun k => k = gj) w2 w5 := Mod.trans m3.drew m5 (fun _ h => h) (fun _ _ h => h)
  have m : Mod (Foot2 gj rp) w w5 := Mod.trans m2 m25 (fun k hk => .inr (t3.symm.trans hk)) (fun _ _ h => .inl h)
  have hne : ∀ k, Foot2 gj rp k → k ≠ g ∧ k ≠ b := by
    rintro k (rfl | hk)
    · exact ⟨t1.ne h.dev.top (by decide), t1.ne h.dev.bytes (by decide)⟩
    · obtain ⟨cur, hr⟩ := t2.typed (t3.trans hk)
      exact ⟨hr.ne h.dev.top (by decide), hr.ne h.dev.bytes (by decide)⟩
  refine ⟨rfl, (Value.slice p' (j.l.length + 1) c').ownBlock, ⟨h.dev.mod m (fun e => (hne _ e).1 rfl) (fun e => (hne _ e).2 rfl), ⟨p', c', ?_, ?_, by rw [List.length_append]; rfl⟩, h.low⟩, m, ?_⟩
  · rw [List.length_append]
    exact r5
  · have ho := o2.mod m25 (fun k hk e => hgt2 (by rw [hk, e]))
    rw [List.length_append, strs_append]
    exact ho
  · rw [← t3]
    exact n2
theorem jrecords_spec {gj g b : Nat} {rp : Option Nat} {j : Js} (h : Jr w0 w gj g b rp j) (hl : j.l.length ≤ 5000) :
    Calls Tryz.prog fn_journal_Journal_Records #[.pointer (some ⟨gj, 0, none⟩)] w (fun e w' => ∃ q D, e = .returned (.slice q j.l.length D) ∧ Owns w' w.heap.size ty_string 1 (.slice q j.l.length D) j.l.length (strs j.l) ∧ Still w w') := by
  obtain ⟨p, c, t1, t2, t3⟩ := h.top
  refine journal_Journal_Records_calls _ _ _ ?_
  refine ⟨_, _, _, t1.lget rfl, ?_⟩
  have key : Calls Tryz.prog fn_slices_Clone_string_string #[.slice p j.l.length c] w (fun e w' => ∃ q D, e = .returned (.slice q j.l.length D) ∧ Owns w' w.heap.size ty_string 1 (.slice q j.l.length D) j.l.length (strs j.l) ∧ Still w w') := by
    refine slices_Clone_string_string_calls _ _ _ _ _ ?_
    cases p with
    | none =>
      obtain ⟨_, ⟨hv, hn⟩ | ⟨g', cap, cur, hv, _⟩⟩ := t2
      · rw [hn]
        have hnil : j.l = [] := List.eq_nil_of_length_eq_zero hn
        rw [hnil]
        exact ⟨none, 0, rfl, Owns.nil _ _ _ _, Still.refl _⟩
      · cases hv
    | some a =>
      refine bsel_of (fun h => by cases h) (fun _ => allocK fun w1 r1 s1 z1 => ?_)
      have ho : Owns w1 w.heap.size ty_string 1 (.slice (some (Addr.mk w.heap.size 0 none)) 0 0) 0 [] := ⟨rfl, .inr ⟨_, 0, #[], rfl, Nat.le_refl _, r1, Nat.le_refl _, Nat.zero_le _, rfl, rfl⟩⟩
      refine appK_push ho (by omega) (strs j.l) (by rw [strs_length]; omega) (strs_one _) (t2.still s1 |> At.own) (by omega) (by omega) fun q D w2 o2 m2 _ => ?_
      simp only [Nat.zero_add, List.nil_append] at o2 ⊢
      exact ⟨q, D, rfl, o2, s1.own ho (Nat.le_refl _) m2⟩
  refine key.mono ?_
  rintro _ w1 ⟨q, D, rfl, h1, h2⟩
  exact .inl ⟨_, _, _, rfl, q, D, rfl, h1, h2⟩
def nextOf (gj : Nat) (w : World) : Nat := match w.cell? ⟨gj, 2, none⟩ with
  | some (.int _ n) => n.toNat
  | _ => 0
theorem Jr.nextOf {gj g b : Nat} {rp : Option Nat} {j : Js} (h : Jr w0 w gj g b rp j) : nextOf gj w = j.k := by
  unfold Proofs.YtkdlmkbpfdogcaaGreatDoor.nextOf
  rw [show w.cell? ⟨gj, 2, none⟩ = some (.int .i64 (j.k : Int)) from h.next]
  rfl
theorem jopen_spec {g b : Nat} {s : St} (he : Env w0) (h0 : Still w0 w) (d : Dev w g b s) (ok : s.Ok) (lg : w0.heap.size ≤ g) (lb : w0.heap.size ≤ b) :
    Calls Tryz.prog fn_journal_Open #[.pointer (some ⟨g, 0, none⟩)] w (fun e w' => ∃ gj rp, e = .returned (.pointer (some ⟨gj, 0, none⟩)) ∧ Still w w' ∧ w.heap.size ≤ gj ∧ NewOr none rp w ∧ Jr w0 w' gj g b rp (Js.opened s)) := by
  have hn2 := ok.n2
  refine journal_Open_calls _ _ _ ?_
  refine allocK fun w1 r1 s1 z1 => ?_
  refine ⟨fun w2 => ∃ l k rp f, Jr w0 w2 w.heap.size g b rp ⟨s, l, k⟩ ∧ Still w w2 ∧ NewOr none rp w ∧ openR s = openF f s l k ∧ s.n - k < f ∧ l.length ≤ k ∧ k ≤ s.n, fun w2 => s.n - nextOf w.heap.size w2, ?_, ?_⟩
  · refine ⟨[], 0, none, s.n + 1, ⟨⟨d.top.still s1, d.bytes.still s1⟩, ⟨none, 0, r1, Owns.nil _ _ _ _, rfl⟩, h0.size, lg, lb⟩, s1, NewOr.refl _ _, rfl, by omega, Nat.le_refl _, Nat.zero_le _⟩
  rintro _ w2 ⟨l, k, rp, f, J, s2, hn, hop, hf, hlk, hks⟩
  refine (jread_spec he (h0.trans s2) J ⟨ok, hks, hlk⟩).mono ?_
  rintro _ w3 ⟨⟨t, o, rfl, hr⟩, s3⟩
  have J3 := J.still s3
  have s23 := s2.trans s3
  refine .inl ⟨_, _, rfl, ?_⟩
  cases f with
  | zero => omega
  | succ f =>
  simp only [openF] at hop
  unfold ReadAs at hr
  cases hrd : readR s k l.length with
  | none =>
    rw [hrd] at hr hop
    dsimp only at hr hop
    subst hr
    refine ⟨_, rp, rfl, s23, Nat.le_refl _, hn, ?_⟩
    unfold Js.opened
    rw [hop]
    exact J3
  | some t' =>
    rw [hrd] at hr hop
    obtain ⟨rfl, rfl⟩ := hr
    dsimp only at hop
    obtain ⟨hlt, htl⟩ := readR_some hrd
    refine (jadd_spec (h0.trans s23) J3 (by dsimp only; omega) (by dsimp only; omega) t htl).mono ?_
    rintro _ w4 ⟨rfl, rp', J4, m4, n4⟩
    refine .inl ⟨rfl, ⟨l ++ [t], k + 1 + cnt t.length, rp', f, J4, ?_, ?_, hop, by omega, by simp; omega, by omega⟩, ?_⟩
    · refine Mod.trans s23 m4 (fun _ h => h) (fun i hi hk => ?_)
      rcases hk with rfl | hk
      · omega
      · rcases hn _ hk with h | h
        · cases h
        · omega
    · intro i hi
      rcases n4 i hi with h | h
      · exact hn i h
      · exact .inr (Nat.le_trans s23.size h)
    · dsimp only
      rw [J4.nextOf, J.nextOf]
      dsimp only
      omega
theorem Mod.putObj {S : Nat → Prop} {a b : World} (h : Mod S a b) {k : Nat} (hk : S k ∨ a.heap.size ≤ k) (o : Obj) : Mod S a (b.putObj k o) :=
  ⟨h.os, h.tape, h.output, by rw [World.putObj_size]; exact h.size, fun i hi hn => (World.putObj_heap_other (by
    rintro rfl
    rcases hk with hk | hk
    · exact hn hk
    · omega)).trans (h.block i hi hn)⟩
theorem mput (w : World) (k : Nat) (o : Obj) : Mod (fun n => n = k) w (w.putObj k o) := (Mod.refl (fun n => n = k) w).putObj (.inl rfl) o
theorem heap_lt {w : World} {k : Nat} {o : Obj} (h : w.heap[k]? = some o) : k < w.heap.size := (Array.getElem?_eq_some_iff.1 h).1
theorem heap_mod {S : Nat → Prop} {w w' : World} {k : Nat} {o : Obj} (h : w.heap[k]? = some o) (hm : Mod S w w') (hk : ¬ S k) : w'.heap[k]? = some o := (hm.block k (heap_lt h) hk).trans h
def Round (A B : World → Prop) (e : Ending) (w' : World) : Prop := ∃ o : Bool, e = .returned (.bool o) ∧ (o = true → A w') ∧ (o = false → B w')
theorem chunk_spec {k gs gn q C : Nat} {t : Txt} {B : Nat} (I : Nat → World → Prop) (F : World → Prop) (ht : t.length ≤ 100000) (h0 : I 0 w)
    (hread : ∀ i w1, I i w1 → Row w1 gs 43 ⟨[.slice (some ⟨q, 0, none⟩) t.length C]⟩ ∧ Row w1 gn 3 ⟨[.int .i64 64]⟩ ∧ Owns w1 B 5 1 (.slice (some ⟨q, 0, none⟩) t.length C) t.length (bc t))
    (hdrew : ∀ i w1, I i w1 → I i w1.drew)
    (hstep : ∀ i w1 p D, i < cnt t.length → I i w1 → BytesAt (fun a v => w1.cell? a = some v) p ((t.drop (i * 64)).take 64).length ((t.drop (i * 64)).take 64) → YieldsTo Tryz.prog k [.slice p ((t.drop (i * 64)).take 64).length D] w1 (Round (I (i + 1)) F)) :
    Calls Tryz.prog fn_slices_Chunk_byte_byte_1 #[yieldV k, .pointer (some ⟨gs, 0, none⟩), .pointer (some ⟨gn, 0, none⟩)] w (fun e w' => e = .returned (.tuple #[]) ∧ (I (cnt t.length) w' ∨ F w')) := by
  refine slices_Chunk_byte_byte_1_calls _ _ _ _ _ ?_
  refine ⟨fun x w1 => ∃ i, x = ((i * 64 : Nat) : Int) ∧ i ≤ cnt t.length ∧ I i w1, fun x _ => (cnt t.length + 1) * 64 - x.toNat, ⟨0, rfl, Nat.zero_le _, h0⟩, ?_⟩
  rintro _ _ w1 ⟨i, rfl, hi, hI⟩
  obtain ⟨r1, r2, r3⟩ := hread i w1 hI
  have hc : cnt t.length * 64 < t.length + 64 := by unfold cnt; omega
  have hc2 : t.length ≤ cnt t.length * 64 := by unfold cnt; omega
  refine ⟨_, _, _, r1.lget rfl, bsel_of (fun hx => ?_) (fun hx => ?_)⟩
  · have hx : i * 64 < t.length := by have := of_decide_eq_true hx; omega
    have hlt : i < cnt t.length := by omega
    refine ⟨fun wq => wq = w1.drew, rfl, _, fun wq hq => (by subst hq; exact r2.lget rfl), _, _, _, fun wq hq => (by subst hq; exact r1.lget rfl), by omega, by omega, _, _, _, r1.lget rfl, ?_⟩
    have hm : (if ((((t.length - Int.toNat ((i * 64 : Nat) : Int)) : Nat) : Int) : Int) < 64 then ((((t.length - Int.toNat ((i * 64 : Nat) : Int)) : Nat) : Int) : Int) else 64) = ((min 64 (t.length - i * 64) : Nat) : Int) := by
      rw [Int.toNat_natCast]
      split <;> omega
    rw [hm]
    have hw : IntKind.i64.wrap (((i * 64 : Nat) : Int) + ((min 64 (t.length - i * 64) : Nat) : Int)) = ((i * 64 + min 64 (t.length - i * 64) : Nat) : Int) := by rw [wrap_i64 (by omega) (by omega)]; omega
    rw [hw]
    obtain ⟨g', cap, cur, hv, _, hr, hcap, hsz, htk⟩ := r3.row (by omega)
    injection hv with hv1 hv2 hv3
    subst hv3
    refine ⟨by omega, by omega, by omega, by omega, ?_⟩
    rw [Int.toNat_natCast, Int.toNat_natCast, if_neg (by omega)]
    have hl : ((t.drop (i * 64)).take 64).length = i * 64 + min 64 (t.length - i * 64) - i * 64 := by rw [List.length_take, List.length_drop]; omega
    have hy := hstep i w1.drew (some ((Addr.mk q 0 none).add (i * 64 * 1))) (i * 64 + min 64 (t.length - i * 64) - i * 64) hlt (hdrew i w1 hI) ?_
    · rw [hl] at hy
      refine hy.mono ?_
      rintro _ w2 ⟨o, rfl, hA, hB⟩
      refine ⟨o, rfl, bsel_of (fun ho => ?_) (fun ho => ?_)⟩
      · exact ⟨rfl, .inr (hB (by simpa using ho))⟩
      · have hA := hA (by simpa using ho)
        obtain ⟨_, q2, _⟩ := hread (i + 1) w2 hA
        refine ⟨_, q2.lget rfl, rfl, ⟨i + 1, ?_, hlt, hA⟩, ?_⟩
        · rw [wrap_i64 (by omega) (by omega)]
          omega
        · dsimp only
          rw [wrap_i64 (by omega) (by omega)]
          omega
    · refine ⟨rfl, fun _ => ⟨_, rfl, fun j u hu => ?_⟩⟩
      have hj : j < ((t.drop (i * 64)).take 64).length := (List.getElem?_eq_some_iff.1 hu).1
      rw [List.getElem?_take_of_lt (by rw [List.length_take] at hj; omega), List.getElem?_drop] at hu
      have hat : ∀ n u, t[n]? = some u → w1.cell? (Addr.mk q n none) = some (.int .u8 u.toNat) := by
        intro n u hu
        have hn : n < t.length := (List.getElem?_eq_some_iff.1 hu).1
        obtain ⟨a, ha, hc⟩ := At.own r3 (by omega)
        obtain rfl := Option.some.inj ha
        have := hc n (.int .u8 u.toNat) (by simp [bc, hu])
        rwa [add_row, Nat.zero_add] at this
      have := hat _ _ hu
      show w1.cell? _ = _
      rw [add_row, add_row, Nat.zero_add, Nat.mul_one]
      exact this
  · have hx : ¬ i * 64 < t.length := by have := of_decide_eq_false hx; omega
    have : i = cnt t.length := by omega
    subst this
    exact ⟨rfl, .inl hI⟩
theorem mkChunk_spec {q C : Nat} {t : Txt} {K : World → Prop} (gs gn : Nat) (hgs : gs = w.heap.size) (hgn : gn = w.heap.size + 1)
    (h : ∀ w', Row w' gs 43 ⟨[.slice (some ⟨q, 0, none⟩) t.length C]⟩ → Row w' gn 3 ⟨[.int .i64 64]⟩ → Still w w' → w'.heap.size = w.heap.size + 2 → K w') :
    Calls Tryz.prog fn_slices_Chunk_byte_byte #[.slice (some ⟨q, 0, none⟩) t.length C, .int .i64 64] w (fun e w' => e = .returned (.func (.func fn_slices_Chunk_byte_byte_1) #[] #[.pointer (some ⟨gs, 0, none⟩), .pointer (some ⟨gn, 0, none⟩)]) ∧ K w') := by
  subst hgs hgn
  refine slices_Chunk_byte_byte_calls _ _ _ _ _ _ ?_
  refine allocK fun w1 r1 s1 z1 => allocK fun w2 r2 s2 z2 => ⟨_, r2.lget rfl, bsel_of (fun hx => by simp at hx) (fun _ => ?_)⟩
  rw [z1] at r2 ⊢
  exact ⟨rfl, h w2 (r1.still s2) r2 (s1.trans s2) (by omega)⟩
def RdAs (s : Txt) (w w' : World) (p : Option Addr) (n c : Nat) (ok : Bool) : Prop := match readM s with
  | some l => ok = true ∧ tcE.At w' (fun k => w.heap.size ≤ k ∧ k < w'.heap.size) l (.slice p n c)
  | none => ok = false
def Reads (s : Txt) (w : World) (e : Ending) (w' : World) : Prop := (∃ p n c ok, e = .returned (.tuple #[.slice p n c, .bool ok]) ∧ RdAs s w w' p n c ok) ∧ Still w w'
theorem Reads.bad {s : Txt} {w' : World} {p : Option Addr} {n c : Nat} (h : readM s = none) (hs : Still w w') : Reads s w (.returned (.tuple #[.slice p n c, .bool false])) w' := ⟨⟨_, _, _, _, rfl, by unfold RdAs; rw [h]⟩, hs⟩
theorem Reads.good {s : Txt} {w' : World} {p : Option Addr} {n c : Nat} {l : List Tc} (h : readM s = some l) (hl : tcE.At w' (fun k => w.heap.size ≤ k ∧ k < w'.heap.size) l (.slice p n c)) (hs : Still w w') : Reads s w (.returned (.tuple #[.slice p n c, .bool true])) w' := ⟨⟨_, _, _, _, rfl, by unfold RdAs; rw [h]; exact ⟨rfl, hl⟩⟩, hs⟩
theorem drop3 {α : Type} {l : List α} {i : Nat} (h : i + 2 < l.length) : ∃ a b c, l[i]? = some a ∧ l[i + 1]? = some b ∧ l[i + 2]? = some c ∧ l.drop i = a :: b :: c :: l.drop (i + 3) := by
  refine ⟨l[i], l[i + 1], l[i + 2], getD_some _, getD_some _, getD_some _, ?_⟩
  rw [List.drop_eq_getElem_cons (by omega), List.drop_eq_getElem_cons (show i + 1 < l.length by omega), List.drop_eq_getElem_cons (show i + 1 + 1 < l.length by omega)]
theorem readA_three {p f v : Txt} {r : List Txt} {acc : List Tc} : readA (p :: f :: v :: r) acc = if f = [48] ∨ f = [49] then readA r (acc ++ [⟨p, decide (f = [49]), v⟩]) else none := rfl
theorem StrsAt.at {p : Option Addr} {n : Nat} {l : List Txt} (h : StrsAt w p n l) {a : Addr} (ha : p = some a) {k : Nat} {x : Txt} (hx : l[k]? = some x) : w.cell? (a.add k) = some (.string (S x)) := by
  have hk : k < l.length := (List.getElem?_eq_some_iff.1 hx).1
  obtain ⟨b, hb, hc⟩ := h.get (by have := h.1; omega : k < n)
  obtain rfl := Option.some.inj (ha.symm.trans hb)
  rw [hc]
  rw [List.getElem?_eq_getElem hk] at hx
  rw [Option.some.inj hx]
theorem rread19_spec (s : Txt) (hs : s.length ≤ 100000) : Calls Tryz.prog fn_ref19_read #[.string (S s)] w (Reads s w) := by
  refine ref19_read_calls _ _ _ ?_
  refine (refdecode_spec s (by omega)).mono ?_
  rintro _ w1 ⟨⟨p, n, C, k, rfl, l, hl, hk⟩, s1⟩
  refine .inl ⟨_, _, _, _, rfl, ?_⟩
  rcases hk with ⟨rfl, hd⟩ | ⟨rfl, rfl, hd⟩
  case inr => exact bsel_of (fun _ => Reads.bad (by unfold readM; rw [hd]) s1) (fun h => by simp at h)
  refine bsel_of (fun h => by simp at h) (fun _ => ⟨by decide, ?_⟩)
  have hm : readM s = readA l [] := by unfold readM; rw [hd]
  have hln := hl.1
  have htl := decode_total hd
  have htl2 := total_length l
  rw [show Int.tmod (((n : Nat) : Int) : Int) (3 : Int) = ((n % 3 : Nat) : Int) from tmod_nat n 3]
  refine bsel_of (fun h => Reads.bad ?_ s1) (fun h => ?_)
  · have h : ¬ ((n % 3 : Nat) : Int) = 0 := by simpa using h
    rw [hm]
    exact readA_none l [] (by omega)
  have h3 : n % 3 = 0 := by
    have : ((n % 3 : Nat) : Int) = 0 := by simpa using h
    omega
  refine ⟨fun out outL outC i w2 => ∃ (j : Nat) (acc : List Tc), i = ((3 * j : Nat) : Int) ∧ 3 * j ≤ n ∧ outL = acc.length ∧ acc.length = j ∧ readA l [] = readA (l.drop (3 * j)) acc ∧ tcE.Out w2 w1.heap.size 65 acc (.slice out outL outC) ∧ Still w1 w2, fun _ _ _ i _ => n - i.toNat,
    ⟨0, [], rfl, Nat.zero_le _, rfl, rfl, rfl, Enc.Out.nil _ _ _ _, Still.refl _⟩, ?_⟩
  rintro out _ outC _ _ w2 ⟨j, acc, rfl, hj, rfl, hja, hr, o2, s2⟩
  refine bsel_of (fun hx => ?_) (fun hx => ?_)
  · have hx : 3 * j < n := by have := of_decide_eq_true hx; omega
    obtain ⟨x, f, v, hxa, hf, hv, hdr⟩ := drop3 (l := l) (i := 3 * j) (by omega)
    rw [hdr, readA_three] at hr
    obtain ⟨a, rfl, _⟩ := hl.get hx
    have e1 : IntKind.i64.wrap (((3 * j : Nat) : Int) + 1) = ((3 * j + 1 : Nat) : Int) := by rw [wrap_i64 (by omega) (by omega)]; omega
    have e2 : IntKind.i64.wrap (((3 * j : Nat) : Int) + 2) = ((3 * j + 2 : Nat) : Int) := by rw [wrap_i64 (by omega) (by omega)]; omega
    have e3 : IntKind.i64.wrap (((3 * j : Nat) : Int) + 3) = ((3 * (j + 1) : Nat) : Int) := by rw [wrap_i64 (by omega) (by omega)]; omega
    rw [e1, e2, e3]
    have c : ∀ {wq : World} {k : Nat} {y : Txt}, Still w1 wq → l[k]? = some y → wq.cell? (a.add (((k : Nat) : Int).toNat * 1)) = some (.string (S y)) := by
      intro wq k y hq hy
      rw [Int.toNat_natCast, Nat.mul_one]
      exact (hl.still hq).at rfl hy
    refine ⟨fun w3 => (f = [48] ∨ f = [49]) ∧ w3 = w2, ⟨fun x w3 => x = !decide (f = [48] ∨ f = [49]) ∧ w3 = w2, ⟨by omega, by omega, f, c s2 hf, bsel_of (fun h0 => ⟨by omega, by omega, f, c s2 hf, ?_, rfl⟩) (fun h0 => ⟨?_, rfl⟩)⟩, ?_⟩, ?_⟩
    · have h0 : ¬ f = [48] := by simpa using h0
      simp only [h0, false_or]
    · have h0 : f = [48] := by simpa using h0
      simp [h0]
    · rintro y _ w3 ⟨rfl, rfl⟩
      refine bsel_of (fun h => Reads.bad ?_ (s1.trans s2)) (fun h => ⟨?_, rfl⟩)
      · have h : ¬ (f = [48] ∨ f = [49]) := by simpa using h
        rw [hm, hr, if_neg h]
      · by_cases hf2 : f = [48] ∨ f = [49]
        · exact hf2
        · rw [decide_eq_false hf2] at h
          cases h
    rintro _ w3 ⟨hff, rfl⟩
    rw [if_pos hff] at hr
    have s2D := s2.toDrew
    have oD := o2.still (Still.refl w3).toDrew
    refine ⟨fun wq => Still w1 wq, s2D, by omega, by omega, x, fun wq hq => c hq hxa, by omega, by omega, f, fun wq hq => c hq hf, by omega, by omega, v, fun wq hq => c hq hv, ?_⟩
    have hz := s2.size
    refine oD.push (x := Tc.mk x (decide (f = [49])) v) hz rfl (by omega) (by omega) fun p' c' w5 o5 m5 => ?_
    obtain ⟨_, _, _, he, ho, _⟩ := oD
    injection he with he1 he2 he3
    subst he1 he3
    refine ⟨⟨j + 1, _, rfl, by omega, by simp, by simp [hja], ?_, o5, s2D.own ho (Nat.le_refl _) m5⟩, by dsimp only; omega⟩
    rw [hr, show 3 * (j + 1) = 3 * j + 3 by omega]
  · have hx : n = 3 * j := by have := of_decide_eq_false hx; omega
    rw [List.drop_of_length_le (by omega)] at hr
    have hr : readM s = some acc := by rw [hm, hr]; rfl
    exact Reads.good hr ((o2.at (by decide)).mono fun k hk => ⟨Nat.le_trans s1.size hk.1, hk.2⟩) (s1.trans s2)
theorem chunk3_spec {k gs gn C : Nat} {p : Option Addr} {ls : List Txt} (I : Nat → World → Prop) (F : World → Prop) (hl : ls.length ≤ 100000) (hC : ls.length ≤ C) (h3 : ls.length % 3 = 0) (h0 : I 0 w)
    (hread : ∀ i w1, I i w1 → Row w1 gs 22 ⟨[.slice p ls.length C]⟩ ∧ Row w1 gn 3 ⟨[.int .i64 3]⟩ ∧ StrsAt w1 p ls.length ls)
    (hdrew : ∀ i w1, I i w1 → I i w1.drew)
    (hstep : ∀ i w1 a D, 3 * i + 2 < ls.length → I i w1 → p = some a → YieldsTo Tryz.prog k [.slice (some (a.add (3 * i))) 3 D] w1 (Round (I (i + 1)) F)) :
    Calls Tryz.prog fn_slices_Chunk_string_string_1 #[yieldV k, .pointer (some ⟨gs, 0, none⟩), .pointer (some ⟨gn, 0, none⟩)] w (fun e w' => e = .returned (.tuple #[]) ∧ (I (ls.length / 3) w' ∨ F w')) := by
  refine slices_Chunk_string_string_1_calls _ _ _ _ _ ?_
  refine ⟨fun x w1 => ∃ i, x = ((3 * i : Nat) : Int) ∧ 3 * i ≤ ls.length ∧ I i w1, fun x _ => ls.length - x.toNat, ⟨0, rfl, Nat.zero_le _, h0⟩, ?_⟩
  rintro _ _ w1 ⟨i, rfl, hi, hI⟩
  obtain ⟨r1, r2, r3⟩ := hread i w1 hI
  refine ⟨_, _, _, r1.lget rfl, bsel_of (fun hx => ?_) (fun hx => ?_)⟩
  · have hx : 3 * i < ls.length := by have := of_decide_eq_true hx; omega
    refine ⟨fun wq => wq = w1.drew, rfl, _, fun wq hq => (by subst hq; exact r2.lget rfl), _, _, _, fun wq hq => (by subst hq; exact r1.lget rfl), by omega, by omega, _, _, _, r1.lget rfl, ?_⟩
    have hm : (if ((((ls.length - Int.toNat ((3 * i : Nat) : Int)) : Nat) : Int) : Int) < 3 then ((((ls.length - Int.toNat ((3 * i : Nat) : Int)) : Nat) : Int) : Int) else 3) = 3 := by
      rw [Int.toNat_natCast]
      split <;> omega
    rw [hm]
    have hw : IntKind.i64.wrap (((3 * i : Nat) : Int) + 3) = ((3 * i + 3 : Nat) : Int) := by rw [wrap_i64 (by omega) (by omega)]; omega
    rw [hw]
    refine ⟨by omega, by omega, by omega, by omega, ?_⟩
    rw [Int.toNat_natCast, Int.toNat_natCast, if_neg (by omega)]
    obtain ⟨a, rfl, _⟩ := r3.get hx
    have hy := hstep i w1.drew a (3 * i + 3 - 3 * i) (by omega) (hdrew i w1 hI) rfl
    rw [show 3 * i + 3 - 3 * i = 3 by omega] at hy ⊢
    rw [show (Option.map (fun x : Addr => x.add (3 * i * 1)) (some a)) = some (a.add (3 * i)) by rw [Nat.mul_one]; rfl]
    refine hy.mono ?_
    rintro _ w2 ⟨o, rfl, hA, hB⟩
    refine ⟨o, rfl, bsel_of (fun ho => ?_) (fun ho => ?_)⟩
    · exact ⟨rfl, .inr (hB (by simpa using ho))⟩
    · have hA := hA (by simpa using ho)
      obtain ⟨_, q2, _⟩ := hread (i + 1) w2 hA
      refine ⟨_, q2.lget rfl, rfl, ⟨i + 1, ?_, by omega, hA⟩, ?_⟩
      · rw [hw]; omega
      · dsimp only
        rw [hw]
        omega
  · have hx : ¬ 3 * i < ls.length := by have := of_decide_eq_false hx; omega
    have : i = ls.length / 3 := by omega
    subst this
    exact ⟨rfl, .inl hI⟩
theorem mkChunk3_spec {p : Option Addr} {n C : Nat} : Calls Tryz.prog fn_slices_Chunk_string_string #[.slice p n C, .int .i64 3] w (fun e w' => e = .returned (.func (.func fn_slices_Chunk_string_string_1) #[] #[.pointer (some ⟨w.heap.size, 0, none⟩), .pointer (some ⟨w.heap.size + 1, 0, none⟩)]) ∧
    Row w' w.heap.size 22 ⟨[.slice p n C]⟩ ∧ Row w' (w.heap.size + 1) 3 ⟨[.int .i64 3]⟩ ∧ Still w w' ∧ w'.heap.size = w.heap.size + 2) := by
  refine slices_Chunk_string_string_calls _ _ _ _ _ _ ?_
  refine allocK fun w1 r1 s1 z1 => allocK fun w2 r2 s2 z2 => ⟨_, r2.lget rfl, bsel_of (fun hx => by simp at hx) (fun _ => ?_)⟩
  rw [z1] at r2 ⊢
  exact ⟨rfl, r1.still s2, r2, s1.trans s2, by omega⟩
theorem DecAs.cap {s : Txt} {p : Option Addr} {n : Nat} {k : Int} (h : DecAs s w p n k) : (k = 0 ∧ ∃ l, StrsAt w p n l ∧ decode s = some l) ∨ (k = 20 ∧ decode s = none) := by
  obtain ⟨l, h1, ⟨rfl, h2⟩ | ⟨rfl, _, h2⟩⟩ := h
  · exact .inl ⟨rfl, l, h1, h2⟩
  · exact .inr ⟨rfl, h2⟩
set_option maxRecDepth 10000 in
set_option maxHeartbeats 1000000 in
theorem mread_spec (he : Env w) (s : Txt) (hs : s.length ≤ 100000) : Calls Tryz.prog fn_memo_read #[.string (S s)] w (Reads s w) := by
  refine memo_read_calls _ _ _ ?_
  refine allocK fun w1 ro s1 z1 => allocK fun w2 rk s2 z2 => ?_
  have s02 := s1.trans s2
  have ro2 := ro.still s2
  refine (decode_specC (he.still s02) s (by omega)).mono ?_
  rintro _ w3 ⟨⟨p, n, C, k, rfl, hDec, hcap, hblk⟩, s3⟩
  refine .inl ⟨_, _, _, _, rfl, ?_⟩
  have s03 := s02.trans s3
  have ro3 := ro2.still s3
  have rk3 := rk.still s3
  have fail : ∀ {wa : World}, Row wa w.heap.size 46 ⟨[.slice none 0 0]⟩ → Row wa w1.heap.size 4 ⟨[.bool false]⟩ → Still w wa → readM s = none →
      stCells (Addr.mk w.heap.size 0 none) (fun w4 => stCells (Addr.mk w1.heap.size 0 none) (fun w5 => ∃ (v : Option Addr) (vL vC : Nat), w5.cell? (Addr.mk w.heap.size 0 none) = some (.slice v vL vC) ∧ ∃ v1 : Bool, w5.cell? (Addr.mk w1.heap.size 0 none) = some (.bool v1) ∧ Reads s w (.returned (.tuple #[.slice v vL vC, .bool v1])) w5) 0 [.bool false] w4) 0 [.slice none 0 0] wa := by
    intro wa ra rb sa hn
    refine stK (g := w.heap.size) (o := 0) ra (by simp) (by simp [Value.oneCell']) fun w4 r4 m4 z4 => ?_
    simp only [ovw, List.set_cons_zero] at r4
    have rb4 := rb.mod m4 (by omega)
    refine stK (g := w1.heap.size) (o := 0) rb4 (by simp) (by simp [Value.oneCell']) fun w5 r5 m5 z5 => ?_
    simp only [ovw, List.set_cons_zero] at r5
    have ro5 := r4.mod m5 (by omega)
    refine ⟨_, _, _, ro5.lget rfl, _, r5.lget rfl, Reads.bad hn ?_⟩
    exact Mod.trans (Mod.trans sa m4 (U := fun _ => False) (fun _ h => h) (fun i hi e => by omega)) m5 (fun _ h => h) (fun i hi e => by omega)
  rcases hDec.cap with ⟨rfl, l, hl, hd⟩ | ⟨rfl, hd⟩
  case inr => exact bsel_of (fun _ => fail ro3 rk3 s03 (by unfold readM; rw [hd])) (fun h => by simp at h)
  refine bsel_of (fun h => by simp at h) (fun _ => ⟨by decide, ?_⟩)
  have hm : readM s = readA l [] := by unfold readM; rw [hd]
  have hln := hl.1
  have htl := decode_total hd
  have htl2 := total_length l
  rw [show Int.tmod (((n : Nat) : Int) : Int) (3 : Int) = ((n % 3 : Nat) : Int) from tmod_nat n 3]
  refine bsel_of (fun h => fail ro3 rk3 s03 ?_) (fun h => ?_)
  · have h : ¬ ((n % 3 : Nat) : Int) = 0 := by simpa using h
    rw [hm]
    exact readA_none l [] (by omega)
  have h3 : n % 3 = 0 := by
    have : ((n % 3 : Nat) : Int) = 0 := by simpa using h
    omega
  refine mkChunk3_spec.mono ?_
  rintro _ w8 ⟨rfl, c1, c2, s8, z8⟩
  have s08 := s03.trans s8
  have ro8 := ro3.still s8
  have rk8 := rk3.still s8
  have hl8 := hl.still s8
  have z3 := s3.size
  have z3' := s8.size
  refine .inl ⟨_, rfl, rfl, calleeK_mk (g := fn_slices_Chunk_string_string_1) (first := []) (cap := [.pointer (some ⟨w3.heap.size, 0, none⟩), .pointer (some ⟨w3.heap.size + 1, 0, none⟩)]) ?_⟩
  refine bsel_of (fun _ => ?_) (fun h => absurd h (by rw [show callable Tryz.prog fn_slices_Chunk_string_string_1 = true by kernel_rfl]; decide))
  intro rec hst hpd hY
  have sA : Still w8 ((w8.alloc (.deferred (some []))).alloc (.loop rec)) := ((Mod.refl _ _).alloc _).alloc _
  have hdef : ((w8.alloc (.deferred (some []))).alloc (.loop rec)).heap[w8.heap.size]? = some (.deferred (some [])) := by
    rw [Below.heap_alloc _ _ _ (by simp)]
    exact World.alloc_heap_new _ _
  have hloop : ((w8.alloc (.deferred (some []))).alloc (.loop rec)).heap[w8.heap.size + 1]? = some (.loop rec) := by
    have := World.alloc_heap_new (w8.alloc (.deferred (some []))) (.loop rec)
    rwa [World.size_alloc] at this
  generalize hW : (w8.alloc (.deferred (some []))).alloc (.loop rec) = W at *
  have zW : W.heap.size = w8.heap.size + 2 := by rw [← hW]; simp
  have s0W := s08.trans sA
  -- what stands, whatever is read
  let Own : World → Prop := fun w' => Row w' w3.heap.size 22 ⟨[.slice p n C]⟩ ∧ Row w' (w3.heap.size + 1) 3 ⟨[.int .i64 3]⟩ ∧ w'.heap[w8.heap.size]? = some (.deferred (some [])) ∧ StrsAt w' p n l ∧ Still w w' ∧ W.heap.size ≤ w'.heap.size
  have strsB : ∀ a, p = some a → 0 < n → w2.heap.size ≤ a.block ∧ a.block < w8.heap.size := by
    intro a ha hn
    obtain ⟨b, hb, hc⟩ := hl8.get hn
    obtain rfl := Option.some.inj (ha.symm.trans hb)
    have := World.block_lt_of_cell? _ _ hc
    rw [add_block] at this
    exact ⟨hblk a ha, this⟩
  have keepO : ∀ {wa wb : World} {T : Nat → Prop}, Own wa → Mod T wa wb → (∀ k, T k → k = w.heap.size ∨ k = w1.heap.size ∨ k = w8.heap.size + 1 ∨ k = w8.heap.size + 1 ∨ W.heap.size ≤ k) → Own wb := by
    rintro wa wb T ⟨o1, o2, o4, o5, o6, o7⟩ hm hT
    have no : ∀ {k}, w1.heap.size < k → k ≠ w8.heap.size + 1 → k < W.heap.size → ¬ T k := fun h1 h2 h3 h => by
      rcases hT _ h with e | e | e | e | e <;> omega
    refine ⟨o1.mod hm (no (by omega) (by omega) (by omega)), o2.mod hm (no (by omega) (by omega) (by omega)), heap_mod o4 hm (no (by omega) (by omega) (by omega)), ?_, Mod.trans o6 hm (fun _ h => h) (fun i hi hk => ?_), Nat.le_trans o7 hm.size⟩
    · refine ⟨o5.1, fun hn => ?_⟩
      obtain ⟨a, ha, hc⟩ := o5.2 hn
      obtain ⟨g1, g2⟩ := strsB a ha hn
      exact ⟨a, ha, fun j u hu => mod_cell hm (by rw [add_block]; exact no (by omega) (by omega) (by omega)) (hc j u hu)⟩
    · rcases hT _ hk with e | e | e | e | e <;> omega
  let Bx : World → List Tc → Prop := fun w' acc => ∃ p' c', Row w' w.heap.size 46 ⟨[.slice p' acc.length c']⟩ ∧ tcE.Out w' W.heap.size 65 acc (.slice p' acc.length c')
  let I : Nat → World → Prop := fun i w' => ∃ acc, acc.length = i ∧ readA l [] = readA (l.drop (3 * i)) acc ∧ Bx w' acc ∧ Own w' ∧ Row w' w1.heap.size 4 ⟨[.bool false]⟩ ∧ w'.heap[w8.heap.size + 1]? = some (.loop rec)
  let F : World → Prop := fun w' => readA l [] = none ∧ Row w' w.heap.size 46 ⟨[.slice none 0 0]⟩ ∧ Own w' ∧ Row w' w1.heap.size 4 ⟨[.bool false]⟩ ∧ w'.heap[w8.heap.size + 1]? = some (doneL rec .ret)
  have hstart : I 0 W := ⟨[], rfl, rfl, ⟨none, 0, ro8.still sA, Enc.Out.nil _ _ _ _⟩, ⟨c1.still sA, c2.still sA, hdef, hl8.still sA, s0W, Nat.le_refl _⟩, rk8.still sA, hloop⟩
  have bxStill : ∀ {wa wb : World} {T : Nat → Prop} {acc}, Bx wa acc → Mod T wa wb → (∀ k, T k → k = w8.heap.size + 1) → Bx wb acc := by
    rintro wa wb T acc ⟨p', c', h1, h2⟩ hm hT
    exact ⟨p', c', h1.mod hm (fun h => by have := hT _ h; omega), h2.mod hm (fun k hk _ h => by have := hT _ h; omega)⟩
  subst hln
  refine Calls.mono (chunk3_spec (w := W) (k := w8.heap.size + 1) (gs := w3.heap.size) (gn := w3.heap.size + 1) (C := C) (p := p) (ls := l) I F (by omega) hcap h3 hstart ?_ ?_ ?_) ?_
  · rintro i wa ⟨acc, _, _, _, ho, _⟩
    exact ⟨ho.1, ho.2.1, ho.2.2.2.1⟩
  · rintro i wa ⟨acc, g1, g2, g3, ho, hk, hr⟩
    exact ⟨acc, g1, g2, bxStill g3 (Still.refl wa).toDrew (fun k h => h.elim), keepO ho (Still.refl wa).toDrew (fun k h => h.elim), hk.drew, hr⟩
  · rintro i wa a D hi ⟨acc, hacc, hra, hbx, ho, hk, hr⟩ ha
    have mp : Mod (fun k => k = w8.heap.size + 1) wa (wa.putObj (w8.heap.size + 1) (busyL rec)) := mput _ _ _
    refine hY _ _ _ wa _ hr ⟨rfl, hr, letIn ?_⟩
    have hb2 : (wa.putObj (w8.heap.size + 1) (busyL rec)).heap[w8.heap.size + 1]? = some (busyL rec) := World.putObj_heap_same (heap_lt hr)
    generalize hwb : wa.putObj (w8.heap.size + 1) (busyL rec) = wb at *
    have ho2 := keepO ho mp (fun k h => .inr (.inr (.inl h)))
    have hk2 := hk.mod mp (by omega)
    have hbx2 := bxStill hbx mp (fun k h => h)
    obtain ⟨x, f, v, hxa, hf, hv, hdr⟩ := drop3 (l := l) (i := 3 * i) (by omega)
    rw [hdr, readA_three] at hra
    have cell : ∀ {wq : World} {k : Nat} {y : Txt}, StrsAt wq p l.length l → l[3 * i + k]? = some y → wq.cell? ((a.add (3 * i)).add k) = some (.string (S y)) := by
      intro wq k y hq hy
      rw [adds]
      exact hq.at ha hy
    have cf := cell (k := 1) ho2.2.2.2.1 hf
    refine ⟨fun w3 => (f = [48] ∨ f = [49]) ∧ w3 = wb, ⟨fun y w3 => y = !decide (f = [48] ∨ f = [49]) ∧ w3 = wb, ⟨by decide, by decide, f, cf, bsel_of (fun h0 => ⟨by decide, by decide, f, cf, rfl, ?_, rfl⟩) (fun h0 => ⟨rfl, ?_, rfl⟩)⟩, ?_⟩, ?_⟩
    · have h0 : ¬ f = [48] := by simpa using h0
      simp only [h0, false_or]
    · have h0 : f = [48] := by simpa using h0
      simp [h0]
    · rintro y _ wc ⟨rfl, rfl⟩
      refine bsel_of (fun h => ?_) (fun h => ⟨rfl, ?_, rfl⟩)
      · have h : ¬ (f = [48] ∨ f = [49]) := by simpa using h
        rw [if_neg h] at hra
        obtain ⟨p', c', g1, _⟩ := hbx2
        refine stK (g := w.heap.size) (o := 0) g1 (by simp) (by simp [Value.oneCell']) fun wd r4 m4 z4 => ?_
        simp only [ovw, List.set_cons_zero] at r4
        have ho3 := keepO ho2 m4 (fun k h => .inl h)
        have hk3 := hk2.mod m4 (by omega)
        refine stK (g := w1.heap.size) (o := 0) hk3 (by simp) (by simp [Value.oneCell']) fun we r5 m5 z5 => ?_
        simp only [ovw, List.set_cons_zero] at r5
        have ho5 := keepO ho3 m5 (fun k h => .inr (.inl h))
        have r45 := r4.mod m5 (by omega)
        have hb5 := heap_mod (heap_mod hb2 m4 (by omega)) m5 (by omega)
        have mq := mput we (w8.heap.size + 1) (doneL rec .ret)
        exact ⟨hb5, false, rfl, fun h => (by cases h), fun _ => ⟨hra, r45.mod mq (by omega), keepO ho5 mq (fun k h => .inr (.inr (.inl h))), r5.mod mq (by omega), World.putObj_heap_same (heap_lt hb5)⟩⟩
      · by_cases hf2 : f = [48] ∨ f = [49]
        · exact hf2
        · rw [decide_eq_false hf2] at h
          cases h
    rintro _ wc ⟨hff, rfl⟩
    rw [if_pos hff] at hra
    obtain ⟨p', c', g1, g2⟩ := hbx2
    have sD := (Still.refl wc).toDrew
    have g1D := g1.drew
    have oD := g2.still sD
    have hoD := keepO ho2 sD (fun k h => h.elim)
    have hStr : ∀ wq, Still wc.drew wq → StrsAt wq p l.length l := fun wq hq => hoD.2.2.2.1.still hq
    refine ⟨fun wq => Still wc.drew wq, Still.refl _, _, _, _, fun wq hq => (g1D.still hq).lget rfl, by decide, by decide, x, fun wq hq => cell (k := 0) (hStr wq hq) hxa, by decide, by decide, f, fun wq hq => cell (k := 1) (hStr wq hq) hf, by decide, by decide, v, fun wq hq => cell (k := 2) (hStr wq hq) hv, ?_⟩
    refine letIn ⟨(Mod.refl _ _).alloc _, ?_⟩
    have hz : W.heap.size ≤ wc.drew.heap.size := hoD.2.2.2.2.2
    have hpush := Enc.Out.push (bytes := 40) (x := Tc.mk x (decide (f = [49])) v) (cs := [.string (S x), .bool (decide (f = [49])), .string (S v)]) (K := fun p cp w17 => stCells (Addr.mk w.heap.size 0 none) (fun w18 => w18.heap[w8.heap.size + 1]? = some (busyL rec) ∧ Round (I (i + 1)) F (.returned (.bool true)) (w18.putObj (w8.heap.size + 1) (.loop rec))) 0 [.slice p (acc.length + 1) cp] w17) oD hz rfl (by omega) (by omega) fun p2 c2 wd o5 m5 => ?_
    · exact hpush
    have own : ∀ k, (Value.slice p' acc.length c').ownBlock = some k → W.heap.size ≤ k := by
      obtain ⟨_, _, _, he, hown, _⟩ := oD
      injection he with he1 _ he3
      subst he1 he3
      exact fun k hk => (hown.lt k hk).1
    have ho6 := keepO hoD m5 (fun k h => .inr (.inr (.inr (.inr (own k h)))))
    have hk6 := hk2.drew.mod m5 (fun h => by have := own _ h; omega)
    have hb6 := heap_mod (w := wc.drew) hb2 m5 (fun h => by have := own _ h; omega)
    have g6 := g1D.mod m5 (fun h => by have := own _ h; omega)
    refine stK (g := w.heap.size) (o := 0) g6 (by simp) (by simp [Value.oneCell']) fun we r7 m7 z7 => ?_
    simp only [ovw, List.set_cons_zero] at r7
    have hb7 := heap_mod hb6 m7 (by omega)
    have mq := mput we (w8.heap.size + 1) (.loop rec)
    have o7 := o5.mod m7 (fun k hk _ h => by omega)
    have ho7 := keepO ho6 m7 (fun k h => .inl h)
    refine ⟨hb7, true, rfl, fun _ => ⟨acc ++ [Tc.mk x (decide (f = [49])) v], ?_, ?_, ⟨p2, c2, ?_, ?_⟩, keepO ho7 mq (fun k h => .inr (.inr (.inl h))), (hk6.mod m7 (by omega)).mod mq (by omega), World.putObj_heap_same (heap_lt hb7)⟩, fun h => (by cases h)⟩
    · simp [hacc]
    · rw [hra, show 3 * (i + 1) = 3 * i + 3 by omega]
    · rw [List.length_append]
      exact r7.mod mq (by omega)
    · rw [List.length_append]
      exact o7.mod mq (fun k hk _ h => by omega)
  · rintro _ w9 ⟨rfl, h9⟩
    refine ⟨⟨_, rfl⟩, ?_⟩
    rcases h9 with ⟨acc, hacc, hra, ⟨p', c', g1, g2⟩, ho, hk, hr⟩ | ⟨hra, g1, ho, hk, hr⟩
    · refine .inl ⟨hr, ?_⟩
      have mq := mput w9 (w8.heap.size + 1) (.loop { rec with state := .exhausted })
      generalize hwq : w9.putObj (w8.heap.size + 1) (.loop { rec with state := .exhausted }) = wq at *
      have ho2 := keepO ho mq (fun k h => .inr (.inr (.inl h)))
      have hk2 := hk.mod mq (by omega)
      have g1 := g1.mod mq (by omega)
      have g2 := g2.mod mq (fun k hk _ h => by omega)
      refine ⟨_, _, _, g1.lget rfl, letIn ?_⟩
      refine stK (g := w.heap.size) (o := 0) g1 (by simp) (by simp [Value.oneCell']) fun wr r4 m4 z4 => ?_
      simp only [ovw, List.set_cons_zero] at r4
      have ho4 := keepO ho2 m4 (fun k h => .inl h)
      have hk4 := hk2.mod m4 (by omega)
      have g4 := g2.mod m4 (fun k hk _ h => by omega)
      refine stK (g := w1.heap.size) (o := 0) hk4 (by simp) (by simp [Value.oneCell']) fun we r5 m5 z5 => ?_
      simp only [ovw, List.set_cons_zero] at r5
      have ho5 := keepO ho4 m5 (fun k h => .inr (.inl h))
      have g5 := g4.mod m5 (fun k hk _ h => by omega)
      have r45 := r4.mod m5 (by omega)
      have md := mput we w8.heap.size (.deferred none)
      refine ⟨ho5.2.2.1, _, _, _, (r45.mod md (by omega)).lget rfl, _, (r5.mod md (by omega)).lget rfl, ?_⟩
      have hfin : readM s = some acc := by
        rw [hm, hra, List.drop_of_length_le (by omega)]
        rfl
      have g6 := g5.mod md (fun k hk _ h => by omega)
      exact Reads.good hfin ((g6.at (by decide)).mono fun k hk => ⟨by have := s0W.size; omega, hk.2⟩) (Mod.trans ho5.2.2.2.2.1 md (fun _ h => h) (fun i hi h => by omega))
    · refine .inr (.inl ⟨hr, ?_⟩)
      have mq := mput w9 (w8.heap.size + 1) (.loop { rec with state := .exhausted, pending := some .ret })
      generalize hwq : w9.putObj (w8.heap.size + 1) (.loop { rec with state := .exhausted, pending := some .ret }) = wq at *
      have ho2 := keepO ho mq (fun k h => .inr (.inr (.inl h)))
      have hk2 := hk.mod mq (by omega)
      have g2 := g1.mod mq (by omega)
      have md := mput wq w8.heap.size (.deferred none)
      refine ⟨ho2.2.2.1, _, _, _, (g2.mod md (by omega)).lget rfl, _, (hk2.mod md (by omega)).lget rfl, ?_⟩
      exact Reads.bad (by rw [hm, hra]) (Mod.trans ho2.2.2.2.2.1 md (fun _ h => h) (fun i hi h => by omega))
abbrev moRaw (key : Txt) (pr : Option Addr) (nr cr : Nat) (pw : Option Addr) (nw cw : Nat) (st : Int) (o er : Txt) : List Value := [.string (S key), .slice pr nr cr, .slice pw nw cw, .int .i64 st, .string (S o), .string (S er)]
def DcAs (s : Txt) (w w' : World) (cs : List Value) (k : Int) : Prop := match mdec s with
  | some m => k = 0 ∧ moE.E w' (fun k => w.heap.size ≤ k ∧ k < w'.heap.size) m cs
  | none => k ≠ 0
def Decodes (s : Txt) (w : World) (e : Ending) (w' : World) : Prop := (∃ key pr nr cr pw nw cw st o er k, e = .returned (.tuple #[.agg ⟨moRaw key pr nr cr pw nw cw st o er⟩, .int .i64 k]) ∧ DcAs s w w' (moRaw key pr nr cr pw nw cw st o er) k) ∧ Still w w'
theorem Decodes.bad {s : Txt} {w' : World} {key pr nr cr pw nw cw st o er} (h : mdec s = none) (hs : Still w w') : Decodes s w (.returned (.tuple #[.agg ⟨moRaw key pr nr cr pw nw cw st o er⟩, .int .i64 20])) w' :=
  ⟨⟨_, _, _, _, _, _, _, _, _, _, _, rfl, by unfold DcAs; rw [h]; exact (by decide : (20 : Int) ≠ 0)⟩, hs⟩
theorem Decodes.good {s : Txt} {w' : World} {key pr nr cr pw nw cw st o er} {m : Mo} (h : mdec s = some m) (hm : moE.E w' (fun k => w.heap.size ≤ k ∧ k < w'.heap.size) m (moRaw key pr nr cr pw nw cw st o er)) (hs : Still w w') : Decodes s w (.returned (.tuple #[.agg ⟨moRaw key pr nr cr pw nw cw st o er⟩, .int .i64 0])) w' :=
  ⟨⟨_, _, _, _, _, _, _, _, _, _, _, rfl, by unfold DcAs; rw [h]; exact ⟨rfl, hm⟩⟩, hs⟩
theorem six {l : List Txt} (h : l.length = 6) : ∃ a0 a1 a2 a3 a4 a5, l = [a0, a1, a2, a3, a4, a5] := match l, h with
  | [a0, a1, a2, a3, a4, a5], _ => ⟨a0, a1, a2, a3, a4, a5, rfl⟩
theorem mdec_six {s a0 a1 a2 a3 a4 a5 : Txt} (h : decode s = some [a0, a1, a2, a3, a4, a5]) : mdec s = mof a0 (readM a1) (readM a2) (numR a3) a4 a5 := by
  unfold mdec
  rw [h]
theorem mdec_not {s : Txt} {l : List Txt} (h : decode s = some l) (hl : l.length ≠ 6) : mdec s = none := by
  unfold mdec
  rw [h]
  split
  · rename_i e
    obtain rfl := Option.some.inj e
    exact absurd rfl hl
  · rfl
theorem mdec_no {s : Txt} (h : decode s = none) : mdec s = none := by
  unfold mdec
  rw [h]
theorem RdAs.none {s : Txt} {w w' : World} {p : Option Addr} {n c : Nat} (h : RdAs s w w' p n c false) : readM s = none := by
  unfold RdAs at h
  cases e : readM s with
  | none => rfl
  | some l => rw [e] at h; cases h.1
theorem RdAs.some {s : Txt} {w w' : World} {p : Option Addr} {n c : Nat} (h : RdAs s w w' p n c true) : ∃ l, readM s = some l ∧ tcE.At w' (fun k => w.heap.size ≤ k ∧ k < w'.heap.size) l (.slice p n c) := by
  unfold RdAs at h
  cases e : readM s with
  | none => rw [e] at h; cases h
  | some l => rw [e] at h; exact ⟨l, rfl, h.2⟩
theorem mof_none1 {k : Txt} {w : Option (List Tc)} {n : Option Nat} {o e : Txt} : mof k none w n o e = none := rfl
theorem mof_none2 {k : Txt} {r : Option (List Tc)} {n : Option Nat} {o e : Txt} : mof k r none n o e = none := by cases r <;> rfl
theorem mof_none3 {k : Txt} {r w : Option (List Tc)} {o e : Txt} : mof k r w none o e = none := by cases r <;> cases w <;> rfl
theorem part_len {s : Txt} {l : List Txt} (h : decode s = some l) (hs : s.length ≤ 100000) {x : Txt} (hx : x ∈ l) : x.length ≤ 100000 := by
  have h1 := decode_total h
  have h2 := total_mem hx
  omega
set_option maxRecDepth 10000 in
theorem mdecode_spec (he : Env w) (s : Txt) (hs : s.length ≤ 100000) : Calls Tryz.prog fn_memo_Decode #[.string (S s)] w (Decodes s w) := by
  refine memo_Decode_calls _ _ _ ?_
  refine allocK fun w1 rb s1 z1 => ?_
  refine (decode_spec (he.still s1) s (by omega)).mono ?_
  rintro _ w2 ⟨⟨p, n, C, k, rfl, hD⟩, s2⟩
  have s02 := s1.trans s2
  have rb2 := rb.still s2
  refine .inl ⟨_, _, _, _, rfl, ?_⟩
  refine ⟨fun w5 => (∃ l, StrsAt w2 p n l ∧ decode s = some l ∧ n = 6) ∧ w5 = w2, ⟨fun x w3 => (x = true → mdec s = none) ∧ (x = false → ∃ l, StrsAt w2 p n l ∧ decode s = some l ∧ n = 6) ∧ w3 = w2, ?_, ?_⟩, ?_⟩
  · rcases hD.cap with ⟨rfl, l, hl, hd⟩ | ⟨rfl, hd⟩
    · refine bsel_of (fun h => by simp at h) (fun _ => ⟨fun h => mdec_not hd ?_, fun h => ⟨l, hl, hd, ?_⟩, rfl⟩)
      · have := hl.1
        have h : ¬ ((n : Nat) : Int) = 6 := by simpa using h
        omega
      · have h : ((n : Nat) : Int) = 6 := by simpa using h
        omega
    · exact bsel_of (fun _ => ⟨fun _ => mdec_no hd, (fun h => by cases h), rfl⟩) (fun h => by simp at h)
  · rintro x _ w3 ⟨hx1, hx2, rfl⟩
    refine bsel_of (fun hx => ?_) (fun hx => ⟨hx2 hx, rfl⟩)
    refine ⟨_, _, _, _, _, _, _, _, _, _, rb2.lget rfl, rb2.lget rfl, rb2.lget rfl, rb2.lget rfl, rb2.lget rfl, rb2.lget rfl, stK (o := 0) rb2 (by simp) (by simp [Value.oneCell']) fun w4 r4 m4 z4 => ?_⟩
    exact ⟨_, _, _, _, _, _, _, _, _, _, r4.lget rfl, r4.lget rfl, r4.lget rfl, r4.lget rfl, r4.lget rfl, r4.lget rfl, Decodes.bad (hx1 hx) (s02.box (Nat.le_refl _) m4)⟩
  rintro _ w5 ⟨⟨l, hl, hd, rfl⟩, rfl⟩
  obtain ⟨a0, a1, a2, a3, a4, a5, rfl⟩ := six hl.1
  have hm := mdec_six hd
  have len : ∀ {x}, x ∈ [a0, a1, a2, a3, a4, a5] → x.length ≤ 100000 := fun h => part_len hd hs h
  obtain ⟨a, rfl, _⟩ := hl.get (show 0 < 6 by decide)
  have c : ∀ {wq : World} {k : Nat} {y : Txt}, Still w5 wq → [a0, a1, a2, a3, a4, a5][k]? = some y → wq.cell? (a.add k) = some (.string (S y)) := fun hq hy => (hl.still hq).at rfl hy
  refine ⟨by decide, by decide, a1, c (k := 1) (Still.refl _) rfl, (mread_spec (he.still s02) a1 (len (by simp))).mono ?_⟩
  rintro _ w6 ⟨⟨pr, nr, cr, okr, rfl, hR⟩, s6⟩
  have s06 := s02.trans s6
  refine .inl ⟨_, _, _, _, rfl, by decide, by decide, a2, c (k := 2) s6 rfl, (mread_spec (he.still s06) a2 (len (by simp))).mono ?_⟩
  rintro _ w7 ⟨⟨pw, nw, cw, okw, rfl, hW⟩, s7⟩
  have s07 := s06.trans s7
  have s57 := s6.trans s7
  refine .inl ⟨_, _, _, _, rfl, by decide, by decide, a3, c (k := 3) s57 rfl, (number_spec (he.still s07) a3 (by have := len (x := a3) (by simp); omega)).mono ?_⟩
  rintro _ w8 ⟨⟨z, okz, rfl, hZ⟩, s8⟩
  have s08 := s07.trans s8
  have s58 := s57.trans s8
  have rb8 := rb2.still s58
  refine .inl ⟨_, _, rfl, ?_⟩
  refine ⟨fun w11 => (okr = true ∧ okw = true ∧ okz = true) ∧ w11 = w8, ⟨fun x w9 => (x = true → mdec s = none) ∧ (x = false → okr = true ∧ okw = true ∧ okz = true) ∧ w9 = w8, ?_, ?_⟩, ?_⟩
  · refine bsel_of (fun h => ?_) (fun h => bsel_of (fun h2 => ?_) (fun h2 => ?_))
    · have h : okr = false := by simpa using h
      subst h
      exact ⟨fun _ => by rw [hm, hR.none, mof_none1], (fun h => by cases h), rfl⟩
    · have h2 : okw = false := by simpa using h2
      subst h2
      exact ⟨fun _ => by rw [hm, hW.none, mof_none2], (fun h => by cases h), rfl⟩
    · have h : okr = true := by simpa using h
      have h2 : okw = true := by simpa using h2
      refine ⟨fun h3 => ?_, fun h3 => ⟨h, h2, by simpa using h3⟩, rfl⟩
      have h3 : okz = false := by simpa using h3
      rw [hm]
      cases e : numR a3 with
      | none => exact mof_none3
      | some n => rw [e] at hZ; rw [hZ.2] at h3; cases h3
  · rintro x _ w9 ⟨hx1, hx2, rfl⟩
    refine bsel_of (fun hx => ?_) (fun hx => ⟨hx2 hx, rfl⟩)
    refine ⟨_, _, _, _, _, _, _, _, _, _, rb8.lget rfl, rb8.lget rfl, rb8.lget rfl, rb8.lget rfl, rb8.lget rfl, rb8.lget rfl, stK (o := 0) rb8 (by simp) (by simp [Value.oneCell']) fun w4 r4 m4 z4 => ?_⟩
    exact ⟨_, _, _, _, _, _, _, _, _, _, r4.lget rfl, r4.lget rfl, r4.lget rfl, r4.lget rfl, r4.lget rfl, r4.lget rfl, Decodes.bad (hx1 hx) (s08.box (Nat.le_refl _) m4)⟩
  rintro _ w11 ⟨⟨rfl, rfl, rfl⟩, rfl⟩
  obtain ⟨lr, er, hr⟩ := hR.some
  obtain ⟨lw, ew, hw⟩ := hW.some
  cases ez : numR a3 with
  | none => rw [ez] at hZ; cases hZ
  | some m =>
  rw [ez] at hZ
  obtain ⟨rfl, _⟩ := hZ
  rw [er, ew, ez] at hm
  have hm : mdec s = some ⟨a0, lr, lw, m, a4, a5⟩ := hm
  have zz : w.heap.size < w5.heap.size := by have := s2.size; omega
  have z6 := s6.size
  refine ⟨fun wq => Still w5 wq, s58.toDrew, by decide, by decide, a0, fun wq hq => c (k := 0) hq rfl, by decide, by decide, a4, fun wq hq => c (k := 4) hq rfl, by decide, by decide, a5, fun wq hq => c (k := 5) hq rfl, stK (o := 0) rb8.drew (by simp) (by simp [Value.oneCell']) fun w12 r12 m12 z12 => ?_⟩
  have hr' := ((((hr.still s7).still s8).mono (G := fun k => w5.heap.size ≤ k ∧ k < w11.drew.heap.size) fun k hk => ⟨hk.1, Nat.lt_of_lt_of_le hk.2 (s7.trans s8).size⟩).still (Still.refl w11).toDrew).mod m12 (fun k hk => by omega)
  have hw' := (((hw.still s8).mono (G := fun k => w5.heap.size ≤ k ∧ k < w11.drew.heap.size) fun k hk => ⟨by omega, Nat.lt_of_lt_of_le hk.2 s8.size⟩).still (Still.refl w11).toDrew).mod m12 (fun k hk => by omega)
  have up : ∀ k, (w5.heap.size ≤ k ∧ k < w11.drew.heap.size) → w.heap.size ≤ k ∧ k < w12.heap.size := fun k hk => by omega
  exact ⟨_, _, _, _, _, _, _, _, _, _, r12.lget rfl, r12.lget rfl, r12.lget rfl, r12.lget rfl, r12.lget rfl, r12.lget rfl, Decodes.good hm ⟨_, _, rfl, hr'.mono up, hw'.mono up⟩ (s08.toDrew.box (Nat.le_refl _) m12)⟩
set_option maxRecDepth 10000 in
theorem rdecode19_spec (s : Txt) (hs : s.length ≤ 100000) : Calls Tryz.prog fn_ref19_Decode #[.string (S s)] w (Decodes s w) := by
  refine ref19_Decode_calls _ _ _ ?_
  refine allocK fun w1 rb s1 z1 => ?_
  refine (refdecode_spec s (by omega)).mono ?_
  rintro _ w2 ⟨⟨p, n, C, k, rfl, hD⟩, s2⟩
  have s02 := s1.trans s2
  have rb2 := rb.still s2
  refine .inl ⟨_, _, _, _, rfl, ?_⟩
  refine ⟨fun w5 => (∃ l, StrsAt w2 p n l ∧ decode s = some l ∧ n = 6) ∧ w5 = w2, ⟨fun x w3 => (x = true → mdec s = none) ∧ (x = false → ∃ l, StrsAt w2 p n l ∧ decode s = some l ∧ n = 6) ∧ w3 = w2, ?_, ?_⟩, ?_⟩
  · rcases hD.cap with ⟨rfl, l, hl, hd⟩ | ⟨rfl, hd⟩
    · refine bsel_of (fun h => by simp at h) (fun _ => ⟨fun h => mdec_not hd ?_, fun h => ⟨l, hl, hd, ?_⟩, rfl⟩)
      · have := hl.1
        have h : ¬ ((n : Nat) : Int) = 6 := by simpa using h
        omega
      · have h : ((n : Nat) : Int) = 6 := by simpa using h
        omega
    · exact bsel_of (fun _ => ⟨fun _ => mdec_no hd, (fun h => by cases h), rfl⟩) (fun h => by simp at h)
  · rintro x _ w3 ⟨hx1, hx2, rfl⟩
    refine bsel_of (fun hx => ?_) (fun hx => ⟨hx2 hx, rfl⟩)
    refine stK (o := 0) rb2 (by simp) (by simp [Value.oneCell']) fun w4 r4 m4 z4 => ?_
    exact ⟨_, _, _, _, _, _, _, _, _, _, r4.lget rfl, r4.lget rfl, r4.lget rfl, r4.lget rfl, r4.lget rfl, r4.lget rfl, Decodes.bad (hx1 hx) (s02.box (Nat.le_refl _) m4)⟩
  rintro _ w5 ⟨⟨l, hl, hd, rfl⟩, rfl⟩
  obtain ⟨a0, a1, a2, a3, a4, a5, rfl⟩ := six hl.1
  have hm := mdec_six hd
  have len : ∀ {x}, x ∈ [a0, a1, a2, a3, a4, a5] → x.length ≤ 100000 := fun h => part_len hd hs h
  obtain ⟨a, rfl, _⟩ := hl.get (show 0 < 6 by decide)
  have c : ∀ {wq : World} {k : Nat} {y : Txt}, Still w5 wq → [a0, a1, a2, a3, a4, a5][k]? = some y → wq.cell? (a.add k) = some (.string (S y)) := fun hq hy => (hl.still hq).at rfl hy
  refine ⟨by decide, by decide, a1, c (k := 1) (Still.refl _) rfl, (rread19_spec a1 (len (by simp))).mono ?_⟩
  rintro _ w6 ⟨⟨pr, nr, cr, okr, rfl, hR⟩, s6⟩
  have s06 := s02.trans s6
  refine .inl ⟨_, _, _, _, rfl, by decide, by decide, a2, c (k := 2) s6 rfl, (rread19_spec a2 (len (by simp))).mono ?_⟩
  rintro _ w7 ⟨⟨pw, nw, cw, okw, rfl, hW⟩, s7⟩
  have s07 := s06.trans s7
  have s57 := s6.trans s7
  refine .inl ⟨_, _, _, _, rfl, by decide, by decide, a3, c (k := 3) s57 rfl, (refnumber_spec a3 (by have := len (x := a3) (by simp); omega)).mono ?_⟩
  rintro _ w8 ⟨rfl, rfl⟩
  have s08 := s07
  have s58 := s57
  have rb8 := rb2.still s58
  refine .inl ⟨_, rfl, ?_⟩
  refine ⟨fun w11 => (okr = true ∧ okw = true ∧ ∃ m, numR a3 = some m) ∧ w11 = w8, ⟨fun x w9 => (x = true → mdec s = none) ∧ (x = false → okr = true ∧ okw = true ∧ ∃ m, numR a3 = some m) ∧ w9 = w8, ?_, ?_⟩, ?_⟩
  · refine bsel_of (fun h => ?_) (fun h => bsel_of (fun h2 => ?_) (fun h2 => ?_))
    · have h : okr = false := by simpa using h
      subst h
      exact ⟨fun _ => by rw [hm, hR.none, mof_none1], (fun h => by cases h), rfl⟩
    · have h2 : okw = false := by simpa using h2
      subst h2
      exact ⟨fun _ => by rw [hm, hW.none, mof_none2], (fun h => by cases h), rfl⟩
    · have h : okr = true := by simpa using h
      have h2 : okw = true := by simpa using h2
      cases e : numR a3 with
      | none => exact ⟨fun _ => by rw [hm, e, mof_none3], (fun h3 => by simp at h3), rfl⟩
      | some m => exact ⟨fun h3 => by have := of_decide_eq_true h3; dsimp only at this; omega, fun _ => ⟨h, h2, m, rfl⟩, rfl⟩
  · rintro x _ w9 ⟨hx1, hx2, rfl⟩
    refine bsel_of (fun hx => ?_) (fun hx => ⟨hx2 hx, rfl⟩)
    refine stK (o := 0) rb8 (by simp) (by simp [Value.oneCell']) fun w4 r4 m4 z4 => ?_
    exact ⟨_, _, _, _, _, _, _, _, _, _, r4.lget rfl, r4.lget rfl, r4.lget rfl, r4.lget rfl, r4.lget rfl, r4.lget rfl, Decodes.bad (hx1 hx) (s08.box (Nat.le_refl _) m4)⟩
  rintro _ w11 ⟨⟨rfl, rfl, m, ez⟩, rfl⟩
  obtain ⟨lr, er, hr⟩ := hR.some
  obtain ⟨lw, ew, hw⟩ := hW.some
  rw [er, ew, ez] at hm
  rw [ez]
  have hm : mdec s = some ⟨a0, lr, lw, m, a4, a5⟩ := hm
  have zz : w.heap.size < w5.heap.size := by have := s2.size; omega
  have z6 := s6.size
  refine ⟨fun wq => Still w5 wq, s58.toDrew, by decide, by decide, a0, fun wq hq => c (k := 0) hq rfl, by decide, by decide, a4, fun wq hq => c (k := 4) hq rfl, by decide, by decide, a5, fun wq hq => c (k := 5) hq rfl, stK (o := 0) rb8.drew (by simp) (by simp [Value.oneCell']) fun w12 r12 m12 z12 => ?_⟩
  have hr' := (((hr.still s7).mono (G := fun k => w5.heap.size ≤ k ∧ k < w11.drew.heap.size) fun k hk => ⟨hk.1, Nat.lt_of_lt_of_le hk.2 s7.size⟩).still (Still.refl w11).toDrew).mod m12 (fun k hk => by omega)
  have hw' := ((hw.mono (G := fun k => w5.heap.size ≤ k ∧ k < w11.drew.heap.size) fun k hk => ⟨by omega, hk.2⟩).still (Still.refl w11).toDrew).mod m12 (fun k hk => by omega)
  have up : ∀ k, (w5.heap.size ≤ k ∧ k < w11.drew.heap.size) → w.heap.size ≤ k ∧ k < w12.heap.size := fun k hk => by omega
  exact ⟨_, _, _, _, _, _, _, _, _, _, r12.lget rfl, r12.lget rfl, r12.lget rfl, r12.lget rfl, r12.lget rfl, r12.lget rfl, Decodes.good hm ⟨_, _, rfl, hr'.mono up, hw'.mono up⟩ (s08.toDrew.box (Nat.le_refl _) m12)⟩
end Go.Proofs.YtkdlmkbpfdogcaaGreatDoor
namespace Go.Proofs.YtkdlmkbpfdogcaaGreatDoor
open Go.RowKit Vc
variable {w w0 : World} {F G : Nat → Prop}
theorem sametc_spec {la lb : List Tc} {pa pb : Option Addr} {na nb ca cb : Nat} (ha : tcE.At w F la (.slice pa na ca)) (hb : tcE.At w G lb (.slice pb nb cb)) (hn : la.length ≤ 1000000) :
    Calls Tryz.prog fn_ref05_SameTouches #[.slice pa na ca, .slice pb nb cb] w (fun e w' => e = .returned (.bool (decide (la = lb))) ∧ Still w w') := by
  refine ref05_SameTouches_calls _ _ _ _ _ _ _ _ ?_
  obtain ⟨e1, _⟩ := ha.len
  obtain ⟨e2, _⟩ := hb.len
  subst e1 e2
  refine bsel_of (fun hne => ?_) (fun he => ?_)
  · have hne : ((la.length : Nat) : Int) ≠ (lb.length : Nat) := by simpa using hne
    refine ⟨?_, Still.refl _⟩
    rw [decide_eq_false]
    rintro rfl
    omega
  have he : la.length = lb.length := by
    have : ((la.length : Nat) : Int) = (lb.length : Nat) := by simpa using he
    omega
  refine ⟨fun i w1 => ∃ k : Nat, i = (k : Int) ∧ k ≤ la.length ∧ la.take k = lb.take k ∧ Still w w1, fun i _ => la.length - i.toNat, ⟨0, rfl, Nat.zero_le _, rfl, Still.refl _⟩, ?_⟩
  rintro _ _ w1 ⟨k, rfl, hk, hp, hst⟩
  refine bsel_of (fun hx => ?_) (fun hx => ?_)
  · have hx : k < la.length := by have := of_decide_eq_true hx; omega
    have hxb : k < lb.length := by omega
    obtain ⟨a, rfl, hca⟩ := tcE_get ha (getD_some hx)
    obtain ⟨b, rfl, hcb⟩ := tcE_get hb (getD_some hxb)
    obtain ⟨c0, c1, c2⟩ := hca w1 hst
    obtain ⟨d0, d1, d2⟩ := hcb w1 hst
    have ha' := take_snoc hx
    have hb' := take_snoc hxb
    have hiff : la[k] = lb[k] ↔ la.take (k + 1) = lb.take (k + 1) := by
      rw [ha', hb', hp]
      exact ⟨fun h => by rw [h], fun h => (List.cons.inj (List.append_cancel_left h)).1⟩
    have full : ¬ la[k] = lb[k] → ¬ la = lb := by
      rintro h rfl
      exact h rfl
    generalize la[k] = x at *
    generalize lb[k] = y at *
    refine ⟨by omega, by omega, x.p, x.b, x.v, by rw [Int.toNat_natCast]; exact c0, by rw [Int.toNat_natCast]; exact c1, by rw [Int.toNat_natCast]; exact c2, by omega, by omega, y.p, y.b, y.v, by rw [Int.toNat_natCast]; exact d0, by rw [Int.toNat_natCast]; exact d1, by rw [Int.toNat_natCast]; exact d2, ?_⟩
    have heq : (decide (x.p = y.p) && (decide (x.b = y.b) && (decide (x.v = y.v) && true))) = decide (x = y) := by
      cases x
      cases y
      simp only [Tc.mk.injEq, Bool.and_true]
      simp
    rw [heq]
    refine bsel_of (fun hq => ?_) (fun hq => ?_)
    · have hq : ¬ x = y := by simpa using hq
      rw [decide_eq_false (full hq)]
      exact ⟨rfl, hst.toDrew⟩
    · have hq : x = y := by simpa using hq
      rw [wrap_i64 (by omega) (by omega)]
      exact ⟨⟨k + 1, by omega, hx, hiff.1 hq, hst.toDrew⟩, by dsimp only; omega⟩
  · have hx : k = la.length := by have := of_decide_eq_false hx; omega
    subst hx
    rw [List.take_length, he, List.take_length] at hp
    rw [decide_eq_true hp]
    exact ⟨rfl, hst⟩
structure Mo.Ok (m : Mo) : Prop where
  r : m.r.length ≤ 1000000
  w : m.w.length ≤ 1000000
theorem Mo.Few.ok {m : Mo} (h : m.Few) : m.Ok := by
  have hw := h.w
  unfold Mo.wt at hw
  have h1 := (tcs_total m.r).2
  have h2 := (tcs_total m.w).2
  exact ⟨by omega, by omega⟩
theorem readA_len : ∀ {l : List Txt} {acc r : List Tc}, readA l acc = some r → r.length ≤ acc.length + l.length
  | [], acc, r, h => by
    obtain rfl := Option.some.inj h
    simp
  | [_], _, _, h => by cases h
  | [_, _], _, _, h => by cases h
  | p :: f :: v :: l, acc, r, h => by
    rw [readA_three] at h
    split at h
    · have := readA_len h
      simp only [List.length_append, List.length_cons, List.length_nil] at this ⊢
      omega
    · cases h
theorem readM_len {s : Txt} {l : List Tc} (h : readM s = some l) : l.length ≤ s.length := by
  unfold readM at h
  cases e : decode s with
  | none => rw [e] at h; cases h
  | some d =>
    rw [e] at h
    have h1 := readA_len h
    have h2 := decode_total e
    have h3 := total_length d
    simp only [List.length_nil] at h1
    omega
theorem mdec_ok {s : Txt} {m : Mo} (h : mdec s = some m) (hs : s.length ≤ 100000) : m.Ok := by
  unfold mdec at h
  split at h
  · rename_i k r w n o e hd
    have hr := part_len hd hs (x := r) (by simp)
    have hw := part_len hd hs (x := w) (by simp)
    cases er : readM r with
    | none => rw [er] at h; cases h
    | some lr =>
      cases ew : readM w with
      | none => rw [er, ew] at h; cases h
      | some lw =>
        cases en : numR n with
        | none => rw [er, ew, en] at h; cases h
        | some z =>
          rw [er, ew, en] at h
          have h := Option.some.inj h
          subst h
          exact ⟨by have := readM_len er; dsimp only; omega, by have := readM_len ew; dsimp only; omega⟩
  · cases h
theorem same19_spec {a b : Mo} {par paw pbr pbw : Option Addr} {car caw cbr cbw : Nat} (h1 : tcE.At w F a.r (.slice par a.r.length car)) (h2 : tcE.At w F a.w (.slice paw a.w.length caw)) (h3 : tcE.At w G b.r (.slice pbr b.r.length cbr)) (h4 : tcE.At w G b.w (.slice pbw b.w.length cbw)) (hok : a.Ok) :
    Calls Tryz.prog fn_ref19_Same #[.agg ⟨moC a (.slice par a.r.length car) (.slice paw a.w.length caw)⟩, .agg ⟨moC b (.slice pbr b.r.length cbr) (.slice pbw b.w.length cbw)⟩] w (fun e w' => e = .returned (.bool (decide (a = b))) ∧ Still w w') := by
  refine ref19_Same_calls _ _ _ _ _ _ _ _ _ _ _ _ _ _ _ _ _ _ _ _ _ _ ?_
  refine allocK fun w1 ra s1 z1 => allocK fun w2 rb s2 z2 => ?_
  have s02 := s1.trans s2
  have ra2 := ra.still s2
  have no : ∀ {p : Prop}, (a = b → p) → ¬ p → decide (a = b) = false := fun h1 h2 => decide_eq_false fun h => h2 (h1 h)
  refine ⟨a.k, ra2.lget rfl, b.k, rb.lget rfl, bsel_of (fun hk' => ?_) (fun hk => ?_)⟩
  · have hk := of_decide_eq_true hk'
    clear hk'
    refine ⟨a.st, a.o, a.e, ra2.lget rfl, ra2.lget rfl, ra2.lget rfl, b.st, b.o, b.e, rb.lget rfl, rb.lget rfl, rb.lget rfl, bsel_of (fun hr' => ?_) (fun hr => ?_)⟩
    · have hr : a.st = b.st ∧ a.o = b.o ∧ a.e = b.e := by simpa using hr'
      clear hr'
      refine ⟨_, _, _, ra2.lget rfl, _, _, _, rb.lget rfl, (sametc_spec (h1.still s02) (h3.still s02) hok.r).mono ?_⟩
      rintro _ w3 ⟨rfl, s3⟩
      refine .inl ⟨_, rfl, bsel_of (fun h5' => ?_) (fun h5 => ?_)⟩
      · have h5 := of_decide_eq_true h5'
        clear h5'
        refine ⟨_, _, _, (ra2.still s3).lget rfl, _, _, _, (rb.still s3).lget rfl, (sametc_spec ((h2.still s02).still s3) ((h4.still s02).still s3) hok.w).mono ?_⟩
        rintro _ w4 ⟨rfl, s4⟩
        refine .inl ⟨_, rfl, ?_, (s02.trans s3).trans s4⟩
        have : decide (a.w = b.w) = decide (a = b) := by
          cases a
          cases b
          obtain ⟨q1, q2, q3⟩ := hr
          dsimp only at hk h5 q1 q2 q3
          subst hk h5 q1 q2 q3
          simp
        rw [this]
      · have h5 := of_decide_eq_false h5
        rw [no (fun h => by rw [h]) h5]
        exact ⟨rfl, s02.trans s3⟩
    · have hr : ¬ (a.st = b.st ∧ a.o = b.o ∧ a.e = b.e) := by simpa using hr
      rw [no (fun h => by rw [h]; exact ⟨rfl, rfl, rfl⟩) hr]
      exact ⟨rfl, s02⟩
  · have hk := of_decide_eq_false hk
    rw [no (fun h => by rw [h]) hk]
    exact ⟨rfl, s02⟩
def MoAt (w : World) (a : Addr) (x : Mo) (pr : Option Addr) (cr : Nat) (pw : Option Addr) (cw : Nat) : Prop := w.cell? a = some (.string (S x.k)) ∧ w.cell? (a.add 1) = some (.slice pr x.r.length cr) ∧ w.cell? (a.add 2) = some (.slice pw x.w.length cw) ∧ w.cell? (a.add 3) = some (.int .i64 x.st) ∧ w.cell? (a.add 4) = some (.string (S x.o)) ∧ w.cell? (a.add 5) = some (.string (S x.e))
theorem MoAt.of {a : Addr} {x : Mo} {pr pw : Option Addr} {cr cw : Nat} (h : CellsAt w a (moC x (.slice pr x.r.length cr) (.slice pw x.w.length cw))) : MoAt w a x pr cr pw cw := ⟨h 0 _ rfl, h 1 _ rfl, h 2 _ rfl, h 3 _ rfl, h 4 _ rfl, h 5 _ rfl⟩
theorem MoAt.still {a : Addr} {x : Mo} {pr pw : Option Addr} {cr cw : Nat} (h : MoAt w a x pr cr pw cw) {w' : World} (hm : Still w w') : MoAt w' a x pr cr pw cw := ⟨hm.cell h.1, hm.cell h.2.1, hm.cell h.2.2.1, hm.cell h.2.2.2.1, hm.cell h.2.2.2.2.1, hm.cell h.2.2.2.2.2⟩
theorem moE_get {l : List Mo} {p : Option Addr} {n c : Nat} (hl : moE.At w F l (.slice p n c)) {i : Nat} {x : Mo} (hx : l[i]? = some x) : ∃ a pr cr pw cw, p = some a ∧ tcE.At w F x.r (.slice pr x.r.length cr) ∧ tcE.At w F x.w (.slice pw x.w.length cw) ∧ MoAt w (a.add (i * 6)) x pr cr pw cw := by
  obtain ⟨b, cs, rfl, _, he, hc⟩ := hl.get hx
  obtain ⟨pr, cr, pw, cw, rfl, h1, h2⟩ := moE_outs he
  exact ⟨b, pr, cr, pw, cw, rfl, h1, h2, MoAt.of hc⟩
theorem sameAll_spec {la lb : List Mo} {pa pb : Option Addr} {na nb ca cb : Nat} (ha : moE.At w F la (.slice pa na ca)) (hb : moE.At w G lb (.slice pb nb cb)) (hn : la.length ≤ 1000000) (hok : ∀ m ∈ la, m.Ok) :
    Calls Tryz.prog fn_ref19_SameAll #[.slice pa na ca, .slice pb nb cb] w (fun e w' => e = .returned (.bool (decide (la = lb))) ∧ Still w w') := by
  refine ref19_SameAll_calls _ _ _ _ _ _ _ _ ?_
  obtain ⟨e1, _⟩ := ha.len
  obtain ⟨e2, _⟩ := hb.len
  subst e1 e2
  refine bsel_of (fun hne => ?_) (fun he => ?_)
  · have hne : ((la.length : Nat) : Int) ≠ (lb.length : Nat) := by simpa using hne
    refine ⟨?_, Still.refl _⟩
    rw [decide_eq_false]
    rintro rfl
    omega
  have he : la.length = lb.length := by
    have : ((la.length : Nat) : Int) = (lb.length : Nat) := by simpa using he
    omega
  refine ⟨fun i w1 => ∃ k : Nat, i = (k : Int) ∧ k ≤ la.length ∧ la.take k = lb.take k ∧ Still w w1, fun i _ => la.length - i.toNat, ⟨0, rfl, Nat.zero_le _, rfl, Still.refl _⟩, ?_⟩
  rintro _ _ w1 ⟨k, rfl, hk, hp, hst⟩
  refine bsel_of (fun hx => ?_) (fun hx => ?_)
  · have hx : k < la.length := by have := of_decide_eq_true hx; omega
    have hxb : k < lb.length := by omega
    obtain ⟨a, par, car, paw, caw, rfl, t1, t2, hca⟩ := moE_get ha (getD_some hx)
    obtain ⟨b, pbr, cbr, pbw, cbw, rfl, t3, t4, hcb⟩ := moE_get hb (getD_some hxb)
    have ha' := take_snoc hx
    have hb' := take_snoc hxb
    have hiff : la[k] = lb[k] ↔ la.take (k + 1) = lb.take (k + 1) := by
      rw [ha', hb', hp]
      exact ⟨fun h => by rw [h], fun h => (List.cons.inj (List.append_cancel_left h)).1⟩
    have full : ¬ la[k] = lb[k] → ¬ la = lb := by
      rintro h rfl
      exact h rfl
    have hok' := hok _ (List.getElem_mem hx)
    generalize la[k] = x at *
    generalize lb[k] = y at *
    have sD := hst.toDrew
    have A : ∀ wq, Still w wq → MoAt wq (a.add (Int.toNat (k : Int) * 6)) x par car paw caw := fun wq hq => by rw [Int.toNat_natCast]; exact hca.still hq
    have B : ∀ wq, Still w wq → MoAt wq (b.add (Int.toNat (k : Int) * 6)) y pbr cbr pbw cbw := fun wq hq => by rw [Int.toNat_natCast]; exact hcb.still hq
    refine ⟨fun wq => Still w wq, sD, by omega, by omega, x.k, par, _, car, paw, _, caw, x.st, x.o, x.e, fun wq hq => (A wq hq).1, fun wq hq => (A wq hq).2.1, fun wq hq => (A wq hq).2.2.1, fun wq hq => (A wq hq).2.2.2.1, fun wq hq => (A wq hq).2.2.2.2.1, fun wq hq => (A wq hq).2.2.2.2.2, by omega, by omega, y.k, pbr, _, cbr, pbw, _, cbw, y.st, y.o, y.e, fun wq hq => (B wq hq).1, fun wq hq => (B wq hq).2.1, fun wq hq => (B wq hq).2.2.1, fun wq hq => (B wq hq).2.2.2.1, fun wq hq => (B wq hq).2.2.2.2.1, fun wq hq => (B wq hq).2.2.2.2.2, ?_⟩
    refine (same19_spec (t1.still sD) (t2.still sD) (t3.still sD) (t4.still sD) hok').mono ?_
    rintro _ w2 ⟨rfl, s2⟩
    refine .inl ⟨_, rfl, bsel_of (fun hq => ?_) (fun hq => ?_)⟩
    · have hq : ¬ x = y := by simpa using hq
      rw [decide_eq_false (full hq)]
      exact ⟨rfl, sD.trans s2⟩
    · have hq : x = y := by simpa using hq
      rw [wrap_i64 (by omega) (by omega)]
      exact ⟨⟨k + 1, by omega, hx, hiff.1 hq, sD.trans s2⟩, by dsimp only; omega⟩
  · have hx : k = la.length := by have := of_decide_eq_false hx; omega
    subst hx
    rw [List.take_length, he, List.take_length] at hp
    rw [decide_eq_true hp]
    exact ⟨rfl, hst⟩
end Go.Proofs.YtkdlmkbpfdogcaaGreatDoor
namespace Go.Proofs.YtkdlmkbpfdogcaaGreatDoor
open Go.RowKit Vc
variable {w w0 : World}
def endN (j : Js) (t : Txt) : Nat := if j.k + 1 + cnt t.length < j.s.n then 1 else 0
abbrev Js.wrs (j : Js) (t : Txt) : List (Nat × Txt) := Proofs.YtkdlmkbpfdogcaaGreatDoor.wrs j.s j.k j.l.length t
section
variable {j : Js} {t : Txt}
theorem chunks_len (k : Nat) (t : Txt) : (chunks k t).length = cnt t.length := by simp [chunks]
theorem wrs_len : (j.wrs t).length = endN j t + 1 + cnt t.length + 1 := by
  unfold Js.wrs Proofs.YtkdlmkbpfdogcaaGreatDoor.wrs endN
  split <;> simp [chunks_len] <;> omega
theorem wrs_end (h : j.k + 1 + cnt t.length < j.s.n) : (j.wrs t)[0]? = some (j.k + 1 + cnt t.length, []) := by
  unfold Js.wrs Proofs.YtkdlmkbpfdogcaaGreatDoor.wrs
  rw [if_pos h]
  rfl
theorem wrs_from (i : Nat) : (j.wrs t)[endN j t + i]? = ((j.k, hd 48 j.l.length t) :: (chunks (j.k + 1) t ++ [(j.k, hd 49 j.l.length t)]))[i]? := by
  unfold Js.wrs Proofs.YtkdlmkbpfdogcaaGreatDoor.wrs endN
  split
  · rw [List.getElem?_append_right (by simp)]
    simp
  · simp
theorem wrs_head : (j.wrs t)[endN j t]? = some (j.k, hd 48 j.l.length t) := by
  have := wrs_from (j := j) (t := t) 0
  simpa using this
theorem wrs_piece {i : Nat} (h : i < cnt t.length) : (j.wrs t)[endN j t + 1 + i]? = some (j.k + 1 + i, (t.drop (i * 64)).take 64) := by
  have := wrs_from (j := j) (t := t) (1 + i)
  rw [← Nat.add_assoc] at this
  rw [this, Nat.add_comm 1 i, List.getElem?_cons_succ, List.getElem?_append_left (by rw [chunks_len]; exact h)]
  simp [chunks, h]
theorem wrs_last : (j.wrs t)[endN j t + 1 + cnt t.length]? = some (j.k, hd 49 j.l.length t) := by
  have := wrs_from (j := j) (t := t) (1 + cnt t.length)
  rw [← Nat.add_assoc] at this
  rw [this, Nat.add_comm 1, List.getElem?_cons_succ, List.getElem?_append_right (by rw [chunks_len]; omega), chunks_len, Nat.sub_self]
  rfl
end
structure Rd (w0 w : World) (gj g b gb1 gb2 : Nat) (j : Js) (t : Txt) : Prop where
  box1 : Row w gb1 71 ⟨[.pointer (some ⟨gj, 0, none⟩)]⟩
  box2 : Row w gb2 9 ⟨[.string (S t)]⟩
  top : ∃ p c, Row w gj ty_journal_Journal ⟨[.pointer (some ⟨g, 0, none⟩), .slice p j.l.length c, .int .i64 (j.k : Int)]⟩
  dev : ∃ s, Dev w g b s ∧ s.n = j.s.n
  still : Still w0 w
theorem Rd.drew {gj g b gb1 gb2 : Nat} {j : Js} {t : Txt} (h : Rd w0 w gj g b gb1 gb2 j t) : Rd w0 w.drew gj g b gb1 gb2 j t := by
  obtain ⟨s, d, hs⟩ := h.dev
  exact ⟨h.box1, h.box2, h.top, ⟨s, ⟨d.top, d.bytes⟩, hs⟩, h.still.toDrew⟩
theorem Rd.at {gj g b gb1 gb2 : Nat} {j : Js} {t : Txt} (h : Rd w0 w gj g b gb1 gb2 j t) {w' : World} (hm : Still w w') : Rd w0 w' gj g b gb1 gb2 j t := by
  obtain ⟨s, d, hs⟩ := h.dev
  obtain ⟨p, c, ht⟩ := h.top
  exact ⟨h.box1.still hm, h.box2.still hm, ⟨p, c, ht.still hm⟩, ⟨s, ⟨d.top.still hm, d.bytes.still hm⟩, hs⟩, h.still.trans hm⟩
theorem Rd.nx {gj g b gb1 gb2 : Nat} {j : Js} {t : Txt} (h : Rd w0 w gj g b gb1 gb2 j t) : w.cell? ((⟨gj, 0, none⟩ : Addr).add 2) = some (.int .i64 (j.k : Int)) := by
  obtain ⟨p, c, ht⟩ := h.top
  exact ht.lget rfl
theorem Rd.dv {gj g b gb1 gb2 : Nat} {j : Js} {t : Txt} (h : Rd w0 w gj g b gb1 gb2 j t) : w.cell? ⟨gj, 0, none⟩ = some (.pointer (some ⟨g, 0, none⟩)) := by
  obtain ⟨p, c, ht⟩ := h.top
  exact ht.lget rfl
theorem bytes_far {p : Option Addr} {bs : List UInt8} {ga K : Nat} {z : Int} {w' : World} (h : BytesAt (fun a v => w.cell? a = some v) p bs.length bs) (hga : Row w ga 3 ⟨[.int .i64 z]⟩) {r : Loop} (hK : w.heap[K]? = some (.loop r))
    (hm : Mod (fun n => n = ga ∨ n = K) w w') : BytesAt (fun a v => w'.cell? a = some v) p bs.length bs := by
  refine ⟨rfl, fun hp => ?_⟩
  obtain ⟨a, ha, hc⟩ := h.2 hp
  refine ⟨a, ha, fun i u hu => ?_⟩
  have h1 := hc i u hu
  refine (World.cell?_of_block (hm.block _ (World.block_lt_of_cell? _ _ h1) ?_)).trans h1
  rintro (e | e)
  · obtain ⟨fz, hr, _⟩ := hga
    have h1' : w.cell? (a.add i) = some (.int .u8 (u.toNat : Int)) := h1
    unfold World.cell? at h1'
    rw [e, hr] at h1'
    generalize (a.add i) = x at h1'
    obtain ⟨xb, xo, xp⟩ := x
    cases xo with
    | zero => cases xp <;> simp at h1'
    | succ n => cases xp <;> simp at h1'
  · have h1' : w.cell? (a.add i) = some (.int .u8 (u.toNat : Int)) := h1
    unfold World.cell? at h1'
    rw [e, hK] at h1'
    simp at h1'
set_option maxRecDepth 10000 in
set_option maxHeartbeats 1000000 in
theorem writes_spec {k gj g b gb1 gb2 : Nat} {j : Js} {t : Txt} (he : Env w0) (ok : j.Ok) (ht : t.length ≤ 100000) (hend : j.k + cnt t.length < j.s.n) (I : Nat → World → Prop) (F : World → Prop) (hI : I 0 w)
    (hread : ∀ i w1, I i w1 → Rd w0 w1 gj g b gb1 gb2 j t) (hkI : ∀ i w1 w2, I i w1 → Mod (fun n => w.heap.size ≤ n) w1 w2 → I i w2) (hkF : ∀ w1 w2, F w1 → Mod (fun n => w.heap.size ≤ n) w1 w2 → F w2)
    (hstep : ∀ i x w1, (j.wrs t)[i]? = some x → I i w1 → YieldsTo Tryz.prog k [.int .i64 (x.1 : Int), .string (S x.2)] w1 (fun e w2 => Round (I (i + 1)) F e w2 ∧ Mod (fun n => n < w.heap.size) w1 w2)) :
    Calls Tryz.prog fn_journal_Journal_writes_1 #[yieldV k, .pointer (some ⟨gb1, 0, none⟩), .pointer (some ⟨gb2, 0, none⟩)] w (fun e w' => e = .returned (.tuple #[]) ∧ (I (j.wrs t).length w' ∨ F w')) := by
  have hn2 := ok.s.n2
  have hk := ok.k
  have hlk := ok.l
  have hc := cnt_le ht
  have kI : ∀ {i w1 w2}, I i w1 → Still w1 w2 → I i w2 := fun h hm => hkI _ _ _ h (hm.weaken fun _ h => h.elim)
  have kF : ∀ {w1 w2}, F w1 → Still w1 w2 → F w2 := fun h hm => hkF _ _ h (hm.weaken fun _ h => h.elim)
  refine journal_Journal_writes_1_calls _ _ _ _ _ ?_
  refine allocK fun w1 ry s1 z1 => ?_
  have hI1 := kI hI s1
  have R1 := hread _ _ hI1
  obtain ⟨p, c, ht1⟩ := R1.top
  refine ⟨_, R1.box1.lget rfl, _, _, _, ht1.lget rfl, fun w' => I (endN j t) w' ∧ Row w' w.heap.size 128 ⟨[yieldV k]⟩ ∧ w1.heap.size ≤ w'.heap.size, ?_, ?_⟩
  · refine ⟨fun wq => Still w1 wq, (Still.refl w1).toDrew, _, fun wq hq => (R1.at hq).box1.lget rfl, _, fun wq hq => (R1.at hq).nx, _, fun wq hq => (R1.at hq).box2.lget rfl, (sectors_spec t.length (by omega)).mono ?_⟩
    rintro _ w2 ⟨rfl, rfl⟩
    refine .inl ⟨_, rfl, (Still.refl w1).toDrew, ?_⟩
    have hI2 := kI hI1 (Still.refl w1).toDrew
    have R2 := hread _ _ hI2
    refine ⟨fun x w' => (x = true → F w') ∧ (x = false → I (endN j t) w' ∧ Row w' w.heap.size 128 ⟨[yieldV k]⟩ ∧ w1.heap.size ≤ w'.heap.size), ?_, ?_⟩
    · obtain ⟨s, d, hs⟩ := R2.dev
      refine ⟨_, R2.box1.lget rfl, _, R2.dv, (device_Size_spec d).mono ?_⟩
      rintro _ w3 ⟨rfl, rfl⟩
      refine .inl ⟨_, rfl, ?_⟩
      have e1 : IntKind.i64.wrap (IntKind.i64.wrap ((j.k : Int) + 1) + ((cnt t.length : Nat) : Int)) = ((j.k + 1 + cnt t.length : Nat) : Int) := by rw [wrap_i64 (n := (j.k : Int) + 1) (by omega) (by omega), wrap_i64 (by omega) (by omega)]; omega
      rw [e1, hs]
      refine bsel_of (fun hx => ?_) (fun hx => ?_)
      · have hx : j.k + 1 + cnt t.length < j.s.n := by have := of_decide_eq_true hx; omega
        have en : endN j t = 1 := if_pos hx
        refine ⟨yieldV k, rfl, (ry.still (Still.refl w1).toDrew).lget rfl, (hstep 0 _ _ (wrs_end hx) hI2).mono ?_⟩
        rintro _ w4 ⟨⟨o, rfl, hA, hB⟩, m4⟩
        refine ⟨o, rfl, rfl, fun ho => hB (by simpa using ho), fun ho => ⟨by rw [en]; exact hA (by simpa using ho), ?_, m4.size⟩⟩
        exact ry.mod (((Mod.refl (fun n => n < w.heap.size) w1).drew).trans m4 (fun _ h => h) (fun _ _ h => h)) (fun h => Nat.lt_irrefl _ h)
      · have hx : ¬ j.k + 1 + cnt t.length < j.s.n := by have := of_decide_eq_false hx; omega
        have en : endN j t = 0 := if_neg hx
        exact ⟨rfl, fun h => (by cases h), fun _ => ⟨by rw [en]; exact hI2, ry.still (Still.refl w1).toDrew, Nat.le_refl _⟩⟩
    · rintro x _ w5 ⟨h1, h2⟩
      exact bsel_of (fun hx => ⟨rfl, .inr (h1 hx)⟩) (fun hx => ⟨rfl, h2 hx⟩)
  rintro _ w6 ⟨hI6, ry6, z6⟩
  have R6 := hread _ _ hI6
  have s6D := (Still.refl w6).toDrew
  refine ⟨fun wq => Still w6 wq, s6D, yieldV k, rfl, fun wq hq => (ry6.still hq).lget rfl, _, fun wq hq => (R6.at hq).box1.lget rfl, _, fun wq hq => (R6.at hq).nx, _, fun wq hq => (R6.at hq).box2.lget rfl, ?_⟩
  refine (head_spec he (R6.at s6D).still 48 j.l.length t (by omega) ht).mono ?_
  rintro _ w7 ⟨rfl, s7⟩
  have s7 := s6D.trans s7
  refine .inl ⟨_, rfl, s7, (hstep _ _ _ wrs_head (kI hI6 s7)).mono ?_⟩
  rintro _ w8 ⟨⟨o, rfl, hA, hB⟩, m8⟩
  refine ⟨o, rfl, bsel_of (fun ho => ⟨rfl, .inr (hB (by simpa using ho))⟩) (fun ho => ?_)⟩
  have hI8 := hA (by simpa using ho)
  have R8 := hread _ _ hI8
  have ry8 := (ry6.still s7).mod m8 (fun h => Nat.lt_irrefl _ h)
  have z8 : w.heap.size < w8.heap.size := by have := s7.size; have := m8.size; omega
  refine ⟨_, R8.box1.lget rfl, _, R8.nx, boxK rfl (by simp [Value.oneCell']) fun w10 ra s10 z10 => ?_⟩
  have hI10 := kI hI8 s10
  have R10 := hread _ _ hI10
  refine ⟨_, R10.box2.lget rfl, by omega, fun cp w11 ho11 hg11 => ?_⟩
  have s11 : Still w10 w11 := (Mod.refl _ _).grown hg11 fun _ h => by cases h
  have hI11 := kI hI10 s11
  refine Calls.mono (mkChunk_spec (w := w11) (q := w10.heap.size) (C := cp) (t := t) (K := fun w' => Row w' w11.heap.size 43 ⟨[.slice (some ⟨w10.heap.size, 0, none⟩) t.length cp]⟩ ∧ Row w' (w11.heap.size + 1) 3 ⟨[.int .i64 64]⟩ ∧ Still w11 w' ∧ w'.heap.size = w11.heap.size + 2) _ _ rfl rfl fun w' h1 h2 h3 h4 => ⟨h1, h2, h3, h4⟩) ?_
  rintro _ w12 ⟨rfl, rs, rn, s12, z12⟩
  refine .inl ⟨_, rfl, rfl, calleeK_mk (g := fn_slices_Chunk_byte_byte_1) (first := []) (cap := [.pointer (some ⟨w11.heap.size, 0, none⟩), .pointer (some ⟨w11.heap.size + 1, 0, none⟩)]) ?_⟩
  refine bsel_of (fun _ => ?_) (fun h => absurd h (by rw [show callable Tryz.prog fn_slices_Chunk_byte_byte_1 = true by kernel_rfl]; decide))
  intro rec hst hpd hY
  have hI12 := kI hI11 s12
  have z11 := s11.size
  -- the worlds of the pieces
  let Own : World → Prop := fun w' => Row w' w.heap.size 128 ⟨[yieldV k]⟩ ∧ Row w' w11.heap.size 43 ⟨[.slice (some ⟨w10.heap.size, 0, none⟩) t.length cp]⟩ ∧ Row w' (w11.heap.size + 1) 3 ⟨[.int .i64 64]⟩ ∧
    Owns w' w10.heap.size 5 1 (.slice (some ⟨w10.heap.size, 0, none⟩) t.length cp) t.length (bc t) ∧ w'.heap[w12.heap.size]? = some (.deferred (some []))
  have hoc : Owns w11 w10.heap.size 5 1 (.slice (some ⟨w10.heap.size, 0, none⟩) t.length cp) t.length (bc t) := ho11.base fun k hk => by cases hk; exact Nat.le_refl _
  have keepO : ∀ {w1 w2 : World} {T : Nat → Prop}, Own w1 → Mod T w1 w2 → (∀ n, T n → n < w.heap.size ∨ n = w8.heap.size ∨ n = w12.heap.size + 1) → Own w2 := by
    rintro w1 w2 T ⟨o1, o2, o3, o4, o5⟩ hm hT
    have no : ∀ {n}, w.heap.size ≤ n → n ≠ w8.heap.size → n ≠ w12.heap.size + 1 → ¬ T n := fun h1 h2 h3 h => by
      rcases hT _ h with e | e | e
      · omega
      · exact h2 e
      · exact h3 e
    refine ⟨o1.mod hm (no (Nat.le_refl _) (by omega) (by omega)), o2.mod hm (no (by omega) (by omega) (by omega)), o3.mod hm (no (by omega) (by omega) (by omega)), o4.mod hm (fun k hk => ?_), heap_mod o5 hm (no (by omega) (by omega) (by omega))⟩
    obtain rfl : w10.heap.size = k := Option.some.inj hk
    exact no (by omega) (by omega) (by omega)
  let Ic : Nat → World → Prop := fun i w' => I (endN j t + 1 + i) w' ∧ Own w' ∧ Row w' w8.heap.size 3 ⟨[.int .i64 ((j.k + i : Nat) : Int)]⟩ ∧ w'.heap[w12.heap.size + 1]? = some (.loop rec)
  let Fc : World → Prop := fun w' => F w' ∧ Own w' ∧ w'.heap[w12.heap.size + 1]? = some (doneL rec .ret)
  have hstart : Ic 0 ((w12.alloc (.deferred (some []))).alloc (.loop rec)) := by
    have sA : Still w12 ((w12.alloc (.deferred (some []))).alloc (.loop rec)) := ((Mod.refl _ _).alloc _).alloc _
    have s0 := ((s10.trans s11).trans s12).trans sA
    refine ⟨kI hI8 s0, ⟨ry8.still s0, (rs.still sA), rn.still sA, (hoc.still s12).still sA, ?_⟩, ((ra.still s11).still s12).still sA, ?_⟩
    · rw [Below.heap_alloc _ _ _ (by simp)]
      exact World.alloc_heap_new _ _
    · have := World.alloc_heap_new (w12.alloc (.deferred (some []))) (.loop rec)
      rwa [World.size_alloc] at this
  refine (chunk_spec (gs := w11.heap.size) (gn := w11.heap.size + 1) (q := w10.heap.size) (C := cp) (t := t) (B := w10.heap.size) (k := w12.heap.size + 1) Ic Fc ht hstart (fun i w1 h => ⟨h.2.1.2.1, h.2.1.2.2.1, h.2.1.2.2.2.1⟩)
    (fun i w1 h => ⟨kI h.1 (Still.refl w1).toDrew, h.2.1, h.2.2.1, h.2.2.2⟩) (fun i w1 q D hi h hby => ?_)).mono ?_
  · obtain ⟨hi1, ho1, ha1, hr1⟩ := h
    refine hY _ _ _ w1 _ hr1 ⟨rfl, hr1, ?_⟩
    have mp : Mod (fun n => n = w12.heap.size + 1) w1 (w1.putObj (w12.heap.size + 1) (busyL rec)) := mput _ _ _
    have ha2 := ha1.mod mp (by omega)
    have hb2 : (w1.putObj (w12.heap.size + 1) (busyL rec)).heap[w12.heap.size + 1]? = some (busyL rec) := World.putObj_heap_same (heap_lt hr1)
    refine letIn ⟨_, ha2.lget rfl, stK (g := w8.heap.size) (o := 0) ha2 (by simp) (by simp [Value.oneCell']) fun w16 r16 m16 z16 => ?_⟩
    simp only [ovw, List.set_cons_zero] at r16
    have m116 : Mod (fun n => n = w8.heap.size ∨ n = w12.heap.size + 1) w1 w16 := Mod.trans mp m16 (fun _ h => .inr h) (fun _ _ h => .inl h)
    have ho16 := keepO ho1 m116 (fun n h => .inr h)
    have hb16 := heap_mod hb2 m16 (by omega)
    have e1 : IntKind.i64.wrap (((j.k + i : Nat) : Int) + 1) = ((j.k + 1 + i : Nat) : Int) := by rw [wrap_i64 (by omega) (by omega)]; omega
    rw [e1] at r16
    have hy := hstep (endN j t + 1 + i) _ w16 (wrs_piece hi) (hkI _ _ _ hi1 (m116.weaken fun n h => by rcases h with rfl | rfl <;> omega))
    refine ⟨yieldV k, rfl, ho16.1.lget rfl, _, r16.lget rfl, (t.drop (i * 64)).take 64, bytes_far hby ha1 hr1 m116, hy.mono ?_⟩
    rintro _ w17 ⟨⟨o, rfl, hA, hB⟩, m17⟩
    have ho17 := keepO ho16 m17 (fun n h => .inl h)
    have hb17 := heap_mod hb16 m17 (by omega)
    have r17 := r16.mod m17 (by omega)
    have mpo : ∀ x, Mod (fun n => n = w12.heap.size + 1) w17 (w17.putObj (w12.heap.size + 1) x) := fun x => mput _ _ _
    refine ⟨o, rfl, bsel_of (fun hx => ⟨hb17, false, rfl, fun h => (by cases h), fun _ => ?_⟩) (fun hx => ⟨hb17, true, rfl, fun _ => ?_, fun h => (by cases h)⟩)⟩
    · exact ⟨hkF _ _ (hB (by simpa using hx)) ((mpo _).weaken fun n h => by rw [h]; omega), keepO ho17 (mpo _) (fun n h => .inr (.inr h)), World.putObj_heap_same (heap_lt hb17)⟩
    · refine ⟨hkI _ _ _ (hA (by simpa using hx)) ((mpo _).weaken fun n h => by rw [h]; omega), keepO ho17 (mpo _) (fun n h => .inr (.inr h)), ?_, World.putObj_heap_same (heap_lt hb17)⟩
      have r18 := r17.mod (mpo (.loop rec)) (by omega)
      rw [show j.k + (i + 1) = j.k + 1 + i by omega]
      exact r18
  · rintro _ w14 ⟨rfl, h14⟩
    refine ⟨⟨_, rfl⟩, ?_⟩
    have mpo : ∀ x, Mod (fun n => n = w12.heap.size + 1) w14 (w14.putObj (w12.heap.size + 1) x) := fun x => mput _ _ _
    rcases h14 with ⟨hi14, ho14, ha14, hr14⟩ | ⟨hf14, ho14, hr14⟩
    · refine .inl ⟨hr14, ?_⟩
      generalize hw : w14.putObj (w12.heap.size + 1) (.loop { rec with state := .exhausted }) = w15
      have m15 : Mod (fun n => n = w12.heap.size + 1) w14 w15 := hw ▸ mpo _
      have hi15 := hkI _ _ _ hi14 (m15.weaken fun n h => by rw [h]; omega)
      have ho15 := keepO ho14 m15 (fun n h => .inr (.inr h))
      have R15 := hread _ _ hi15
      have s15D := (Still.refl w15).toDrew
      refine ⟨fun wq => Still w15 wq, s15D, yieldV k, rfl, fun wq hq => (ho15.1.still hq).lget rfl, _, fun wq hq => (R15.at hq).box1.lget rfl, _, fun wq hq => (R15.at hq).nx, _, fun wq hq => (R15.at hq).box2.lget rfl, ?_⟩
      refine (head_spec he (R15.at s15D).still 49 j.l.length t (by omega) ht).mono ?_
      rintro _ w18 ⟨rfl, s18⟩
      have s18 := s15D.trans s18
      refine .inl ⟨_, rfl, s18, (hstep _ _ _ wrs_last (kI hi15 s18)).mono ?_⟩
      rintro _ w19 ⟨⟨o, rfl, hA, hB⟩, m19⟩
      have ho18 := keepO ho15 s18 (fun n h => h.elim)
      have ho19 := keepO ho18 m19 (fun n h => .inl h)
      have md : Mod (fun n => w.heap.size ≤ n) w19 (w19.putObj w12.heap.size (.deferred none)) := (Mod.refl _ _).putObj (.inl (by omega)) _
      refine ⟨o, rfl, ho19.2.2.2.2, rfl, ?_⟩
      cases o with
      | true =>
        left
        rw [wrs_len]
        exact hkI _ _ _ (hA rfl) md
      | false => exact .inr (hkF _ _ (hB rfl) md)
    · refine .inr (.inl ⟨hr14, ?_, rfl, .inr ?_⟩)
      · exact heap_mod ho14.2.2.2.2 (mpo _) (by omega)
      · exact hkF _ _ (hkF _ _ hf14 ((mpo _).weaken fun n h => by rw [h]; omega)) ((Mod.refl _ _).putObj (.inl (by omega)) _)
theorem mkWrites_spec {gj : Nat} {t : Txt} : Calls Tryz.prog fn_journal_Journal_writes #[.pointer (some ⟨gj, 0, none⟩), .string (S t)] w (fun e w' => e = .returned (.func (.func fn_journal_Journal_writes_1) #[] #[.pointer (some ⟨w.heap.size, 0, none⟩), .pointer (some ⟨w.heap.size + 1, 0, none⟩)]) ∧
    Row w' w.heap.size 71 ⟨[.pointer (some ⟨gj, 0, none⟩)]⟩ ∧ Row w' (w.heap.size + 1) 9 ⟨[.string (S t)]⟩ ∧ Still w w' ∧ w'.heap.size = w.heap.size + 2) := by
  refine journal_Journal_writes_calls _ _ _ _ ?_
  refine allocK fun w1 r1 s1 z1 => allocK fun w2 r2 s2 z2 => ?_
  rw [z1] at r2 ⊢
  exact ⟨rfl, r1.still s2, r2, s1.trans s2, by omega⟩
theorem drop_at {α : Type} {l : List α} {i : Nat} {x : α} (h : l[i]? = some x) : l.drop i = x :: l.drop (i + 1) := by
  obtain ⟨hi, rfl⟩ := List.getElem?_eq_some_iff.1 h
  exact List.drop_eq_getElem_cons hi
set_option maxRecDepth 10000 in
set_option maxHeartbeats 1000000 in
theorem jappend_spec {gj g b : Nat} {rp : Option Nat} {j : Js} (he : Env w0) (h0 : Still w0 w) (h : Jr w0 w gj g b rp j) (ok : j.Ok) (t : Txt) :
    Calls Tryz.prog fn_journal_Journal_Append #[.pointer (some ⟨gj, 0, none⟩), .string (S t)] w (fun e w' => e = .returned (.int .i64 (j.append t).1) ∧ ∃ rp', Jr w0 w' gj g b rp' (j.append t).2 ∧ Mod (Foot gj g b rp) w w' ∧ NewOr rp rp' w) := by
  have hn2 := ok.s.n2
  have hk := ok.k
  have hlk := ok.l
  refine journal_Journal_Append_calls _ _ _ _ ?_
  refine allocK fun w1 rb s1 z1 => allocK fun w2 rr s2 z2 => ?_
  have rb2 := rb.still s2
  have s02 := s1.trans s2
  have modF : ∀ {w' : World}, Still w w' → Mod (Foot gj g b rp) w w' := fun h => h.weaken fun _ h => h.elim
  have ftW : ∀ {n}, Foot gj g b rp n → n < w.heap.size := fun hf => (h.foot hf).2
  refine bsel_of (fun hx => ?_) (fun hx => ?_)
  · have hx : 100000 < t.length := by have := of_decide_eq_true hx; omega
    refine stK (g := w1.heap.size) (o := 0) rr (by simp) (by simp [Value.oneCell']) fun w3 r3 m3 z3 => ?_
    simp only [ovw, List.set_cons_zero] at r3
    have e : j.append t = (2, j) := by unfold Js.append; rw [if_pos hx]
    rw [e]
    have s03 : Still w w3 := Mod.trans s02 m3 (fun _ h => h) (fun i hi e => by have := s1.size; omega)
    exact ⟨_, r3.lget rfl, rfl, rp, h.still s03, modF s03, NewOr.refl _ _⟩
  have htl : t.length ≤ 100000 := by have := of_decide_eq_false hx; omega
  have hc := cnt_le htl
  have s2D := s02.toDrew
  refine ⟨fun wq => Still w2 wq, (Still.refl w2).toDrew, _, fun wq hq => (rb2.still hq).lget rfl, _, fun wq hq => (h.still (s02.trans hq)).next, _, fun wq hq => (rb2.still hq).lget rfl, _, fun wq hq => (h.still (s02.trans hq)).devPtr, (sectors_spec t.length (by omega)).mono ?_⟩
  rintro _ w4 ⟨rfl, rfl⟩
  refine .inl ⟨_, rfl, (Still.refl w2).toDrew, (device_Size_spec (h.still s2D).dev).mono ?_⟩
  rintro _ w5 ⟨rfl, rfl⟩
  refine .inl ⟨_, rfl, (Still.refl w2).toDrew, ?_⟩
  rw [wrap_i64 (by omega) (by omega)]
  have rr5 := rr.still (Still.refl w2).toDrew
  refine bsel_of (fun hx => ?_) (fun hx => ?_)
  · have hx : j.s.n ≤ j.k + cnt t.length := by have := of_decide_eq_true hx; omega
    refine stK (g := w1.heap.size) (o := 0) rr5 (by simp) (by simp [Value.oneCell']) fun w3 r3 m3 z3 => ?_
    simp only [ovw, List.set_cons_zero] at r3
    have e : j.append t = (12, j) := by unfold Js.append; rw [if_neg (by omega), if_pos hx]
    rw [e]
    have s03 : Still w w3 := Mod.trans s2D m3 (fun _ h => h) (fun i hi e => by have := s1.size; omega)
    exact ⟨_, r3.lget rfl, rfl, rp, h.still s03, modF s03, NewOr.refl _ _⟩
  have hfit : j.k + cnt t.length < j.s.n := by have := of_decide_eq_false hx; omega
  have eapp : j.append t = if (runW j.s (j.wrs t)).1 = 0 then (0, ⟨(runW j.s (j.wrs t)).2, j.l ++ [t], j.k + 1 + cnt t.length⟩) else ((runW j.s (j.wrs t)).1, ⟨(runW j.s (j.wrs t)).2, j.l, j.k⟩) := by
    unfold Js.append
    rw [if_neg (by omega), if_neg (by omega)]
  have rb5 := rb2.still (Still.refl w2).toDrew
  generalize hwd : w2.drew = wd at *
  have zd : wd.heap.size = w2.heap.size := by rw [← hwd]; rfl
  refine ⟨_, rb5.lget rfl, mkWrites_spec.mono ?_⟩
  rintro _ w7 ⟨rfl, c1, c2, s7, z7⟩
  have s07 := s2D.trans s7
  have z1' := z1
  refine .inl ⟨_, rfl, rfl, calleeK_mk (g := fn_journal_Journal_writes_1) (first := []) (cap := [.pointer (some ⟨wd.heap.size, 0, none⟩), .pointer (some ⟨wd.heap.size + 1, 0, none⟩)]) ?_⟩
  refine bsel_of (fun _ => ?_) (fun h => absurd h (by rw [show callable Tryz.prog fn_journal_Journal_writes_1 = true by kernel_rfl]; decide))
  intro rec hst hpd hY
  have sA : Still w7 ((w7.alloc (.deferred (some []))).alloc (.loop rec)) := ((Mod.refl _ _).alloc _).alloc _
  generalize hW : (w7.alloc (.deferred (some []))).alloc (.loop rec) = W at *
  have zW : W.heap.size = w7.heap.size + 2 := by rw [← hW]; simp
  have s0W := s07.trans sA
  let Own : World → Prop := fun w' => Row w' wd.heap.size 71 ⟨[.pointer (some ⟨gj, 0, none⟩)]⟩ ∧ Row w' (wd.heap.size + 1) 9 ⟨[.string (S t)]⟩ ∧ Row w' w.heap.size 71 ⟨[.pointer (some ⟨gj, 0, none⟩)]⟩ ∧
    w'.heap[w7.heap.size]? = some (.deferred (some [])) ∧ Mod (Foot gj g b rp) w w'
  have hne : ∀ {n}, Foot gj g b rp n → n ≠ w1.heap.size ∧ n ≠ w7.heap.size + 1 ∧ n < w.heap.size := fun hf => by have := ftW hf; exact ⟨by omega, by omega, this⟩
  have keepO : ∀ {wa wb : World} {T : Nat → Prop}, Own wa → Mod T wa wb → (∀ n, T n → Foot gj g b rp n ∨ n = w1.heap.size ∨ n = w7.heap.size + 1 ∨ W.heap.size ≤ n) → Own wb := by
    rintro wa wb T ⟨o1, o2, o3, o4, o5⟩ hm hT
    have no : ∀ {n}, w.heap.size ≤ n → n ≠ w1.heap.size → n ≠ w7.heap.size + 1 → n < W.heap.size → ¬ T n := fun h1 h2 h3 h4 h => by
      rcases hT _ h with e | e | e | e
      · have := ftW e; omega
      · exact h2 e
      · exact h3 e
      · omega
    refine ⟨o1.mod hm (no (by omega) (by omega) (by omega) (by omega)), o2.mod hm (no (by omega) (by omega) (by omega) (by omega)), o3.mod hm (no (by omega) (by omega) (by omega) (by omega)), heap_mod o4 hm (no (by omega) (by omega) (by omega) (by omega)), Mod.trans o5 hm (fun _ h => h) (fun i hi hk => ?_)⟩
    rcases hT _ hk with e | e | e | e
    · exact e
    · omega
    · omega
    · omega
  let I : Nat → World → Prop := fun i w' => ∃ s', runW j.s (j.wrs t) = runW s' ((j.wrs t).drop i) ∧ s'.Ok ∧ s'.n = j.s.n ∧ Jr w0 w' gj g b rp ⟨s', j.l, j.k⟩ ∧ Own w' ∧ Row w' w1.heap.size 26 ⟨[.int .i64 0]⟩ ∧ w'.heap[w7.heap.size + 1]? = some (.loop rec)
  let F : World → Prop := fun w' => (runW j.s (j.wrs t)).1 ≠ 0 ∧ Jr w0 w' gj g b rp ⟨(runW j.s (j.wrs t)).2, j.l, j.k⟩ ∧ Own w' ∧ Row w' w1.heap.size 26 ⟨[.int .i64 (runW j.s (j.wrs t)).1]⟩ ∧ w'.heap[w7.heap.size + 1]? = some (doneL rec .ret)
  have hstart : I 0 W := by
    refine ⟨j.s, rfl, ok.s, rfl, h.still s0W, ⟨c1.still sA, c2.still sA, (rb5.still s7).still sA, ?_, modF s0W⟩, (rr5.still s7).still sA, ?_⟩
    · rw [← hW, Below.heap_alloc _ _ _ (by simp)]
      exact World.alloc_heap_new _ _
    · have := World.alloc_heap_new (w7.alloc (.deferred (some []))) (.loop rec)
      rw [World.size_alloc, hW] at this
      exact this
  have newT : ∀ {n}, W.heap.size ≤ n → Foot gj g b rp n ∨ n = w1.heap.size ∨ n = w7.heap.size + 1 ∨ W.heap.size ≤ n := fun h => .inr (.inr (.inr h))
  refine Calls.mono (writes_spec (w := W) (k := w7.heap.size + 1) (gj := gj) (g := g) (b := b) (gb1 := wd.heap.size) (gb2 := wd.heap.size + 1) (j := j) (t := t) he ok htl hfit I F hstart ?_ ?_ ?_ ?_) ?_
  · rintro i wa ⟨s', _, _, hsn, J, ho, _, _⟩
    obtain ⟨p, c, t1, _⟩ := J.top
    exact ⟨ho.1, ho.2.1, ⟨p, c, t1⟩, ⟨s', J.dev, hsn⟩, h.stays h0 ho.2.2.2.2⟩
  · rintro i wa wb ⟨s', e1, e2, e3, J, ho, hr, hl⟩ hm
    exact ⟨s', e1, e2, e3, J.mod hm (fun n hf => by have := ftW hf; omega), keepO ho hm fun n hn => newT hn, hr.mod hm (by omega), heap_mod hl hm (by omega)⟩
  · rintro wa wb ⟨e1, J, ho, hr, hl⟩ hm
    exact ⟨e1, J.mod hm (fun n hf => by have := ftW hf; omega), keepO ho hm fun n hn => newT hn, hr.mod hm (by omega), heap_mod hl hm (by omega)⟩
  · rintro i ⟨kx, tx⟩ wa hx ⟨s', e1, e2, e3, J, ho, hr, hl⟩
    have mp : Mod (fun n => n = w7.heap.size + 1) wa (wa.putObj (w7.heap.size + 1) (busyL rec)) := mput _ _ _
    refine hY _ _ wa _ hl ⟨rfl, hl, letIn ?_⟩
    have hb2 : (wa.putObj (w7.heap.size + 1) (busyL rec)).heap[w7.heap.size + 1]? = some (busyL rec) := World.putObj_heap_same (heap_lt hl)
    generalize hwb : wa.putObj (w7.heap.size + 1) (busyL rec) = wb at *
    have ho2 := keepO ho mp (fun n hn => .inr (.inr (.inl hn)))
    have J2 := J.mod mp (fun n hf e => (hne hf).2.1 e)
    have hr2 := hr.mod mp (by omega)
    refine ⟨_, ho2.2.2.1.lget rfl, _, J2.devPtr, (device_Write_spec J2.dev e2 kx tx).mono ?_⟩
    rintro _ wc ⟨rfl, mc, dc⟩
    have mcF : ∀ n, (n = g ∨ n = b) → Foot gj g b rp n := fun n hn => hn.elim .inl fun h => .inr (.inl h)
    have ho3 := keepO ho2 mc (fun n hn => .inl (mcF n hn))
    obtain ⟨hw1, hw2⟩ := write_ok e2 kx tx
    obtain ⟨p, c, t1, t2, t3⟩ := J2.top
    have J3 : Jr w0 wc gj g b rp ⟨(s'.write kx tx).2, j.l, j.k⟩ := by
      refine ⟨dc, ⟨p, c, t1.mod mc (fun e => e.elim (fun e => t1.ne J2.dev.top (by decide) e) (fun e => t1.ne J2.dev.bytes (by decide) e)), t2.mod mc (fun k hk e => ?_), t3⟩, h.low⟩
      obtain ⟨cur, hrr⟩ := t2.typed hk
      exact e.elim (fun e => hrr.ne J2.dev.top (by decide) e) (fun e => hrr.ne J2.dev.bytes (by decide) e)
    have noF : ∀ {n}, w.heap.size ≤ n → ¬ (n = g ∨ n = b) := fun h1 h2 => by have := ftW (mcF _ h2); omega
    have hb3 := heap_mod hb2 mc (noF (by omega))
    have hr3 := hr2.mod mc (noF (by omega))
    have hd := drop_at hx
    have erun : runW j.s (j.wrs t) = if (s'.write kx tx).1 = 0 then runW (s'.write kx tx).2 ((j.wrs t).drop (i + 1)) else s'.write kx tx := by
      rw [e1, hd]
      rfl
    have mac : Mod (fun n => n < W.heap.size) wa wc := Mod.trans mp mc (fun n hn => by rw [hn]; omega) (fun n _ hn => by have := ftW (mcF n hn); omega)
    refine .inl ⟨_, rfl, bsel_of (fun hz => ?_) (fun hz => ?_)⟩
    · have hz : ¬ (s'.write kx tx).1 = 0 := by simpa using hz
      rw [if_neg hz] at erun
      refine stK (g := w1.heap.size) (o := 0) hr3 (by simp) (by simp [Value.oneCell']) fun we r5 m5 z5 => ?_
      simp only [ovw, List.set_cons_zero] at r5
      have hb5 := heap_mod hb3 m5 (by omega)
      have J5 := J3.mod m5 (fun n hf e => (hne hf).1 e)
      have ho5 := keepO ho3 m5 (fun n hn => .inr (.inl hn))
      have mq := mput we (w7.heap.size + 1) (doneL rec .ret)
      refine ⟨hb5, ⟨false, rfl, fun h => (by cases h), fun _ => ⟨by rw [erun]; exact hz, by rw [erun]; exact J5.mod mq (fun n hf e => (hne hf).2.1 e), keepO ho5 mq (fun n hn => .inr (.inr (.inl hn))), by rw [erun]; exact r5.mod mq (by omega), World.putObj_heap_same (heap_lt hb5)⟩⟩, ?_⟩
      exact Mod.trans (Mod.trans mac m5 (U := fun n => n < W.heap.size) (fun _ h => h) (fun n _ hn => by rw [hn]; omega)) mq (fun _ h => h) (fun n _ hn => by rw [hn]; omega)
    · have hz : (s'.write kx tx).1 = 0 := by simpa using hz
      rw [if_pos hz] at erun
      have mq := mput wc (w7.heap.size + 1) (.loop rec)
      refine ⟨hb3, ⟨true, rfl, fun _ => ⟨(s'.write kx tx).2, erun, hw1, hw2.trans e3, J3.mod mq (fun n hf e => (hne hf).2.1 e), keepO ho3 mq (fun n hn => .inr (.inr (.inl hn))), hr3.mod mq (by omega), World.putObj_heap_same (heap_lt hb3)⟩, fun h => (by cases h)⟩, ?_⟩
      exact Mod.trans mac mq (fun _ h => h) (fun n _ hn => by rw [hn]; omega)
  · rintro _ w9 ⟨rfl, h9⟩
    refine ⟨⟨_, rfl⟩, ?_⟩
    rcases h9 with ⟨s', e1, e2, e3, J, ho, hr, hl⟩ | ⟨hz, J, ho, hr, hl⟩
    · refine .inl ⟨hl, ?_⟩
      have mq := mput w9 (w7.heap.size + 1) (.loop { rec with state := .exhausted })
      generalize hwq : w9.putObj (w7.heap.size + 1) (.loop { rec with state := .exhausted }) = wq at *
      have ho2 := keepO ho mq (fun n hn => .inr (.inr (.inl hn)))
      have J2 := J.mod mq (fun n hf e => (hne hf).2.1 e)
      have hr2 := hr.mod mq (by omega)
      refine ⟨_, ho2.2.2.1.lget rfl, letIn ?_⟩
      refine (jadd_spec (h.stays h0 ho2.2.2.2.2) J2 (by dsimp only; omega) (by dsimp only; omega) t htl).mono ?_
      rintro _ wr ⟨rfl, rp', J3, m3, n3⟩
      have ho3 := keepO ho2 m3 (fun n hn => .inl hn.foot)
      have hr3 := hr2.mod m3 (fun hf => by have := (hne hf.foot).1; omega)
      refine .inl ⟨rfl, stK (g := w1.heap.size) (o := 0) hr3 (by simp) (by simp [Value.oneCell']) fun wt r5 m5 z5 => ?_⟩
      simp only [ovw, List.set_cons_zero] at r5
      have ho5 := keepO ho3 m5 (fun n hn => .inr (.inl hn))
      have hzq : wq.heap.size = w9.heap.size := by rw [← hwq]; simp
      have z9 : w7.heap.size + 1 < w9.heap.size := heap_lt hl
      have ftN : ∀ {n}, Foot gj g b rp' n → n < w.heap.size ∨ w9.heap.size ≤ n := fun hf => by
        rcases hf with rfl | rfl | rfl | hf
        · exact .inl (ftW (.inl rfl))
        · exact .inl (ftW (.inr (.inl rfl)))
        · exact .inl (ftW (.inr (.inr (.inl rfl))))
        · rcases n3 _ hf with e | e
          · exact .inl (ftW (.inr (.inr (.inr e))))
          · exact .inr (by omega)
      have J5 := J3.mod m5 (fun n hf e => by rcases ftN hf with h1 | h1 <;> omega)
      have md := mput wt w7.heap.size (.deferred none)
      refine ⟨ho5.2.2.2.1, _, (r5.mod md (by omega)).lget rfl, ?_⟩
      have erun : runW j.s (j.wrs t) = (0, s') := by
        rw [e1, List.drop_length]
        rfl
      rw [eapp, erun, if_pos rfl]
      refine ⟨rfl, rp', J5.mod md (fun n hf e => by rcases ftN hf with h1 | h1 <;> omega), Mod.trans ho5.2.2.2.2 md (fun _ h => h) (fun i hi e => by omega), fun n hn => ?_⟩
      rcases n3 n hn with e | e
      · exact .inl e
      · exact .inr (by omega)
    · refine .inr (.inl ⟨hl, ?_⟩)
      have mq := mput w9 (w7.heap.size + 1) (.loop { rec with state := .exhausted, pending := some .ret })
      generalize hwq : w9.putObj (w7.heap.size + 1) (.loop { rec with state := .exhausted, pending := some .ret }) = wq at *
      have ho2 := keepO ho mq (fun n hn => .inr (.inr (.inl hn)))
      have J2 := J.mod mq (fun n hf e => (hne hf).2.1 e)
      have hr2 := hr.mod mq (by omega)
      have md := mput wq w7.heap.size (.deferred none)
      refine ⟨ho2.2.2.2.1, _, (hr2.mod md (by omega)).lget rfl, ?_⟩
      rw [eapp, if_neg hz]
      exact ⟨rfl, rp, J2.mod md (fun n hf e => by have := ftW hf; omega), Mod.trans ho2.2.2.2.2 md (fun _ h => h) (fun i hi e => by omega), NewOr.refl _ _⟩
end Go.Proofs.YtkdlmkbpfdogcaaGreatDoor
namespace Go.Proofs.YtkdlmkbpfdogcaaGreatDoor
open Go.RowKit Vc
theorem one_len {x : Txt} (h : x.length ≤ 9) : (one x).length = x.length + 3 := by
  simp only [one, List.length_append, List.length_cons, List.length_nil, dec_small (show x.length < 10 by omega)]
  omega
theorem hd_len {m : UInt8} {n : Nat} {t : Txt} (hn : n ≤ 5000) (ht : t.length ≤ 100000) : (hd m n t).length ≤ 64 := by
  have h1 := dec_len9 (n := n) (by omega)
  have h2 := dec_len9 (n := t.length) (by omega)
  have h3 : (one ((sha t).take 16)).length = 20 := by
    have : ((sha t).take 16).length = 16 := by rw [List.length_take, sha_len]; rfl
    have h16 : (dec 16).length = 2 := by rw [dec_step (by decide), dec_small (by decide)]; rfl
    simp only [one, List.length_append, List.length_cons, List.length_nil, this, h16]
  have e : hd m n t = m :: (one (dec n) ++ (one (dec t.length) ++ (one ((sha t).take 16) ++ []))) := by simp [hd, encode]
  rw [e]
  simp only [List.length_cons, List.length_append, one_len h1, one_len h2, h3, List.length_nil]
  omega
theorem hd_last {m : UInt8} {n : Nat} {t : Txt} : ∃ r, hd m n t = r ++ [44] := by
  refine ⟨m :: (one (dec n) ++ (one (dec t.length) ++ (dec ((sha t).take 16).length ++ [58] ++ (sha t).take 16))), ?_⟩
  simp [hd, encode, one]
theorem trimZ_zeros {x : Txt} (h : ∃ r, x = r ++ [44]) (n : Nat) : trimZ (x ++ List.replicate n 0) = x := by
  obtain ⟨r, rfl⟩ := h
  have := Lib.trimRightB_take (r ++ [44] ++ List.replicate n 0) 0 (r ++ [44]).length (by simp) (fun j b hj hb => by
    rw [List.getElem?_append_right hj] at hb
    exact (List.mem_replicate.1 (List.mem_of_getElem? hb)).2) (fun b _ hb => by
    rw [List.getElem?_append_left (by simp)] at hb
    simp at hb
    rw [← hb]
    decide)
  unfold trimZ
  rw [this, List.take_left]
theorem takeWhile_zero : ∀ (l : Txt) (b : UInt8), b ∈ l.takeWhile (· == (0 : UInt8)) → b = 0
  | [], _, h => by cases h
  | a :: l, b, h => by
    rw [List.takeWhile_cons] at h
    split at h
    · rename_i ha
      rcases List.mem_cons.1 h with rfl | h
      · simpa using ha
      · exact takeWhile_zero l b h
    · cases h
theorem trimZ_form (s : Txt) : ∃ n, s = trimZ s ++ List.replicate n 0 := by
  have h := List.takeWhile_append_dropWhile (p := (· == (0 : UInt8))) (l := s.reverse)
  refine ⟨(s.reverse.takeWhile (· == (0 : UInt8))).length, ?_⟩
  have h2 : s.reverse.takeWhile (· == (0 : UInt8)) = List.replicate (s.reverse.takeWhile (· == (0 : UInt8))).length 0 := List.eq_replicate_iff.2 ⟨rfl, fun b hb => takeWhile_zero _ b hb⟩
  have h3 := congrArg List.reverse h
  rw [List.reverse_append, List.reverse_reverse] at h3
  conv => lhs; rw [← h3]
  unfold trimZ Lib.trimRightB
  conv => lhs; rw [h2]
  rw [List.reverse_replicate]
def pad (x : Txt) : Txt := x ++ List.replicate (64 - x.length) 0
theorem pad_iff {x r : Txt} (hx : ∃ y, x = y ++ [44]) (hl : x.length ≤ 64) (hr : r.length = 64) : pad x = r ↔ x = trimZ r := by
  constructor
  · rintro rfl
    exact (trimZ_zeros hx _).symm
  · intro h
    obtain ⟨n, hn⟩ := trimZ_form r
    rw [← h] at hn
    have hlen := congrArg List.length hn
    rw [List.length_append, List.length_replicate, hr] at hlen
    unfold pad
    rw [hn]
    congr 2
    omega
theorem rowF_pad (x : Txt) (h : x.length ≤ 64) : rowF (fun i => x.getD i 0) 0 64 = pad x := by
  apply List.ext_getElem?
  intro i
  unfold pad
  by_cases hi : i < 64
  · rw [rowF_get hi, Nat.zero_add]
    by_cases hx : i < x.length
    · rw [List.getElem?_append_left hx, List.getElem?_eq_getElem hx]
      simp [List.getD_eq_getElem?_getD, hx]
    · rw [List.getElem?_append_right (by omega)]
      simp [List.getD_eq_getElem?_getD, List.getElem?_eq_none (Nat.le_of_not_lt hx), show i - x.length < 64 - x.length by omega]
  · rw [List.getElem?_eq_none (by simp; omega), List.getElem?_eq_none (by simp; omega)]
theorem append_run {j : Js} {t : Txt} (ht : t.length ≤ 100000) (hf : j.k + cnt t.length < j.s.n) {x : Int} {s' : St} (hr : runW j.s (wrs j.s j.k j.l.length t) = (x, s')) :
    j.append t = if x = 0 then (0, ⟨s', j.l ++ [t], j.k + 1 + cnt t.length⟩) else (x, ⟨s', j.l, j.k⟩) := by
  unfold Js.append
  rw [if_neg (by omega), if_neg (by omega)]
  simp only [hr]
end Go.Proofs.YtkdlmkbpfdogcaaGreatDoor
namespace Go.Proofs.YtkdlmkbpfdogcaaGreatDoor
open Go.RowKit Vc
variable {w w0 : World}
theorem opened_new (n : Nat) (h : 0 < n) : Js.opened (St.new n) = ⟨St.new n, [], 0⟩ := by
  have hs : sec (St.new n) 0 = List.replicate 64 0 := by
    unfold sec
    rw [if_pos (show 0 < (St.new n).n from h)]
    exact List.eq_replicate_iff.2 ⟨rfl, fun b hb => by
      simp only [rowF, List.mem_map] at hb
      obtain ⟨_, _, rfl⟩ := hb
      rfl⟩
  have hr : readR (St.new n) 0 0 = none := by
    unfold readR sizeR
    rw [hs]
    rfl
  have ho : openR (St.new n) = ([], 0) := by
    show openF (n + 1) (St.new n) [] 0 = _
    simp only [openF, List.length_nil, hr]
  unfold Js.opened
  rw [ho]
theorem write_endless {s : St} (he : s.e = true) {k : Nat} (hk : k < s.n) {x : Txt} (hx : x.length ≤ 64) : s.write (k : Int) x = (0, s.put k fun i => x.getD i 0) := by
  unfold St.write
  rw [if_pos ⟨by omega, by omega, hx⟩, if_pos he, Int.toNat_natCast]
theorem new_ok {n : Nat} (h1 : 1 ≤ n) (h2 : n ≤ 4096) : (St.new n).Ok := ⟨h1, h2, Int.le_refl _, (by decide : (0 : Int) < 9223372036854775808), Int.le_refl _, (by decide : (0 : Int) < 18446744073709551616)⟩
theorem count_spec (n : Nat) (hn : n ≤ 1000000) : Calls Tryz.prog fn_ref04_count #[.int .i64 (n : Int)] w (fun e w' => e = .returned (.int .i64 (cnt n : Nat)) ∧ w' = w) := by
  refine ref04_count_calls _ _ _ ?_
  exact ⟨by decide, by rw [cnt_wrap n hn], rfl⟩
theorem rhead_spec (m : UInt8) (n : Nat) (t : Txt) (hn : n ≤ 5000) (ht : t.length ≤ 100000) :
    Calls Tryz.prog fn_ref04_head #[.string (S [m]), .int .i64 (n : Int), .string (S t)] w (fun e w' => e = .returned (.string (S (hd m n t))) ∧ Still w w') := by
  refine ref04_head_calls _ _ _ _ _ ?_
  refine (digits_spec n (by omega)).mono ?_
  rintro _ w1 ⟨rfl, s1⟩
  refine .inl ⟨_, rfl, (digits_spec t.length (by omega)).mono ?_⟩
  rintro _ w2 ⟨rfl, s2⟩
  refine .inl ⟨_, rfl, (ref_sum_spec t (by omega)).mono ?_⟩
  rintro _ w3 ⟨rfl, s3⟩
  have s03 := (s1.trans s2).trans s3
  refine .inl ⟨_, rfl, by decide, by rw [sha_len]; decide, allocK fun w4 r4 s4 z4 => ?_⟩
  refine (refencode_spec (ls := [dec n, dec t.length, (sha t).take 16]) (StrsAt.row (l := [dec n, dec t.length, (sha t).take 16]) r4) (hd_total n t hn ht)).mono ?_
  rintro _ w5 ⟨rfl, s5⟩
  have hl := encode_len (few_nine (hd_total n t hn ht))
  have hl2 := hd_total n t hn ht
  exact .inl ⟨_, rfl, by simp only [List.length_cons, List.length_nil]; omega, rfl, (s03.trans s4).trans s5⟩
theorem rpadded_spec (x : Txt) (hl : x.length ≤ 64) : Calls Tryz.prog fn_ref04_padded #[.string (S x)] w (fun e w' => e = .returned (.string (S (pad x))) ∧ Still w w') := by
  refine ref04_padded_calls _ _ _ ?_
  have e1 : IntKind.i64.wrap (64 - (x.length : Int)) = ((64 - x.length : Nat) : Int) := by rw [wrap_i64 (by omega) (by omega)]; omega
  unfold vc_ref04_padded
  rw [e1, Int.toNat_natCast, Nat.mul_one]
  refine ⟨by omega, by omega, by omega, by omega, ?_⟩
  rw [madeCells_zero _ (by intro v hv; simpa using hv) (by simp)]
  refine allocK fun w1 r1 s1 z1 => ⟨List.replicate (64 - x.length) 0, ⟨by simp, fun _ => ⟨_, rfl, fun i u hu => ?_⟩⟩, by simp; omega, rfl, s1⟩
  have hi : i < 64 - x.length := by have := (List.getElem?_eq_some_iff.1 hu).1; simpa using this
  rw [add_row, Nat.zero_add]
  refine r1.lget ?_
  rw [cellsF_get hi]
  obtain rfl := (List.mem_replicate.1 (List.mem_of_getElem? hu)).2
  rfl
structure Rj (w0 w : World) (hj h q : Nat) (rq : Option Nat) (j : Js) : Prop where
  dev : Ref w h q j.s
  top : ∃ p c, Row w hj ty_scullionref04_Journal ⟨[.pointer (some ⟨h, 0, none⟩), .slice p j.l.length c, .int .i64 (j.k : Int)]⟩ ∧ Owns w w0.heap.size ty_string 1 (.slice p j.l.length c) j.l.length (strs j.l) ∧ (Value.slice p j.l.length c).ownBlock = rq
  ne : rq ≠ some q
  low : w0.heap.size ≤ hj ∧ w0.heap.size ≤ h ∧ w0.heap.size ≤ q
section
variable {hj h q : Nat} {rq : Option Nat} {j : Js}
theorem Rj.mod {w' : World} {T : Nat → Prop} (d : Rj w0 w hj h q rq j) (hm : Mod T w w') (hT : ∀ k, Foot hj h q rq k → ¬ T k) : Rj w0 w' hj h q rq j := by
  obtain ⟨p, c, h1, h2, h3⟩ := d.top
  exact ⟨d.dev.mod hm (hT _ (.inl rfl)) (hT _ (.inr (.inl rfl))), ⟨p, c, h1.mod hm (hT _ (.inr (.inr (.inl rfl)))), h2.mod hm (fun k hk => hT k (.inr (.inr (.inr (h3.symm.trans hk))))), h3⟩, d.ne, d.low⟩
theorem Rj.still {w' : World} (d : Rj w0 w hj h q rq j) (hm : Still w w') : Rj w0 w' hj h q rq j := d.mod hm (fun _ _ h => h)
theorem Rj.drew (d : Rj w0 w hj h q rq j) : Rj w0 w.drew hj h q rq j := d.still (Still.refl w).toDrew
theorem Ref.lt {s : St} (d : Ref w h q s) : h < w.heap.size ∧ q < w.heap.size := by
  obtain ⟨⟨c, h1⟩, cur, h2, _⟩ := d
  exact ⟨h1.lt, h2.lt⟩
theorem Rj.foot (d : Rj w0 w hj h q rq j) {k : Nat} (hk : Foot hj h q rq k) : w0.heap.size ≤ k ∧ k < w.heap.size := by
  obtain ⟨p, c, h1, h2, h3⟩ := d.top
  rcases hk with rfl | rfl | rfl | hk
  · exact ⟨d.low.2.1, d.dev.lt.1⟩
  · exact ⟨d.low.2.2, d.dev.lt.2⟩
  · exact ⟨d.low.1, h1.lt⟩
  · exact h2.lt k (h3.trans hk)
theorem Rj.stays (d : Rj w0 w hj h q rq j) {w' : World} (h0 : Still w0 w) (hm : Mod (Foot hj h q rq) w w') : Still w0 w' := Mod.trans h0 hm (fun _ h => h) (fun i hi hk => by have := (d.foot hk).1; omega)
end
theorem trimZ_take {r : Txt} {k : Nat} (hk : k ≤ r.length) (h1 : ∀ (i : Nat) b, k ≤ i → r[i]? = some b → b = 0) (h2 : ∀ b, 0 < k → r[k - 1]? = some b → b ≠ 0) : trimZ r = r.take k := Lib.trimRightB_take r 0 k hk h1 h2
theorem rread_spec {h q : Nat} {s : St} (d : Ref w h q s) (ok : s.Ok) (k n : Nat) (hk : k ≤ s.n) (hn : n ≤ k) :
    Calls Tryz.prog fn_ref04_read #[.pointer (some ⟨h, 0, none⟩), .int .i64 (k : Int), .int .i64 (n : Int)] w (fun e w' => (∃ (t : Txt) (o : Bool), e = .returned (.tuple #[.string (S t), .bool o]) ∧ ReadAs (readR s k n) t o) ∧ Still w w') := by
  have hn2 := ok.n2
  refine ref04_read_calls _ _ _ _ _ ?_
  have bad : ∀ {w' : World}, readR s k n = none → Still w w' → (∃ (t : Txt) (o : Bool), (Ending.returned (.tuple #[.string (S []), .bool false])) = .returned (.tuple #[.string (S t), .bool o]) ∧ ReadAs (readR s k n) t o) ∧ Still w w' := by
    intro w' e hs
    exact ⟨⟨_, _, rfl, by unfold ReadAs; rw [e]⟩, hs⟩
  have none_of : sizeR (sec s k) = none → readR s k n = none := fun e => by unfold readR; rw [e]
  refine (ref_Read_spec d k).mono ?_
  rintro _ w1 ⟨rfl, rfl⟩
  by_cases hkn : k < s.n
  case neg =>
    rw [if_neg (by omega)]
    refine .inl ⟨_, _, rfl, bsel_of (fun _ => bad (none_of ?_) (Still.refl _)) (fun hx => by simp at hx)⟩
    unfold sec
    rw [if_neg hkn]
    rfl
  rw [if_pos ⟨by omega, by omega⟩, Int.toNat_natCast]
  have hsec : sec s k = rowF s.F (k * 64) 64 := if_pos hkn
  rw [← hsec]
  have hl64 : (sec s k).length = 64 := by rw [hsec, rowF_length]
  generalize hr : sec s k = r at *
  refine .inl ⟨_, _, rfl, bsel_of (fun hx => by simp at hx) (fun _ => ?_)⟩
  cases r with
  | nil => cases hl64
  | cons m0 r0 =>
  refine ⟨by decide, m0, rfl, bsel_of (fun hx => ?_) (fun hx => ?_)⟩
  · refine bad (none_of ?_) (Still.refl _)
    have hm : ¬ m0 = 49 := fun e => by rw [e] at hx; simp at hx
    unfold sizeR
    obtain ⟨z, hz⟩ := trimZ_form (m0 :: r0)
    cases ht : trimZ (m0 :: r0) with
    | nil => rfl
    | cons a x =>
      rw [ht] at hz
      injection hz with hz _
      dsimp only
      rw [if_neg (by rw [← hz]; exact hm)]
  have hm : m0 = 49 := by
    have : (m0.toNat : Int) = 49 := by simpa using hx
    exact byte_eq.1 this
  subst hm
  generalize hr' : (49 :: r0 : Txt) = r at *
  have hr0 : r[0]? = some 49 := by rw [← hr']; rfl
  refine ⟨fun x w2 => ∃ i : Nat, x = (i : Int) ∧ i ≤ r.length ∧ (∀ (a : Nat) b, i ≤ a → r[a]? = some b → b = 0) ∧ w2 = w1, fun x _ => x.toNat, ⟨r.length, rfl, Nat.le_refl _, fun a b ha hb => ?_, rfl⟩, ?_⟩
  · rw [List.getElem?_eq_none ha] at hb
    cases hb
  rintro _ _ w2 ⟨i, rfl, hi, hz, rfl⟩
  have hi0 : 0 < i := by
    rcases Nat.eq_zero_or_pos i with e | e
    · rw [e] at hz
      have := hz 0 49 (Nat.le_refl _) hr0
      cases this
    · exact e
  have ew : IntKind.i64.wrap ((i : Int) - 1) = ((i - 1 : Nat) : Int) := by rw [wrap_i64 (by omega) (by omega)]; omega
  obtain ⟨bl, hbl⟩ : ∃ bl, r[i - 1]? = some bl := ⟨_, getD_some (by omega)⟩
  refine ⟨fun x w3 => x = decide (bl = 0) ∧ w3 = w2, bsel_of (fun _ => ?_) (fun hx => by have := of_decide_eq_false hx; omega), ?_⟩
  · rw [ew]
    refine ⟨by omega, bl, by rw [Int.toNat_natCast]; exact hbl, ?_, rfl⟩
    congr 1
    rw [show (0 : Int) = ((0 : UInt8).toNat : Int) from rfl, eq_iff_iff]
    exact byte_eq
  rintro _ _ w3 ⟨rfl, rfl⟩
  refine bsel_of (fun hx => ?_) (fun hx => ?_)
  · have hb0 := of_decide_eq_true hx
    refine ⟨⟨i - 1, ew, by omega, fun a b ha hb => ?_, rfl⟩, ?_⟩
    · by_cases e : a = i - 1
      · rw [e, hbl] at hb
        rw [← Option.some.inj hb, hb0]
      · exact hz a b (by omega) hb
    · dsimp only
      rw [ew]
      omega
  have hb0 : bl ≠ 0 := of_decide_eq_false hx
  have htr : trimZ r = r.take i := trimZ_take hi hz (fun b _ hb => by rw [hbl] at hb; rw [← Option.some.inj hb]; exact hb0)
  have htail : (r.drop 1).take (i - 1) = (r.take i).drop 1 := by rw [List.drop_take]
  have e1 : Int.toNat (1 : Int) = 1 := rfl
  refine ⟨by decide, by omega, by omega, ?_⟩
  rw [Int.toNat_natCast, e1]
  have hsz : sizeR r = sizeD (decode ((r.drop 1).take (i - 1))) := by
    unfold sizeR
    rw [htr, htail]
    have : r.take i = 49 :: (r.take i).drop 1 := by
      rw [← hr']
      cases i with
      | zero => omega
      | succ i => rfl
    rw [this]
    simp
  refine (refdecode_spec ((r.drop 1).take (i - 1)) (by rw [List.length_take, List.length_drop]; omega)).mono ?_
  rintro _ w4 ⟨⟨p, nl, C, ek, rfl, l, hst, hek⟩, s4⟩
  have hdl : ((r.drop 1).take (i - 1)).length ≤ 64 := by rw [List.length_take, List.length_drop]; omega
  generalize (r.drop 1).take (i - 1) = x at *
  refine .inl ⟨_, _, _, _, rfl, bsel_of (fun hx => ?_) (fun hx => ?_)⟩
  · refine bad (none_of ?_) s4
    rcases hek with ⟨rfl, _⟩ | ⟨_, _, hdc⟩
    · simp at hx
    · rw [hsz, hdc]; rfl
  have hk0 : ek = 0 := by simpa using hx
  obtain ⟨_, hdc⟩ : ek = 0 ∧ decode x = some l := by
    rcases hek with h | ⟨h, _⟩
    · exact h
    · omega
  rw [hdc] at hsz
  refine bsel_of (fun hx => ?_) (fun hx => ?_)
  · refine bad (none_of ?_) s4
    have hne : ¬ (nl : Int) = 3 := by simpa using hx
    rw [hsz]
    unfold sizeD
    split
    · rename_i a b c e
      have := hst.1
      rw [Option.some.inj e] at this
      simp at this
      omega
    · rfl
  have hn3 : nl = 3 := by
    have : (nl : Int) = 3 := by simpa using hx
    omega
  subst hn3
  match l, hst.1 with
  | [_, b, _], _ =>
    obtain ⟨a, rfl, hc⟩ := hst.get (k := 1) (by decide)
    have hbl : b.length ≤ 1000000 := by
      have h1 := decode_total hdc
      simp only [total, List.map_cons, List.map_nil, List.sum_cons, List.sum_nil] at h1
      omega
    have hsz : sizeR r = sizeN (numR b) := hsz
    refine ⟨by decide, by decide, _, hc, (refnumber_spec b hbl).mono ?_⟩
    rintro _ w5 ⟨rfl, rfl⟩
    refine .inl ⟨_, rfl, ?_⟩
    cases hb : numR b with
    | none =>
      refine bsel_of (fun _ => bad (none_of ?_) s4) (fun hx => by simp at hx)
      rw [hsz, hb]
      rfl
    | some v =>
      rw [hb] at hsz
      refine bsel_of (fun hx => by have := of_decide_eq_true hx; dsimp only at this; omega) (fun _ => bsel_of (fun hx => ?_) (fun hx => ?_))
      · refine bad (none_of ?_) s4
        rw [hsz]
        exact if_neg (by have := of_decide_eq_true hx; dsimp only at this; omega)
      have hv : v ≤ 100000 := by have := of_decide_eq_false hx; dsimp only at this; omega
      have hsz : sizeR r = some v := by rw [hsz]; exact if_pos hv
      have hc := cnt_le hv
      dsimp only
      refine (count_spec v (by omega)).mono ?_
      rintro _ w6 ⟨rfl, rfl⟩
      have d6 := d.mod s4 (fun h => h) (fun h => h)
      refine .inl ⟨_, rfl, (ref_Size_spec d6).mono ?_⟩
      rintro _ w7 ⟨rfl, rfl⟩
      have ew2 : IntKind.i64.wrap (IntKind.i64.wrap ((k : Int) + 1) + ((cnt v : Nat) : Int)) = ((k + 1 + cnt v : Nat) : Int) := by rw [wrap_i64 (n := (k : Int) + 1) (by omega) (by omega), wrap_i64 (by omega) (by omega)]; omega
      rw [ew2]
      refine .inl ⟨_, rfl, bsel_of (fun hx => ?_) (fun hx => ?_)⟩
      · refine bad ?_ s4
        have := of_decide_eq_true hx
        unfold readR
        rw [hr, hsz]
        simp only
        rw [if_pos (by omega)]
      have hx : k + cnt v < s.n := by have := of_decide_eq_false hx; omega
      have hrd : readR s k n = if hd 49 n (rowF s.F ((k + 1) * 64) v) = trimZ r then some (rowF s.F ((k + 1) * 64) v) else none := by
        unfold readR
        rw [hr, hsz]
        simp only
        rw [if_neg (by omega)]
      refine ⟨fun t x w8 => ∃ i : Nat, x = (i : Int) ∧ i ≤ cnt v ∧ t = rowF s.F ((k + 1) * 64) (i * 64) ∧ w8 = w7, fun _ x _ => cnt v - x.toNat, ⟨0, rfl, Nat.zero_le _, rfl, rfl⟩, ?_⟩
      rintro _ _ _ w8 ⟨i, rfl, hi, rfl, rfl⟩
      refine (count_spec v (by omega)).mono ?_
      rintro _ w9 ⟨rfl, rfl⟩
      refine .inl ⟨_, rfl, bsel_of (fun hx => ?_) (fun hx => ?_)⟩
      · have hx : i < cnt v := by have := of_decide_eq_true hx; omega
        have ew3 : IntKind.i64.wrap (IntKind.i64.wrap ((k : Int) + 1) + (i : Int)) = ((k + 1 + i : Nat) : Int) := by rw [wrap_i64 (n := (k : Int) + 1) (by omega) (by omega), wrap_i64 (by omega) (by omega)]; omega
        rw [ew3]
        refine (ref_Read_spec d6 _).mono ?_
        rintro _ w10 ⟨rfl, rfl⟩
        rw [if_pos ⟨by omega, by omega⟩, Int.toNat_natCast]
        refine .inl ⟨_, _, rfl, by simp; omega, ⟨i + 1, by rw [wrap_i64 (by omega) (by omega)]; omega, hx, ?_, rfl⟩, ?_⟩
        · rw [show (k + 1 + i) * 64 = (k + 1) * 64 + i * 64 by omega, rowF_append, ← Nat.succ_mul]
        · dsimp only
          rw [wrap_i64 (by omega) (by omega)]
          omega
      · have hx : i = cnt v := by have := of_decide_eq_false hx; omega
        subst hx
        have hcn : v ≤ cnt v * 64 := by unfold cnt; omega
        refine ⟨by omega, by simp; omega, ?_⟩
        rw [Int.toNat_natCast, rowF_take _ _ hcn]
        refine (rhead_spec 49 n (rowF s.F ((k + 1) * 64) v) (by omega) (by simpa using hv)).mono ?_
        rintro _ w11 ⟨rfl, s11⟩
        refine .inl ⟨_, rfl, (rpadded_spec _ (hd_len (by omega) (by simpa using hv))).mono ?_⟩
        rintro _ w12 ⟨rfl, s12⟩
        refine .inl ⟨_, rfl, ⟨_, _, rfl, ?_⟩, (s4.trans s11).trans s12⟩
        have hpi := pad_iff (r := r) (hd_last (m := 49) (n := n) (t := rowF s.F ((k + 1) * 64) v)) (hd_len (by omega) (by simpa using hv)) hl64
        rw [hrd]
        unfold ReadAs
        by_cases hh : hd 49 n (rowF s.F ((k + 1) * 64) v) = trimZ r
        · rw [if_pos hh]
          exact ⟨rfl, decide_eq_true (hpi.2 hh)⟩
        · rw [if_neg hh]
          exact decide_eq_false (fun e => hh (hpi.1 e))
def rnextOf (gj : Nat) (w : World) : Nat := match w.cell? ⟨gj, 2, none⟩ with
  | some (.int _ n) => n.toNat
  | _ => 0
theorem ropen_spec {h q : Nat} {s : St} (h0 : Still w0 w) (d : Ref w h q s) (ok : s.Ok) (lg : w0.heap.size ≤ h) (lb : w0.heap.size ≤ q) :
    Calls Tryz.prog fn_ref04_Open #[.pointer (some ⟨h, 0, none⟩)] w (fun e w' => ∃ hj rq, e = .returned (.pointer (some ⟨hj, 0, none⟩)) ∧ Still w w' ∧ w.heap.size ≤ hj ∧ NewOr none rq w ∧ Rj w0 w' hj h q rq (Js.opened s)) := by
  have hn2 := ok.n2
  refine ref04_Open_calls _ _ _ ?_
  refine allocK fun w1 r1 s1 z1 => ?_
  refine ⟨fun w2 => ∃ l k rq f, Rj w0 w2 w.heap.size h q rq ⟨s, l, k⟩ ∧ Still w w2 ∧ NewOr none rq w ∧ openR s = openF f s l k ∧ s.n - k < f ∧ l.length ≤ k ∧ k ≤ s.n, fun w2 => s.n - rnextOf w.heap.size w2, ?_, ?_⟩
  · refine ⟨[], 0, none, s.n + 1, ⟨d.mod s1 (fun h => h) (fun h => h), ⟨none, 0, r1, Owns.nil _ _ _ _, rfl⟩, by simp, h0.size, lg, lb⟩, s1, NewOr.refl _ _, rfl, by omega, Nat.le_refl _, Nat.zero_le _⟩
  rintro _ w2 ⟨l, k, rq, f, J, s2, hn, hop, hf, hlk, hks⟩
  obtain ⟨p, c, t1, t2, t3⟩ := J.top
  have hnx : ∀ {wx : World}, Still w2 wx → wx.cell? ⟨w.heap.size, 2, none⟩ = some (.int .i64 (k : Int)) := fun hs => (t1.still hs).lget rfl
  have e2 : rnextOf w.heap.size w2 = k := by
    unfold rnextOf
    rw [hnx (Still.refl _)]
    rfl
  have s2D := (Still.refl w2).toDrew
  refine ⟨fun wq => Still w2 wq, s2D, _, fun wq hq => (t1.still hq).lget rfl, _, _, _, fun wq hq => (t1.still hq).lget rfl, (rread_spec (J.dev.mod s2D (fun h => h) (fun h => h)) ok k l.length hks hlk).mono ?_⟩
  rintro _ w3 ⟨⟨t, o, rfl, hr⟩, s3⟩
  have s3 := s2D.trans s3
  have J3 := J.still s3
  have s23 := s2.trans s3
  refine .inl ⟨_, _, rfl, ?_⟩
  cases f with
  | zero => omega
  | succ f =>
  simp only [openF] at hop
  unfold ReadAs at hr
  cases hrd : readR s k l.length with
  | none =>
    rw [hrd] at hr hop
    dsimp only at hr hop
    subst hr
    refine ⟨_, rq, rfl, s23, Nat.le_refl _, hn, ?_⟩
    unfold Js.opened
    rw [hop]
    exact J3
  | some t' =>
    rw [hrd] at hr hop
    obtain ⟨rfl, rfl⟩ := hr
    dsimp only at hop
    obtain ⟨hlt, htl⟩ := readR_some hrd
    have hc := cnt_le htl
    have t13 := t1.still s3
    have t23 := t2.still s3
    refine ⟨_, _, _, t13.lget rfl, push1b t23 (h0.trans s23).size (cs := [.string (S t)]) rfl (by simp [Value.oneCell']) (by dsimp only; omega) (by dsimp only; omega) fun p' c' w5 o5 m5 n5 => ?_⟩
    have hgt : ∀ n, (Value.slice p l.length c).ownBlock = some n → w.heap.size ≠ n := fun n hk => by
      obtain ⟨cur, hr⟩ := t23.typed hk
      exact t13.ne hr (by decide)
    have t15 := t13.mod m5 (fun e => hgt _ e rfl)
    have hgt2 : (Value.slice p' (l.length + 1) c').ownBlock ≠ some w.heap.size := fun e => by
      obtain ⟨cur, hr⟩ := o5.typed e
      exact t15.ne hr (by decide) rfl
    refine stK (g := w.heap.size) (o := 1) t15 (by simp) (by simp [Value.oneCell']) fun w6 r6 m6 z6 => ?_
    simp only [ovw, List.set_cons_succ, List.set_cons_zero] at r6
    have r6D : Row w6.drew w.heap.size ty_scullionref04_Journal _ := r6
    refine ⟨fun wq => Still w6 wq, (Still.refl w6).toDrew, _, fun wq hq => (r6.still hq).lget rfl, (count_spec t.length (by omega)).mono ?_⟩
    rintro _ w7 ⟨rfl, rfl⟩
    refine .inl ⟨_, rfl, (Still.refl w6).toDrew, stK (g := w.heap.size) (o := 2) r6D (by simp) (by simp [Value.oneCell']) fun w8 r8 m8 z8 => ?_⟩
    simp only [ovw, List.set_cons_succ, List.set_cons_zero] at r8
    have ew : IntKind.i64.wrap (IntKind.i64.wrap ((k : Int) + 1) + ((cnt t.length : Nat) : Int)) = ((k + 1 + cnt t.length : Nat) : Int) := by rw [wrap_i64 (n := (k : Int) + 1) (by omega) (by omega), wrap_i64 (by omega) (by omega)]; omega
    rw [ew] at r8
    have m58 : Mod (fun n => n = w.heap.size) w5 w8 := Mod.trans m6.drew m8 (fun _ h => h) (fun _ _ h => h)
    have m38 : Mod (fun n => rq = some n ∨ n = w.heap.size) w3 w8 := Mod.trans m5 m58 (fun n hk => .inl (t3.symm.trans hk)) (fun _ _ h => .inr h)
    have hlt := d.lt
    have s48 : Still w w8 := Mod.trans s23 m38 (fun _ h => h) (fun i hi hk => by
      rcases hk with hk | hk
      · rcases hn _ hk with e | e
        · cases e
        · omega
      · omega)
    refine ⟨⟨l ++ [t], k + 1 + cnt t.length, (Value.slice p' (l.length + 1) c').ownBlock, f, ⟨d.mod s48 (fun h => h) (fun h => h), ⟨p', c', ?_, ?_, by rw [List.length_append]; rfl⟩, ?_, J.low⟩, s48, ?_, hop, by omega, by simp; omega, by omega⟩, ?_⟩
    · rw [List.length_append]
      exact r8
    · have ho := o5.mod m58 (fun n hk => by rintro rfl; exact hgt2 hk)
      rw [List.length_append, strs_append]
      exact ho
    · intro e
      rcases n5 _ e with e2 | e2
      · exact J.ne (t3.symm.trans e2)
      · have := s23.size; omega
    · intro n hnn
      rcases n5 n hnn with e | e
      · exact hn n (t3.symm.trans e)
      · exact .inr (Nat.le_trans s23.size e)
    · dsimp only
      rw [e2]
      unfold rnextOf
      rw [show w8.cell? ⟨w.heap.size, 2, none⟩ = some (.int .i64 ((k + 1 + cnt t.length : Nat) : Int)) from r8.lget rfl]
      dsimp only
      rw [Int.toNat_natCast]
      omega
theorem rrecords_spec {hj h q : Nat} {rq : Option Nat} {j : Js} (d : Rj w0 w hj h q rq j) (hl : j.l.length ≤ 5000) :
    Calls Tryz.prog fn_ref04_Journal_Records #[.pointer (some ⟨hj, 0, none⟩)] w (fun e w' => ∃ p D, e = .returned (.slice p j.l.length D) ∧ Owns w' w.heap.size ty_string 1 (.slice p j.l.length D) j.l.length (strs j.l) ∧ Still w w') := by
  obtain ⟨p, c, t1, t2, t3⟩ := d.top
  refine ref04_Journal_Records_calls _ _ _ ?_
  refine ⟨_, _, _, t1.lget rfl, ?_⟩
  refine appK_push (Owns.nil w w.heap.size ty_string 1) (Nat.le_refl _) (strs j.l) (by rw [strs_length]; omega) (strs_one _) (At.own t2) (by omega) (by omega) fun q' D w2 o2 m2 _ => ?_
  simp only [Nat.zero_add, List.nil_append] at o2 ⊢
  exact ⟨q', D, rfl, o2, m2.weaken fun n hn => by cases hn⟩
def Sofar (j : Js) (t : Txt) (x : Int) (s' : St) (i : Nat) : Prop := runW j.s (j.wrs t) = (if x = 0 then runW s' ((j.wrs t).drop i) else (x, s')) ∧ s'.Ok ∧ s'.n = j.s.n
theorem Sofar.step {j : Js} {t : Txt} {s' : St} {i : Nat} {y : Nat × Txt} (h : Sofar j t 0 s' i) (hy : (j.wrs t)[i]? = some y) : Sofar j t (s'.write y.1 y.2).1 (s'.write y.1 y.2).2 (i + 1) := by
  obtain ⟨h1, h2, h3⟩ := h
  obtain ⟨h4, h5⟩ := write_ok h2 y.1 y.2
  refine ⟨?_, h4, h5.trans h3⟩
  obtain ⟨hi, rfl⟩ := List.getElem?_eq_some_iff.1 hy
  rw [h1, if_pos rfl, List.drop_eq_getElem_cons hi]
  generalize (j.wrs t)[i] = y at *
  obtain ⟨k, x⟩ := y
  rfl
theorem Sofar.skip {j : Js} {t : Txt} {x : Int} {s' : St} {i : Nat} (h : Sofar j t x s' i) (hx : ¬ x = 0) (m : Nat) : Sofar j t x s' m := by
  obtain ⟨h1, h2, h3⟩ := h
  rw [if_neg hx] at h1
  exact ⟨by rw [if_neg hx]; exact h1, h2, h3⟩
theorem rwrite_at {hj h q : Nat} {rq : Option Nat} {j : Js} {t : Txt} {s' : St} {i : Nat} {y : Nat × Txt} (d : Rj w0 w hj h q rq ⟨s', j.l, j.k⟩) (so : Sofar j t 0 s' i) (hy : (j.wrs t)[i]? = some y) :
    Calls Tryz.prog fn_ref03_Device_Write #[.pointer (some ⟨h, 0, none⟩), .int .i64 (y.1 : Int), .string (S y.2)] w (fun e w' => ∃ x s2, e = .returned (.int .i64 x) ∧ Sofar j t x s2 (i + 1) ∧ Rj w0 w' hj h q rq ⟨s2, j.l, j.k⟩ ∧ Mod (Foot hj h q rq) w w') := by
  obtain ⟨p, c, t1, t2, t3⟩ := d.top
  refine (ref_Write_spec d.dev so.2.1 y.1 y.2).mono ?_
  rintro _ w1 ⟨rfl, m1, d1⟩
  have hty : ¬ (hj = h ∨ hj = q) := by
    obtain ⟨⟨c', h1⟩, cur, h2, _⟩ := d.dev
    exact fun e => e.elim (fun e => t1.ne h1 (by decide) e) (fun e => t1.ne h2 (by decide) e)
  refine ⟨_, _, rfl, so.step hy, ⟨d1, ⟨p, c, t1.mod m1 hty, t2.mod m1 (fun k hk e => ?_), t3⟩, d.ne, d.low⟩, m1.weaken fun k hk => hk.elim .inl fun h => .inr (.inl h)⟩
  obtain ⟨cur, hr⟩ := t2.typed hk
  rcases e with e | e
  · obtain ⟨⟨c', h1⟩, _⟩ := d.dev
    exact hr.ne h1 (by decide) e
  · exact d.ne (t3.symm.trans (by rw [hk, e]))
theorem rappend_spec {hj h q : Nat} {rq : Option Nat} {j : Js} (h0 : Still w0 w) (d : Rj w0 w hj h q rq j) (ok : j.Ok) (t : Txt) :
    Calls Tryz.prog fn_ref04_Journal_Append #[.pointer (some ⟨hj, 0, none⟩), .string (S t)] w (fun e w' => e = .returned (.int .i64 (j.append t).1) ∧ ∃ rq', Rj w0 w' hj h q rq' (j.append t).2 ∧ Mod (Foot hj h q rq) w w' ∧ NewOr rq rq' w) := by
  have hn2 := ok.s.n2
  have hk := ok.k
  have hlk := ok.l
  refine ref04_Journal_Append_calls _ _ _ _ ?_
  have modF : ∀ {w' : World}, Still w w' → Mod (Foot hj h q rq) w w' := fun h => h.weaken fun _ h => h.elim
  refine bsel_of (fun hx => ?_) (fun hx => ?_)
  · have hx : 100000 < t.length := by have := of_decide_eq_true hx; omega
    have e : j.append t = (2, j) := by unfold Js.append; rw [if_pos hx]
    rw [e]
    exact ⟨rfl, rq, d, Mod.refl _ _, NewOr.refl _ _⟩
  have htl : t.length ≤ 100000 := by have := of_decide_eq_false hx; omega
  have hc := cnt_le htl
  refine (count_spec t.length (by omega)).mono ?_
  rintro _ w1 ⟨rfl, rfl⟩
  have sD := (Still.refl w1).toDrew
  have dD := d.still sD
  obtain ⟨p, c, t1, t2, t3⟩ := d.top
  have ew : IntKind.i64.wrap (IntKind.i64.wrap ((j.k : Int) + 1) + ((cnt t.length : Nat) : Int)) = ((j.k + 1 + cnt t.length : Nat) : Int) := by rw [wrap_i64 (n := (j.k : Int) + 1) (by omega) (by omega), wrap_i64 (by omega) (by omega)]; omega
  refine .inl ⟨_, rfl, fun wq => Still w1 wq, sD, _, fun wq hq => (t1.still hq).lget rfl, _, fun wq hq => (t1.still hq).lget rfl, (ref_Size_spec dD.dev).mono ?_⟩
  rintro _ w2 ⟨rfl, rfl⟩
  refine .inl ⟨_, rfl, sD, ?_⟩
  rw [ew]
  refine bsel_of (fun hx => ?_) (fun hx => ?_)
  · have hx : j.s.n ≤ j.k + cnt t.length := by have := of_decide_eq_true hx; omega
    have e : j.append t = (12, j) := by unfold Js.append; rw [if_neg (by omega), if_pos hx]
    rw [e]
    exact ⟨rfl, rq, dD, modF sD, NewOr.refl _ _⟩
  have hfit : j.k + cnt t.length < j.s.n := by have := of_decide_eq_false hx; omega
  have eapp : j.append t = if (runW j.s (j.wrs t)).1 = 0 then (0, ⟨(runW j.s (j.wrs t)).2, j.l ++ [t], j.k + 1 + cnt t.length⟩) else ((runW j.s (j.wrs t)).1, ⟨(runW j.s (j.wrs t)).2, j.l, j.k⟩) := by
    unfold Js.append
    rw [if_neg (by omega), if_neg (by omega)]
  -- the state behind i sectors
  let At : Int → Nat → World → Prop := fun x i w' => ∃ s', Sofar j t x s' i ∧ Rj w0 w' hj h q rq ⟨s', j.l, j.k⟩ ∧ Mod (Foot hj h q rq) w1 w'
  have AtS : ∀ {x i wa wb}, At x i wa → Still wa wb → At x i wb := by
    rintro x i wa wb ⟨s', h1, h2, h3⟩ hs
    exact ⟨s', h1, h2.still hs, Mod.trans h3 hs (fun _ h => h) (fun _ _ h => h.elim)⟩
  have AtW : ∀ {i : Nat} {y : Nat × Txt} {wa : World}, At 0 i wa → (j.wrs t)[i]? = some y → Calls Tryz.prog fn_ref03_Device_Write #[.pointer (some ⟨h, 0, none⟩), .int .i64 (y.1 : Int), .string (S y.2)] wa (fun e w' => ∃ x, e = .returned (.int .i64 x) ∧ At x (i + 1) w') := by
    rintro i y wa ⟨s', h1, h2, h3⟩ hy
    refine (rwrite_at h2 h1 hy).mono ?_
    rintro _ wb ⟨x, s2, rfl, g1, g2, g3⟩
    exact ⟨x, rfl, s2, g1, g2, Mod.trans h3 g3 (fun _ h => h) (fun _ _ h => h)⟩
  have A0 : At 0 0 w1.drew := ⟨j.s, ⟨rfl, ok.s, rfl⟩, dD, modF sD⟩
  have topOf : ∀ {x i wa}, At x i wa → ∃ p c, Row wa hj ty_scullionref04_Journal ⟨[.pointer (some ⟨h, 0, none⟩), .slice p j.l.length c, .int .i64 (j.k : Int)]⟩ := by
    rintro x i wa ⟨s', h1, h2, h3⟩
    obtain ⟨p, c, g1, _⟩ := h2.top
    exact ⟨p, c, g1⟩
  refine ⟨fun x w' => At x (endN j t) w', ?_, ?_⟩
  · have s2D := (Still.refl w1.drew).toDrew
    have A2 := AtS A0 s2D
    obtain ⟨p, c, q1⟩ := topOf A0
    refine ⟨fun wq => Still w1.drew wq, s2D, _, fun wq hq => (q1.still hq).lget rfl, _, fun wq hq => (q1.still hq).lget rfl, (ref_Size_spec (dD.still s2D).dev).mono ?_⟩
    rintro _ w3 ⟨rfl, rfl⟩
    refine .inl ⟨_, rfl, s2D, ?_⟩
    rw [ew]
    refine bsel_of (fun hx => ?_) (fun hx => ?_)
    · have hx : j.k + 1 + cnt t.length < j.s.n := by have := of_decide_eq_true hx; omega
      have en : endN j t = 1 := if_pos hx
      have s3D := s2D.toDrew
      have A3 := AtS A0 s3D
      refine ⟨fun wq => Still w1.drew wq, s3D, _, fun wq hq => (q1.still hq).lget rfl, _, fun wq hq => (q1.still hq).lget rfl, ?_⟩
      rw [ew]
      refine (AtW A3 (wrs_end hx)).mono ?_
      rintro _ w4 ⟨x, rfl, hx4⟩
      exact .inl ⟨_, rfl, by rw [en]; exact hx4⟩
    · have hx : ¬ j.k + 1 + cnt t.length < j.s.n := by have := of_decide_eq_false hx; omega
      have en : endN j t = 0 := if_neg hx
      rw [en]
      exact A2
  intro x _ w5 A5
  refine ⟨fun x w' => At x (endN j t + 1) w', ?_, ?_⟩
  · refine bsel_of (fun hx => ?_) (fun hx => ?_)
    · obtain rfl := of_decide_eq_true hx
      obtain ⟨p, c, q1⟩ := topOf A5
      have s5D := (Still.refl w5).toDrew
      refine ⟨fun wq => Still w5 wq, s5D, _, fun wq hq => (q1.still hq).lget rfl, _, fun wq hq => (q1.still hq).lget rfl, _, _, _, fun wq hq => (q1.still hq).lget rfl, (rhead_spec 48 j.l.length t (by omega) htl).mono ?_⟩
      rintro _ w6 ⟨rfl, s6⟩
      have s6 := s5D.trans s6
      refine .inl ⟨_, rfl, s6, (AtW (AtS A5 s6) wrs_head).mono ?_⟩
      rintro _ w7 ⟨x, rfl, hx7⟩
      exact .inl ⟨_, rfl, hx7⟩
    · obtain ⟨s', h1, h2⟩ := A5
      exact ⟨s', h1.skip (of_decide_eq_false hx) _, h2⟩
  intro x _ w8 A8
  refine ⟨fun x i w' => ∃ n : Nat, i = (n : Int) ∧ n ≤ cnt t.length ∧ At x (endN j t + 1 + n) w', fun _ i _ => cnt t.length - i.toNat, ⟨0, rfl, Nat.zero_le _, A8⟩, ?_⟩
  rintro x _ _ w9 ⟨i, rfl, hi, A9⟩
  refine ⟨fun w' => x = 0 ∧ i < cnt t.length ∧ At 0 (endN j t + 1 + i) w', ⟨fun o w' => At x (endN j t + 1 + i) w' ∧ (o = true → x = 0 ∧ i < cnt t.length) ∧ (o = false → x = 0 → i = cnt t.length), ?_, ?_⟩, ?_⟩
  · refine bsel_of (fun hx => ⟨A9, fun h => ⟨of_decide_eq_true h, by have := of_decide_eq_true hx; omega⟩, fun h e => absurd e (of_decide_eq_false h)⟩) (fun hx => ⟨A9, fun h => (by cases h), fun _ _ => by have := of_decide_eq_false hx; omega⟩)
  · rintro o _ w10 ⟨A10, ho1, ho2⟩
    refine bsel_of (fun ho => ?_) (fun ho => ?_)
    · obtain ⟨rfl, hi2⟩ := ho1 ho
      exact ⟨rfl, hi2, A10⟩
    have ho2 := ho2 ho
    refine ⟨fun x w' => At x (endN j t + 1 + cnt t.length + 1) w', ?_, ?_⟩
    · refine bsel_of (fun hx => ?_) (fun hx => ?_)
      · obtain rfl := of_decide_eq_true hx
        obtain rfl := ho2 rfl
        obtain ⟨p, c, q1⟩ := topOf A10
        have s5D := (Still.refl w10).toDrew
        refine ⟨fun wq => Still w10 wq, s5D, _, fun wq hq => (q1.still hq).lget rfl, _, fun wq hq => (q1.still hq).lget rfl, _, _, _, fun wq hq => (q1.still hq).lget rfl, (rhead_spec 49 j.l.length t (by omega) htl).mono ?_⟩
        rintro _ w11 ⟨rfl, s6⟩
        have s6 := s5D.trans s6
        refine .inl ⟨_, rfl, s6, (AtW (AtS A10 s6) wrs_last).mono ?_⟩
        rintro _ w12 ⟨x, rfl, hx7⟩
        exact .inl ⟨_, rfl, hx7⟩
      · obtain ⟨s', h1, h2⟩ := A10
        exact ⟨s', h1.skip (of_decide_eq_false hx) _, h2⟩
    rintro x _ w13 ⟨s', so, d13, m13⟩
    refine bsel_of (fun hx => ?_) (fun hx => ?_)
    · have hx : ¬ x = 0 := by simpa using hx
      have e : runW j.s (j.wrs t) = (x, s') := by rw [so.1, if_neg hx]
      rw [eapp, e, if_neg hx]
      exact ⟨rfl, rq, d13, m13, NewOr.refl _ _⟩
    have hx : x = 0 := by simpa using hx
    subst hx
    have e : runW j.s (j.wrs t) = (0, s') := by
      rw [so.1, if_pos rfl, ← wrs_len (j := j) (t := t), List.drop_length]
      rfl
    rw [eapp, e, if_pos rfl]
    obtain ⟨p, c, t1, t2, t3⟩ := d13.top
    have hsz := m13.size
    refine ⟨_, _, _, t1.lget rfl, push1b t2 (d.stays h0 m13).size (cs := [.string (S t)]) rfl (by simp [Value.oneCell']) (by dsimp only; omega) (by dsimp only; omega) fun p' c' w15 o5 m5 n5 => ?_⟩
    have hgt : ∀ n, (Value.slice p j.l.length c).ownBlock = some n → hj ≠ n := fun n hk => by
      obtain ⟨cur, hr⟩ := t2.typed hk
      exact t1.ne hr (by decide)
    have t15 := t1.mod m5 (fun e => hgt _ e rfl)
    have hgt2 : (Value.slice p' (j.l.length + 1) c').ownBlock ≠ some hj := fun e => by
      obtain ⟨cur, hr⟩ := o5.typed e
      exact t15.ne hr (by decide) rfl
    refine stK (g := hj) (o := 1) t15 (by simp) (by simp [Value.oneCell']) fun w16 r6 m6 z6 => ?_
    simp only [ovw, List.set_cons_succ, List.set_cons_zero] at r6
    refine ⟨_, r6.lget rfl, stK (g := hj) (o := 2) r6 (by simp) (by simp [Value.oneCell']) fun w17 r8 m8 z8 => ?_⟩
    simp only [ovw, List.set_cons_succ, List.set_cons_zero] at r8
    rw [ew] at r8
    have m58 : Mod (fun n => n = hj) w15 w17 := Mod.trans m6 m8 (fun _ h => h) (fun _ _ h => h)
    have mm : Mod (fun n => rq = some n ∨ n = hj) w13 w17 := Mod.trans m5 m58 (fun n hk => .inl (t3.symm.trans hk)) (fun _ _ h => .inr h)
    have hty : hj ≠ h ∧ hj ≠ q := by
      obtain ⟨⟨c', h1⟩, cur, h2, _⟩ := d13.dev
      exact ⟨t1.ne h1 (by decide), t1.ne h2 (by decide)⟩
    have hrq : ¬ rq = some h := fun e => by
      obtain ⟨cur, hr⟩ := t2.typed (t3.trans e)
      obtain ⟨⟨c', h1⟩, _⟩ := d13.dev
      exact hr.ne h1 (by decide) rfl
    refine ⟨rfl, (Value.slice p' (j.l.length + 1) c').ownBlock, ⟨d13.dev.mod mm (fun e => e.elim hrq (fun e => hty.1 e.symm)) (fun e => e.elim d13.ne (fun e => hty.2 e.symm)), ⟨p', c', ?_, ?_, by rw [List.length_append]; rfl⟩, ?_, d.low⟩, ?_, ?_⟩
    · rw [List.length_append]
      exact r8
    · have ho := o5.mod m58 (fun n hk => by rintro rfl; exact hgt2 hk)
      rw [List.length_append, strs_append]
      exact ho
    · intro e
      rcases n5 _ e with e2 | e2
      · exact d13.ne (t3.symm.trans e2)
      · have := d13.dev.lt.2; omega
    · exact Mod.trans m13 mm (fun _ h => h) (fun n _ hn => hn.elim (fun e => .inr (.inr (.inr e))) (fun e => .inr (.inr (.inl e))))
    · intro n hnn
      rcases n5 n hnn with e | e
      · exact .inl (t3.symm.trans e)
      · exact .inr (Nat.le_trans hsz e)
  · rintro _ w18 ⟨rfl, hi2, A18⟩
    obtain ⟨p, c, q1⟩ := topOf A18
    have s5D := (Still.refl w18).toDrew
    have ew2 : IntKind.i64.wrap ((i : Int) * 64) = ((i * 64 : Nat) : Int) := by rw [wrap_i64 (by omega) (by omega)]; omega
    have ew3 : IntKind.i64.wrap (IntKind.i64.wrap ((i : Int) + 1) * 64) = (((i + 1) * 64 : Nat) : Int) := by rw [wrap_i64 (n := (i : Int) + 1) (by omega) (by omega), wrap_i64 (by omega) (by omega)]; omega
    have ew4 : IntKind.i64.wrap (IntKind.i64.wrap ((j.k : Int) + 1) + (i : Int)) = ((j.k + 1 + i : Nat) : Int) := by rw [wrap_i64 (n := (j.k : Int) + 1) (by omega) (by omega), wrap_i64 (by omega) (by omega)]; omega
    have hc64 : cnt t.length * 64 < t.length + 64 := by unfold cnt; omega
    refine ⟨fun wq => Still w18 wq, s5D, _, fun wq hq => (q1.still hq).lget rfl, _, fun wq hq => (q1.still hq).lget rfl, ?_⟩
    rw [ew2, ew3, ew4]
    have em : (if (((i + 1) * 64 : Nat) : Int) < (t.length : Int) then (((i + 1) * 64 : Nat) : Int) else (t.length : Int)) = ((min ((i + 1) * 64) t.length : Nat) : Int) := by split <;> omega
    rw [em]
    refine ⟨by omega, by omega, by omega, ?_⟩
    rw [Int.toNat_natCast, Int.toNat_natCast]
    have et : (t.drop (i * 64)).take (min ((i + 1) * 64) t.length - i * 64) = (t.drop (i * 64)).take 64 := by
      by_cases hle : (i + 1) * 64 ≤ t.length
      · rw [show min ((i + 1) * 64) t.length - i * 64 = 64 by omega]
      · rw [show min ((i + 1) * 64) t.length - i * 64 = t.length - i * 64 by omega, List.take_of_length_le (by rw [List.length_drop]; omega), List.take_of_length_le (by rw [List.length_drop]; omega)]
    rw [et]
    refine (AtW (AtS A18 s5D) (wrs_piece hi2)).mono ?_
    rintro _ w19 ⟨x, rfl, hx7⟩
    refine .inl ⟨_, rfl, ⟨i + 1, by rw [wrap_i64 (by omega) (by omega)]; omega, hi2, hx7⟩, ?_⟩
    dsimp only
    rw [wrap_i64 (by omega) (by omega)]
    omega
theorem Same_spec {g b h q : Nat} {s : St} (d : Dev w g b s) (r : Ref w h q s) (hs : s.Ok) : Calls Tryz.prog fn_law03_Same #[.pointer (some ⟨g, 0, none⟩), .pointer (some ⟨h, 0, none⟩)] w (fun e w' => e = .returned (.bool true) ∧ w' = w) := by
  refine law03_Same_calls _ _ _ _ ?_
  refine (device_Size_spec d).mono ?_
  rintro _ w ⟨rfl, rfl⟩
  refine .inl ⟨_, rfl, (ref_Size_spec r).mono ?_⟩
  rintro _ w ⟨rfl, rfl⟩
  refine .inl ⟨_, rfl, bsel_of (fun h => by simp at h) (fun _ => ?_)⟩
  refine ⟨fun i w1 => 0 ≤ i ∧ i ≤ s.n ∧ w1 = w, fun i _ => (s.n - i).toNat, ⟨by decide, by omega, rfl⟩, ?_⟩
  rintro i _ w1 ⟨h0, h1, rfl⟩
  refine (ref_Size_spec r).mono ?_
  rintro _ w ⟨rfl, rfl⟩
  refine .inl ⟨_, rfl, bsel_of (fun hx => ?_) (fun _ => ⟨rfl, rfl⟩)⟩
  have hx := of_decide_eq_true hx
  have hn := hs.n2
  refine (device_Read_spec d i).mono ?_
  rintro _ w ⟨rfl, rfl⟩
  rw [if_pos ⟨h0, hx⟩]
  refine .inl ⟨_, _, rfl, (ref_Read_spec r i).mono ?_⟩
  rintro _ w ⟨rfl, rfl⟩
  rw [if_pos ⟨h0, hx⟩]
  refine .inl ⟨_, _, rfl, bsel_of (fun h => by simp at h) (fun _ => ?_)⟩
  rw [wrap_i64 (by omega) (by omega)]
  exact ⟨⟨by omega, by omega, rfl⟩, by dsimp only; omega⟩
theorem limit_ok {s : St} (h : s.Ok) {n m : Int} (hn : n < 9223372036854775808) (hm0 : 0 ≤ m) (hm1 : m < 18446744073709551616) : (s.limit n m).Ok := by
  refine ⟨h.n1, h.n2, ?_, ?_, hm0, hm1⟩
  · show 0 ≤ (if 0 > n then 0 else n)
    split <;> omega
  · show (if 0 > n then 0 else n) < _
    split <;> omega
theorem restart_ok {s : St} (h : s.Ok) : s.restart.Ok := ⟨h.n1, h.n2, h.p0, h.p1, Int.le_refl _, (by decide : (0 : Int) < 18446744073709551616)⟩
theorem Jr.setDev {gj g b : Nat} {rp : Option Nat} {j : Js} (h : Jr w0 w gj g b rp j) {w' : World} {s' : St} (m : Mod (fun i => i = g ∨ i = b) w w') (d : Dev w' g b s') : Jr w0 w' gj g b rp ⟨s', j.l, j.k⟩ := by
  obtain ⟨p, c, t1, t2, t3⟩ := h.top
  refine ⟨d, ⟨p, c, t1.mod m (fun e => e.elim (fun e => t1.ne h.dev.top (by decide) e) (fun e => t1.ne h.dev.bytes (by decide) e)), t2.mod m (fun k hk e => ?_), t3⟩, h.low⟩
  obtain ⟨cur, hr⟩ := t2.typed hk
  exact e.elim (fun e => hr.ne h.dev.top (by decide) e) (fun e => hr.ne h.dev.bytes (by decide) e)
theorem Rj.setDev {hj h q : Nat} {rq : Option Nat} {j : Js} (d : Rj w0 w hj h q rq j) {w' : World} {s' : St} (m : Mod (fun i => i = h ∨ i = q) w w') (d' : Ref w' h q s') : Rj w0 w' hj h q rq ⟨s', j.l, j.k⟩ := by
  obtain ⟨p, c, t1, t2, t3⟩ := d.top
  have hty : ¬ (hj = h ∨ hj = q) := by
    obtain ⟨⟨c', h1⟩, cur, h2, _⟩ := d.dev
    exact fun e => e.elim (fun e => t1.ne h1 (by decide) e) (fun e => t1.ne h2 (by decide) e)
  refine ⟨d', ⟨p, c, t1.mod m hty, t2.mod m (fun k hk e => ?_), t3⟩, d.ne, d.low⟩
  obtain ⟨cur, hr⟩ := t2.typed hk
  rcases e with e | e
  · obtain ⟨⟨c', h1⟩, _⟩ := d.dev
    exact hr.ne h1 (by decide) e
  · exact d.ne (t3.symm.trans (by rw [hk, e]))
structure Ids where
  gx : Nat
  g : Nat
  b : Nat
  gj : Nat
  rp : Option Nat
  h : Nat
  q : Nat
  hj : Nat
  rq : Option Nat
def Ids.A (i : Ids) : Nat → Prop := Foot i.gj i.g i.b i.rp
def Ids.B (i : Ids) : Nat → Prop := Foot i.hj i.h i.q i.rq
section
variable {i : Ids} {j jr : Js}
end
end Go.Proofs.YtkdlmkbpfdogcaaGreatDoor
