/- Texts of one proof, one behind the other. Conditions: as each theorem names them. -/
import Derived.Test.YtddkalfffhkkkaaGreatDoorQ5
namespace Go.Proofs.YtddkalfffhkkkaaGreatDoor
open Go.RowKit Vc
variable {w w0 : World}
set_option maxRecDepth 10000 in
set_option maxHeartbeats 1000000 in
theorem writes_spec {k gj g b gb1 gb2 : Nat} {j : Js} {t : Txt} (he : Env w0) (ok : j.Ok) (ht : t.length ≤ 100000) (hend : j.k + cnt t.length < j.s.n) (I : Nat → World → Prop) (F : World → Prop) (hI : I 0 w)
    (hread : ∀ i w1, I i w1 → Rd w0 w1 gj g b gb1 gb2 j t) (hkI : ∀ i w1 w2, I i w1 → Mod (fun n => w.heap.size ≤ n) w1 w2 → I i w2) (hkF : ∀ w1 w2, F w1 → Mod (fun n => w.heap.size ≤ n) w1 w2 → F w2)
    (hstep : ∀ i x w1, (j.wrs t)[i]? = some x → I i w1 → YieldsTo Tryz.prog k [.int .i64 (x.1 : Int), .string (S x.2)] w1 (fun e w2 => Round (I (i + 1)) F e w2 ∧ Mod (fun n => n < w.heap.size) w1 w2)) :
    Calls Tryz.prog fn_journal_Journal_writes_1 #[yieldV k, .pointer (some ⟨gb1, 0, none⟩), .pointer (some ⟨gb2, 0, none⟩)] w (fun e w' => e = .returned (.tuple #[]) ∧ (I (j.wrs t).length w' ∨ F w')) := by
  have hn2 := ok.s.n2
  have hk := ok.k
  have hlk := ok.l
  have hc := cnt_le ht
  have kI : ∀ {i w1 w2}, I i w1 → Still w1 w2 → I i w2 := fun h hm => hkI _ _ _ h (hm.weaken fun _ h => h.elim)
  have kF : ∀ {w1 w2}, F w1 → Still w1 w2 → F w2 := fun h hm => hkF _ _ h (hm.weaken fun _ h => h.elim)
  refine journal_Journal_writes_1_calls _ _ _ _ _ ?_
  refine allocK fun w1 ry s1 z1 => ?_
  have hI1 := kI hI s1
  have R1 := hread _ _ hI1
  obtain ⟨p, c, ht1⟩ := R1.top
  refine ⟨_, R1.box1.lget rfl, _, _, _, ht1.lget rfl, fun w' => I (endN j t) w' ∧ Row w' w.heap.size 102 ⟨[yieldV k]⟩ ∧ w1.heap.size ≤ w'.heap.size, ?_, ?_⟩
  · refine ⟨fun wq => Still w1 wq, (Still.refl w1).toDrew, _, fun wq hq => (R1.at hq).box1.lget rfl, _, fun wq hq => (R1.at hq).nx, _, fun wq hq => (R1.at hq).box2.lget rfl, (sectors_spec t.length (by omega)).mono ?_⟩
    rintro _ w2 ⟨rfl, rfl⟩
    refine .inl ⟨_, rfl, (Still.refl w1).toDrew, ?_⟩
    have hI2 := kI hI1 (Still.refl w1).toDrew
    have R2 := hread _ _ hI2
    refine ⟨fun x w' => (x = true → F w') ∧ (x = false → I (endN j t) w' ∧ Row w' w.heap.size 102 ⟨[yieldV k]⟩ ∧ w1.heap.size ≤ w'.heap.size), ?_, ?_⟩
    · obtain ⟨s, d, hs⟩ := R2.dev
      refine ⟨_, R2.box1.lget rfl, _, R2.dv, (device_Size_spec d).mono ?_⟩
      rintro _ w3 ⟨rfl, rfl⟩
      refine .inl ⟨_, rfl, ?_⟩
      have e1 : IntKind.i64.wrap (IntKind.i64.wrap ((j.k : Int) + 1) + ((cnt t.length : Nat) : Int)) = ((j.k + 1 + cnt t.length : Nat) : Int) := by rw [wrap_i64 (n := (j.k : Int) + 1) (by omega) (by omega), wrap_i64 (by omega) (by omega)]; omega
      rw [e1, hs]
      refine bsel_of (fun hx => ?_) (fun hx => ?_)
      · have hx : j.k + 1 + cnt t.length < j.s.n := by have := of_decide_eq_true hx; omega
        have en : endN j t = 1 := if_pos hx
        refine ⟨yieldV k, rfl, (ry.still (Still.refl w1).toDrew).lget rfl, (hstep 0 _ _ (wrs_end hx) hI2).mono ?_⟩
        rintro _ w4 ⟨⟨o, rfl, hA, hB⟩, m4⟩
        refine ⟨o, rfl, rfl, fun ho => hB (by simpa using ho), fun ho => ⟨by rw [en]; exact hA (by simpa using ho), ?_, m4.size⟩⟩
        exact ry.mod (((Mod.refl (fun n => n < w.heap.size) w1).drew).trans m4 (fun _ h => h) (fun _ _ h => h)) (fun h => Nat.lt_irrefl _ h)
      · have hx : ¬ j.k + 1 + cnt t.length < j.s.n := by have := of_decide_eq_false hx; omega
        have en : endN j t = 0 := if_neg hx
        exact ⟨rfl, fun h => (by cases h), fun _ => ⟨by rw [en]; exact hI2, ry.still (Still.refl w1).toDrew, Nat.le_refl _⟩⟩
    · rintro x _ w5 ⟨h1, h2⟩
      exact bsel_of (fun hx => ⟨rfl, .inr (h1 hx)⟩) (fun hx => ⟨rfl, h2 hx⟩)
  rintro _ w6 ⟨hI6, ry6, z6⟩
  have R6 := hread _ _ hI6
  have s6D := (Still.refl w6).toDrew
  refine ⟨fun wq => Still w6 wq, s6D, yieldV k, rfl, fun wq hq => (ry6.still hq).lget rfl, _, fun wq hq => (R6.at hq).box1.lget rfl, _, fun wq hq => (R6.at hq).nx, _, fun wq hq => (R6.at hq).box2.lget rfl, ?_⟩
  refine (head_spec he (R6.at s6D).still 48 j.l.length t (by omega) ht).mono ?_
  rintro _ w7 ⟨rfl, s7⟩
  have s7 := s6D.trans s7
  refine .inl ⟨_, rfl, s7, (hstep _ _ _ wrs_head (kI hI6 s7)).mono ?_⟩
  rintro _ w8 ⟨⟨o, rfl, hA, hB⟩, m8⟩
  refine ⟨o, rfl, bsel_of (fun ho => ⟨rfl, .inr (hB (by simpa using ho))⟩) (fun ho => ?_)⟩
  have hI8 := hA (by simpa using ho)
  have R8 := hread _ _ hI8
  have ry8 := (ry6.still s7).mod m8 (fun h => Nat.lt_irrefl _ h)
  have z8 : w.heap.size < w8.heap.size := by have := s7.size; have := m8.size; omega
  refine ⟨_, R8.box1.lget rfl, _, R8.nx, boxK rfl (by simp [Value.oneCell']) fun w10 ra s10 z10 => ?_⟩
  have hI10 := kI hI8 s10
  have R10 := hread _ _ hI10
  refine ⟨_, R10.box2.lget rfl, by omega, fun cp w11 ho11 hg11 => ?_⟩
  have s11 : Still w10 w11 := (Mod.refl _ _).grown hg11 fun _ h => by cases h
  have hI11 := kI hI10 s11
  refine Calls.mono (mkChunk_spec (w := w11) (q := w10.heap.size) (C := cp) (t := t) (K := fun w' => Row w' w11.heap.size 45 ⟨[.slice (some ⟨w10.heap.size, 0, none⟩) t.length cp]⟩ ∧ Row w' (w11.heap.size + 1) 3 ⟨[.int .i64 64]⟩ ∧ Still w11 w' ∧ w'.heap.size = w11.heap.size + 2) _ _ rfl rfl fun w' h1 h2 h3 h4 => ⟨h1, h2, h3, h4⟩) ?_
  rintro _ w12 ⟨rfl, rs, rn, s12, z12⟩
  refine .inl ⟨_, rfl, rfl, calleeK_mk (g := fn_slices_Chunk_byte_byte_1) (first := []) (cap := [.pointer (some ⟨w11.heap.size, 0, none⟩), .pointer (some ⟨w11.heap.size + 1, 0, none⟩)]) ?_⟩
  refine bsel_of (fun _ => ?_) (fun h => absurd h (by rw [show callable Tryz.prog fn_slices_Chunk_byte_byte_1 = true by kernel_rfl]; decide))
  intro rec hst hpd hY
  have hI12 := kI hI11 s12
  have z11 := s11.size
  -- the worlds of the pieces
  let Own : World → Prop := fun w' => Row w' w.heap.size 102 ⟨[yieldV k]⟩ ∧ Row w' w11.heap.size 45 ⟨[.slice (some ⟨w10.heap.size, 0, none⟩) t.length cp]⟩ ∧ Row w' (w11.heap.size + 1) 3 ⟨[.int .i64 64]⟩ ∧
    Owns w' w10.heap.size 5 1 (.slice (some ⟨w10.heap.size, 0, none⟩) t.length cp) t.length (bc t) ∧ w'.heap[w12.heap.size]? = some (.deferred (some []))
  have hoc : Owns w11 w10.heap.size 5 1 (.slice (some ⟨w10.heap.size, 0, none⟩) t.length cp) t.length (bc t) := ho11.base fun k hk => by cases hk; exact Nat.le_refl _
  have keepO : ∀ {w1 w2 : World} {T : Nat → Prop}, Own w1 → Mod T w1 w2 → (∀ n, T n → n < w.heap.size ∨ n = w8.heap.size ∨ n = w12.heap.size + 1) → Own w2 := by
    rintro w1 w2 T ⟨o1, o2, o3, o4, o5⟩ hm hT
    have no : ∀ {n}, w.heap.size ≤ n → n ≠ w8.heap.size → n ≠ w12.heap.size + 1 → ¬ T n := fun h1 h2 h3 h => by
      rcases hT _ h with e | e | e
      · omega
      · exact h2 e
      · exact h3 e
    refine ⟨o1.mod hm (no (Nat.le_refl _) (by omega) (by omega)), o2.mod hm (no (by omega) (by omega) (by omega)), o3.mod hm (no (by omega) (by omega) (by omega)), o4.mod hm (fun k hk => ?_), heap_mod o5 hm (no (by omega) (by omega) (by omega))⟩
    obtain rfl : w10.heap.size = k := Option.some.inj hk
    exact no (by omega) (by omega) (by omega)
  let Ic : Nat → World → Prop := fun i w' => I (endN j t + 1 + i) w' ∧ Own w' ∧ Row w' w8.heap.size 3 ⟨[.int .i64 ((j.k + i : Nat) : Int)]⟩ ∧ w'.heap[w12.heap.size + 1]? = some (.loop rec)
  let Fc : World → Prop := fun w' => F w' ∧ Own w' ∧ w'.heap[w12.heap.size + 1]? = some (doneL rec .ret)
  have hstart : Ic 0 ((w12.alloc (.deferred (some []))).alloc (.loop rec)) := by
    have sA : Still w12 ((w12.alloc (.deferred (some []))).alloc (.loop rec)) := ((Mod.refl _ _).alloc _).alloc _
    have s0 := ((s10.trans s11).trans s12).trans sA
    refine ⟨kI hI8 s0, ⟨ry8.still s0, (rs.still sA), rn.still sA, (hoc.still s12).still sA, ?_⟩, ((ra.still s11).still s12).still sA, ?_⟩
    · rw [Below.heap_alloc _ _ _ (by simp)]
      exact World.alloc_heap_new _ _
    · have := World.alloc_heap_new (w12.alloc (.deferred (some []))) (.loop rec)
      rwa [World.size_alloc] at this
  refine (chunk_spec (gs := w11.heap.size) (gn := w11.heap.size + 1) (q := w10.heap.size) (C := cp) (t := t) (B := w10.heap.size) (k := w12.heap.size + 1) Ic Fc ht hstart (fun i w1 h => ⟨h.2.1.2.1, h.2.1.2.2.1, h.2.1.2.2.2.1⟩)
    (fun i w1 h => ⟨kI h.1 (Still.refl w1).toDrew, h.2.1, h.2.2.1, h.2.2.2⟩) (fun i w1 q D hi h hby => ?_)).mono ?_
  · obtain ⟨hi1, ho1, ha1, hr1⟩ := h
    refine hY _ _ _ w1 _ hr1 ⟨rfl, hr1, ?_⟩
    have mp : Mod (fun n => n = w12.heap.size + 1) w1 (w1.putObj (w12.heap.size + 1) (busyL rec)) := mput _ _ _
    have ha2 := ha1.mod mp (by omega)
    have hb2 : (w1.putObj (w12.heap.size + 1) (busyL rec)).heap[w12.heap.size + 1]? = some (busyL rec) := World.putObj_heap_same (heap_lt hr1)
    refine letIn ⟨_, ha2.lget rfl, stK (g := w8.heap.size) (o := 0) ha2 (by simp) (by simp [Value.oneCell']) fun w16 r16 m16 z16 => ?_⟩
    simp only [ovw, List.set_cons_zero] at r16
    have m116 : Mod (fun n => n = w8.heap.size ∨ n = w12.heap.size + 1) w1 w16 := Mod.trans mp m16 (fun _ h => .inr h) (fun _ _ h => .inl h)
    have ho16 := keepO ho1 m116 (fun n h => .inr h)
    have hb16 := heap_mod hb2 m16 (by omega)
    have e1 : IntKind.i64.wrap (((j.k + i : Nat) : Int) + 1) = ((j.k + 1 + i : Nat) : Int) := by rw [wrap_i64 (by omega) (by omega)]; omega
    rw [e1] at r16
    have hy := hstep (endN j t + 1 + i) _ w16 (wrs_piece hi) (hkI _ _ _ hi1 (m116.weaken fun n h => by rcases h with rfl | rfl <;> omega))
    refine ⟨yieldV k, rfl, ho16.1.lget rfl, _, r16.lget rfl, (t.drop (i * 64)).take 64, bytes_far hby ha1 hr1 m116, hy.mono ?_⟩
    rintro _ w17 ⟨⟨o, rfl, hA, hB⟩, m17⟩
    have ho17 := keepO ho16 m17 (fun n h => .inl h)
    have hb17 := heap_mod hb16 m17 (by omega)
    have r17 := r16.mod m17 (by omega)
    have mpo : ∀ x, Mod (fun n => n = w12.heap.size + 1) w17 (w17.putObj (w12.heap.size + 1) x) := fun x => mput _ _ _
    refine ⟨o, rfl, bsel_of (fun hx => ⟨hb17, false, rfl, fun h => (by cases h), fun _ => ?_⟩) (fun hx => ⟨hb17, true, rfl, fun _ => ?_, fun h => (by cases h)⟩)⟩
    · exact ⟨hkF _ _ (hB (by simpa using hx)) ((mpo _).weaken fun n h => by rw [h]; omega), keepO ho17 (mpo _) (fun n h => .inr (.inr h)), World.putObj_heap_same (heap_lt hb17)⟩
    · refine ⟨hkI _ _ _ (hA (by simpa using hx)) ((mpo _).weaken fun n h => by rw [h]; omega), keepO ho17 (mpo _) (fun n h => .inr (.inr h)), ?_, World.putObj_heap_same (heap_lt hb17)⟩
      have r18 := r17.mod (mpo (.loop rec)) (by omega)
      rw [show j.k + (i + 1) = j.k + 1 + i by omega]
      exact r18
  · rintro _ w14 ⟨rfl, h14⟩
    refine ⟨⟨_, rfl⟩, ?_⟩
    have mpo : ∀ x, Mod (fun n => n = w12.heap.size + 1) w14 (w14.putObj (w12.heap.size + 1) x) := fun x => mput _ _ _
    rcases h14 with ⟨hi14, ho14, ha14, hr14⟩ | ⟨hf14, ho14, hr14⟩
    · refine .inl ⟨hr14, ?_⟩
      generalize hw : w14.putObj (w12.heap.size + 1) (.loop { rec with state := .exhausted }) = w15
      have m15 : Mod (fun n => n = w12.heap.size + 1) w14 w15 := hw ▸ mpo _
      have hi15 := hkI _ _ _ hi14 (m15.weaken fun n h => by rw [h]; omega)
      have ho15 := keepO ho14 m15 (fun n h => .inr (.inr h))
      have R15 := hread _ _ hi15
      have s15D := (Still.refl w15).toDrew
      refine ⟨fun wq => Still w15 wq, s15D, yieldV k, rfl, fun wq hq => (ho15.1.still hq).lget rfl, _, fun wq hq => (R15.at hq).box1.lget rfl, _, fun wq hq => (R15.at hq).nx, _, fun wq hq => (R15.at hq).box2.lget rfl, ?_⟩
      refine (head_spec he (R15.at s15D).still 49 j.l.length t (by omega) ht).mono ?_
      rintro _ w18 ⟨rfl, s18⟩
      have s18 := s15D.trans s18
      refine .inl ⟨_, rfl, s18, (hstep _ _ _ wrs_last (kI hi15 s18)).mono ?_⟩
      rintro _ w19 ⟨⟨o, rfl, hA, hB⟩, m19⟩
      have ho18 := keepO ho15 s18 (fun n h => h.elim)
      have ho19 := keepO ho18 m19 (fun n h => .inl h)
      have md : Mod (fun n => w.heap.size ≤ n) w19 (w19.putObj w12.heap.size (.deferred none)) := (Mod.refl _ _).putObj (.inl (by omega)) _
      refine ⟨o, rfl, ho19.2.2.2.2, rfl, ?_⟩
      cases o with
      | true =>
        left
        rw [wrs_len]
        exact hkI _ _ _ (hA rfl) md
      | false => exact .inr (hkF _ _ (hB rfl) md)
    · refine .inr (.inl ⟨hr14, ?_, rfl, .inr ?_⟩)
      · exact heap_mod ho14.2.2.2.2 (mpo _) (by omega)
      · exact hkF _ _ (hkF _ _ hf14 ((mpo _).weaken fun n h => by rw [h]; omega)) ((Mod.refl _ _).putObj (.inl (by omega)) _)
theorem mkWrites_spec {gj : Nat} {t : Txt} : Calls Tryz.prog fn_journal_Journal_writes #[.pointer (some ⟨gj, 0, none⟩), .string (S t)] w (fun e w' => e = .returned (.func (.func fn_journal_Journal_writes_1) #[] #[.pointer (some ⟨w.heap.size, 0, none⟩), .pointer (some ⟨w.heap.size + 1, 0, none⟩)]) ∧
    Row w' w.heap.size 29 ⟨[.pointer (some ⟨gj, 0, none⟩)]⟩ ∧ Row w' (w.heap.size + 1) 9 ⟨[.string (S t)]⟩ ∧ Still w w' ∧ w'.heap.size = w.heap.size + 2) := by
  refine journal_Journal_writes_calls _ _ _ _ ?_
  refine allocK fun w1 r1 s1 z1 => allocK fun w2 r2 s2 z2 => ?_
  rw [z1] at r2 ⊢
  exact ⟨rfl, r1.still s2, r2, s1.trans s2, by omega⟩
theorem drop_at {α : Type} {l : List α} {i : Nat} {x : α} (h : l[i]? = some x) : l.drop i = x :: l.drop (i + 1) := by
  obtain ⟨hi, rfl⟩ := List.getElem?_eq_some_iff.1 h
  exact List.drop_eq_getElem_cons hi
set_option maxRecDepth 10000 in
set_option maxHeartbeats 1000000 in
theorem jappend_spec {gj g b : Nat} {rp : Option Nat} {j : Js} (he : Env w0) (h0 : Still w0 w) (h : Jr w0 w gj g b rp j) (ok : j.Ok) (t : Txt) :
    Calls Tryz.prog fn_journal_Journal_Append #[.pointer (some ⟨gj, 0, none⟩), .string (S t)] w (fun e w' => e = .returned (.int .i64 (j.append t).1) ∧ ∃ rp', Jr w0 w' gj g b rp' (j.append t).2 ∧ Mod (Foot gj g b rp) w w' ∧ NewOr rp rp' w) := by
  have hn2 := ok.s.n2
  have hk := ok.k
  have hlk := ok.l
  refine journal_Journal_Append_calls _ _ _ _ ?_
  refine allocK fun w1 rb s1 z1 => allocK fun w2 rr s2 z2 => ?_
  have rb2 := rb.still s2
  have s02 := s1.trans s2
  have modF : ∀ {w' : World}, Still w w' → Mod (Foot gj g b rp) w w' := fun h => h.weaken fun _ h => h.elim
  have ftW : ∀ {n}, Foot gj g b rp n → n < w.heap.size := fun hf => (h.foot hf).2
  refine bsel_of (fun hx => ?_) (fun hx => ?_)
  · have hx : 100000 < t.length := by have := of_decide_eq_true hx; omega
    refine stK (g := w1.heap.size) (o := 0) rr (by simp) (by simp [Value.oneCell']) fun w3 r3 m3 z3 => ?_
    simp only [ovw, List.set_cons_zero] at r3
    have e : j.append t = (2, j) := by unfold Js.append; rw [if_pos hx]
    rw [e]
    have s03 : Still w w3 := Mod.trans s02 m3 (fun _ h => h) (fun i hi e => by have := s1.size; omega)
    exact ⟨_, r3.lget rfl, rfl, rp, h.still s03, modF s03, NewOr.refl _ _⟩
  have htl : t.length ≤ 100000 := by have := of_decide_eq_false hx; omega
  have hc := cnt_le htl
  have s2D := s02.toDrew
  refine ⟨fun wq => Still w2 wq, (Still.refl w2).toDrew, _, fun wq hq => (rb2.still hq).lget rfl, _, fun wq hq => (h.still (s02.trans hq)).next, _, fun wq hq => (rb2.still hq).lget rfl, _, fun wq hq => (h.still (s02.trans hq)).devPtr, (sectors_spec t.length (by omega)).mono ?_⟩
  rintro _ w4 ⟨rfl, rfl⟩
  refine .inl ⟨_, rfl, (Still.refl w2).toDrew, (device_Size_spec (h.still s2D).dev).mono ?_⟩
  rintro _ w5 ⟨rfl, rfl⟩
  refine .inl ⟨_, rfl, (Still.refl w2).toDrew, ?_⟩
  rw [wrap_i64 (by omega) (by omega)]
  have rr5 := rr.still (Still.refl w2).toDrew
  refine bsel_of (fun hx => ?_) (fun hx => ?_)
  · have hx : j.s.n ≤ j.k + cnt t.length := by have := of_decide_eq_true hx; omega
    refine stK (g := w1.heap.size) (o := 0) rr5 (by simp) (by simp [Value.oneCell']) fun w3 r3 m3 z3 => ?_
    simp only [ovw, List.set_cons_zero] at r3
    have e : j.append t = (12, j) := by unfold Js.append; rw [if_neg (by omega), if_pos hx]
    rw [e]
    have s03 : Still w w3 := Mod.trans s2D m3 (fun _ h => h) (fun i hi e => by have := s1.size; omega)
    exact ⟨_, r3.lget rfl, rfl, rp, h.still s03, modF s03, NewOr.refl _ _⟩
  have hfit : j.k + cnt t.length < j.s.n := by have := of_decide_eq_false hx; omega
  have eapp : j.append t = if (runW j.s (j.wrs t)).1 = 0 then (0, ⟨(runW j.s (j.wrs t)).2, j.l ++ [t], j.k + 1 + cnt t.length⟩) else ((runW j.s (j.wrs t)).1, ⟨(runW j.s (j.wrs t)).2, j.l, j.k⟩) := by
    unfold Js.append
    rw [if_neg (by omega), if_neg (by omega)]
  have rb5 := rb2.still (Still.refl w2).toDrew
  generalize hwd : w2.drew = wd at *
  have zd : wd.heap.size = w2.heap.size := by rw [← hwd]; rfl
  refine ⟨_, rb5.lget rfl, mkWrites_spec.mono ?_⟩
  rintro _ w7 ⟨rfl, c1, c2, s7, z7⟩
  have s07 := s2D.trans s7
  have z1' := z1
  refine .inl ⟨_, rfl, rfl, calleeK_mk (g := fn_journal_Journal_writes_1) (first := []) (cap := [.pointer (some ⟨wd.heap.size, 0, none⟩), .pointer (some ⟨wd.heap.size + 1, 0, none⟩)]) ?_⟩
  refine bsel_of (fun _ => ?_) (fun h => absurd h (by rw [show callable Tryz.prog fn_journal_Journal_writes_1 = true by kernel_rfl]; decide))
  intro rec hst hpd hY
  have sA : Still w7 ((w7.alloc (.deferred (some []))).alloc (.loop rec)) := ((Mod.refl _ _).alloc _).alloc _
  generalize hW : (w7.alloc (.deferred (some []))).alloc (.loop rec) = W at *
  have zW : W.heap.size = w7.heap.size + 2 := by rw [← hW]; simp
  have s0W := s07.trans sA
  let Own : World → Prop := fun w' => Row w' wd.heap.size 29 ⟨[.pointer (some ⟨gj, 0, none⟩)]⟩ ∧ Row w' (wd.heap.size + 1) 9 ⟨[.string (S t)]⟩ ∧ Row w' w.heap.size 29 ⟨[.pointer (some ⟨gj, 0, none⟩)]⟩ ∧
    w'.heap[w7.heap.size]? = some (.deferred (some [])) ∧ Mod (Foot gj g b rp) w w'
  have hne : ∀ {n}, Foot gj g b rp n → n ≠ w1.heap.size ∧ n ≠ w7.heap.size + 1 ∧ n < w.heap.size := fun hf => by have := ftW hf; exact ⟨by omega, by omega, this⟩
  have keepO : ∀ {wa wb : World} {T : Nat → Prop}, Own wa → Mod T wa wb → (∀ n, T n → Foot gj g b rp n ∨ n = w1.heap.size ∨ n = w7.heap.size + 1 ∨ W.heap.size ≤ n) → Own wb := by
    rintro wa wb T ⟨o1, o2, o3, o4, o5⟩ hm hT
    have no : ∀ {n}, w.heap.size ≤ n → n ≠ w1.heap.size → n ≠ w7.heap.size + 1 → n < W.heap.size → ¬ T n := fun h1 h2 h3 h4 h => by
      rcases hT _ h with e | e | e | e
      · have := ftW e; omega
      · exact h2 e
      · exact h3 e
      · omega
    refine ⟨o1.mod hm (no (by omega) (by omega) (by omega) (by omega)), o2.mod hm (no (by omega) (by omega) (by omega) (by omega)), o3.mod hm (no (by omega) (by omega) (by omega) (by omega)), heap_mod o4 hm (no (by omega) (by omega) (by omega) (by omega)), Mod.trans o5 hm (fun _ h => h) (fun i hi hk => ?_)⟩
    rcases hT _ hk with e | e | e | e
    · exact e
    · omega
    · omega
    · omega
  let I : Nat → World → Prop := fun i w' => ∃ s', runW j.s (j.wrs t) = runW s' ((j.wrs t).drop i) ∧ s'.Ok ∧ s'.n = j.s.n ∧ Jr w0 w' gj g b rp ⟨s', j.l, j.k⟩ ∧ Own w' ∧ Row w' w1.heap.size 27 ⟨[.int .i64 0]⟩ ∧ w'.heap[w7.heap.size + 1]? = some (.loop rec)
  let F : World → Prop := fun w' => (runW j.s (j.wrs t)).1 ≠ 0 ∧ Jr w0 w' gj g b rp ⟨(runW j.s (j.wrs t)).2, j.l, j.k⟩ ∧ Own w' ∧ Row w' w1.heap.size 27 ⟨[.int .i64 (runW j.s (j.wrs t)).1]⟩ ∧ w'.heap[w7.heap.size + 1]? = some (doneL rec .ret)
  have hstart : I 0 W := by
    refine ⟨j.s, rfl, ok.s, rfl, h.still s0W, ⟨c1.still sA, c2.still sA, (rb5.still s7).still sA, ?_, modF s0W⟩, (rr5.still s7).still sA, ?_⟩
    · rw [← hW, Below.heap_alloc _ _ _ (by simp)]
      exact World.alloc_heap_new _ _
    · have := World.alloc_heap_new (w7.alloc (.deferred (some []))) (.loop rec)
      rw [World.size_alloc, hW] at this
      exact this
  have newT : ∀ {n}, W.heap.size ≤ n → Foot gj g b rp n ∨ n = w1.heap.size ∨ n = w7.heap.size + 1 ∨ W.heap.size ≤ n := fun h => .inr (.inr (.inr h))
  refine Calls.mono (writes_spec (w := W) (k := w7.heap.size + 1) (gj := gj) (g := g) (b := b) (gb1 := wd.heap.size) (gb2 := wd.heap.size + 1) (j := j) (t := t) he ok htl hfit I F hstart ?_ ?_ ?_ ?_) ?_
  · rintro i wa ⟨s', _, _, hsn, J, ho, _, _⟩
    obtain ⟨p, c, t1, _⟩ := J.top
    exact ⟨ho.1, ho.2.1, ⟨p, c, t1⟩, ⟨s', J.dev, hsn⟩, h.stays h0 ho.2.2.2.2⟩
  · rintro i wa wb ⟨s', e1, e2, e3, J, ho, hr, hl⟩ hm
    exact ⟨s', e1, e2, e3, J.mod hm (fun n hf => by have := ftW hf; omega), keepO ho hm fun n hn => newT hn, hr.mod hm (by omega), heap_mod hl hm (by omega)⟩
  · rintro wa wb ⟨e1, J, ho, hr, hl⟩ hm
    exact ⟨e1, J.mod hm (fun n hf => by have := ftW hf; omega), keepO ho hm fun n hn => newT hn, hr.mod hm (by omega), heap_mod hl hm (by omega)⟩
  · rintro i ⟨kx, tx⟩ wa hx ⟨s', e1, e2, e3, J, ho, hr, hl⟩
    have mp : Mod (fun n => n = w7.heap.size + 1) wa (wa.putObj (w7.heap.size + 1) (busyL rec)) := mput _ _ _
    refine hY _ _ wa _ hl ⟨rfl, hl, letIn ?_⟩
    have hb2 : (wa.putObj (w7.heap.size + 1) (busyL rec)).heap[w7.heap.size + 1]? = some (busyL rec) := World.putObj_heap_same (heap_lt hl)
    generalize hwb : wa.putObj (w7.heap.size + 1) (busyL rec) = wb at *
    have ho2 := keepO ho mp (fun n hn => .inr (.inr (.inl hn)))
    have J2 := J.mod mp (fun n hf e => (hne hf).2.1 e)
    have hr2 := hr.mod mp (by omega)
    refine ⟨_, ho2.2.2.1.lget rfl, _, J2.devPtr, (device_Write_spec J2.dev e2 kx tx).mono ?_⟩
    rintro _ wc ⟨rfl, mc, dc⟩
    have mcF : ∀ n, (n = g ∨ n = b) → Foot gj g b rp n := fun n hn => hn.elim .inl fun h => .inr (.inl h)
    have ho3 := keepO ho2 mc (fun n hn => .inl (mcF n hn))
    obtain ⟨hw1, hw2⟩ := write_ok e2 kx tx
    obtain ⟨p, c, t1, t2, t3⟩ := J2.top
    have J3 : Jr w0 wc gj g b rp ⟨(s'.write kx tx).2, j.l, j.k⟩ := by
      refine ⟨dc, ⟨p, c, t1.mod mc (fun e => e.elim (fun e => t1.ne J2.dev.top (by decide) e) (fun e => t1.ne J2.dev.bytes (by decide) e)), t2.mod mc (fun k hk e => ?_), t3⟩, h.low⟩
      obtain ⟨cur, hrr⟩ := t2.typed hk
      exact e.elim (fun e => hrr.ne J2.dev.top (by decide) e) (fun e => hrr.ne J2.dev.bytes (by decide) e)
    have noF : ∀ {n}, w.heap.size ≤ n → ¬ (n = g ∨ n = b) := fun h1 h2 => by have := ftW (mcF _ h2); omega
    have hb3 := heap_mod hb2 mc (noF (by omega))
    have hr3 := hr2.mod mc (noF (by omega))
    have hd := drop_at hx
    have erun : runW j.s (j.wrs t) = if (s'.write kx tx).1 = 0 then runW (s'.write kx tx).2 ((j.wrs t).drop (i + 1)) else s'.write kx tx := by
      rw [e1, hd]
      rfl
    have mac : Mod (fun n => n < W.heap.size) wa wc := Mod.trans mp mc (fun n hn => by rw [hn]; omega) (fun n _ hn => by have := ftW (mcF n hn); omega)
    refine .inl ⟨_, rfl, bsel_of (fun hz => ?_) (fun hz => ?_)⟩
    · have hz : ¬ (s'.write kx tx).1 = 0 := by simpa using hz
      rw [if_neg hz] at erun
      refine stK (g := w1.heap.size) (o := 0) hr3 (by simp) (by simp [Value.oneCell']) fun we r5 m5 z5 => ?_
      simp only [ovw, List.set_cons_zero] at r5
      have hb5 := heap_mod hb3 m5 (by omega)
      have J5 := J3.mod m5 (fun n hf e => (hne hf).1 e)
      have ho5 := keepO ho3 m5 (fun n hn => .inr (.inl hn))
      have mq := mput we (w7.heap.size + 1) (doneL rec .ret)
      refine ⟨hb5, ⟨false, rfl, fun h => (by cases h), fun _ => ⟨by rw [erun]; exact hz, by rw [erun]; exact J5.mod mq (fun n hf e => (hne hf).2.1 e), keepO ho5 mq (fun n hn => .inr (.inr (.inl hn))), by rw [erun]; exact r5.mod mq (by omega), World.putObj_heap_same (heap_lt hb5)⟩⟩, ?_⟩
      exact Mod.trans (Mod.trans mac m5 (U := fun n => n < W.heap.size) (fun _ h => h) (fun n _ hn => by rw [hn]; omega)) mq (fun _ h => h) (fun n _ hn => by rw [hn]; omega)
    · have hz : (s'.write kx tx).1 = 0 := by simpa using hz
      rw [if_pos hz] at erun
      have mq := mput wc (w7.heap.size + 1) (.loop rec)
      refine ⟨hb3, ⟨true, rfl, fun _ => ⟨(s'.write kx tx).2, erun, hw1, hw2.trans e3, J3.mod mq (fun n hf e => (hne hf).2.1 e), keepO ho3 mq (fun n hn => .inr (.inr (.inl hn))), hr3.mod mq (by omega), World.putObj_heap_same (heap_lt hb3)⟩, fun h => (by cases h)⟩, ?_⟩
      exact Mod.trans mac mq (fun _ h => h) (fun n _ hn => by rw [hn]; omega)
  · rintro _ w9 ⟨rfl, h9⟩
    refine ⟨⟨_, rfl⟩, ?_⟩
    rcases h9 with ⟨s', e1, e2, e3, J, ho, hr, hl⟩ | ⟨hz, J, ho, hr, hl⟩
    · refine .inl ⟨hl, ?_⟩
      have mq := mput w9 (w7.heap.size + 1) (.loop { rec with state := .exhausted })
      generalize hwq : w9.putObj (w7.heap.size + 1) (.loop { rec with state := .exhausted }) = wq at *
      have ho2 := keepO ho mq (fun n hn => .inr (.inr (.inl hn)))
      have J2 := J.mod mq (fun n hf e => (hne hf).2.1 e)
      have hr2 := hr.mod mq (by omega)
      refine ⟨_, ho2.2.2.1.lget rfl, letIn ?_⟩
      refine (jadd_spec (h.stays h0 ho2.2.2.2.2) J2 (by dsimp only; omega) (by dsimp only; omega) t htl).mono ?_
      rintro _ wr ⟨rfl, rp', J3, m3, n3⟩
      have ho3 := keepO ho2 m3 (fun n hn => .inl hn.foot)
      have hr3 := hr2.mod m3 (fun hf => by have := (hne hf.foot).1; omega)
      refine .inl ⟨rfl, stK (g := w1.heap.size) (o := 0) hr3 (by simp) (by simp [Value.oneCell']) fun wt r5 m5 z5 => ?_⟩
      simp only [ovw, List.set_cons_zero] at r5
      have ho5 := keepO ho3 m5 (fun n hn => .inr (.inl hn))
      have hzq : wq.heap.size = w9.heap.size := by rw [← hwq]; simp
      have z9 : w7.heap.size + 1 < w9.heap.size := heap_lt hl
      have ftN : ∀ {n}, Foot gj g b rp' n → n < w.heap.size ∨ w9.heap.size ≤ n := fun hf => by
        rcases hf with rfl | rfl | rfl | hf
        · exact .inl (ftW (.inl rfl))
        · exact .inl (ftW (.inr (.inl rfl)))
        · exact .inl (ftW (.inr (.inr (.inl rfl))))
        · rcases n3 _ hf with e | e
          · exact .inl (ftW (.inr (.inr (.inr e))))
          · exact .inr (by omega)
      have J5 := J3.mod m5 (fun n hf e => by rcases ftN hf with h1 | h1 <;> omega)
      have md := mput wt w7.heap.size (.deferred none)
      refine ⟨ho5.2.2.2.1, _, (r5.mod md (by omega)).lget rfl, ?_⟩
      have erun : runW j.s (j.wrs t) = (0, s') := by
        rw [e1, List.drop_length]
        rfl
      rw [eapp, erun, if_pos rfl]
      refine ⟨rfl, rp', J5.mod md (fun n hf e => by rcases ftN hf with h1 | h1 <;> omega), Mod.trans ho5.2.2.2.2 md (fun _ h => h) (fun i hi e => by omega), fun n hn => ?_⟩
      rcases n3 n hn with e | e
      · exact .inl e
      · exact .inr (by omega)
    · refine .inr (.inl ⟨hl, ?_⟩)
      have mq := mput w9 (w7.heap.size + 1) (.loop { rec with state := .exhausted, pending := some .ret })
      generalize hwq : w9.putObj (w7.heap.size + 1) (.loop { rec with state := .exhausted, pending := some .ret }) = wq at *
      have ho2 := keepO ho mq (fun n hn => .inr (.inr (.inl hn)))
      have J2 := J.mod mq (fun n hf e => (hne hf).2.1 e)
      have hr2 := hr.mod mq (by omega)
      have md := mput wq w7.heap.size (.deferred none)
      refine ⟨ho2.2.2.2.1, _, (hr2.mod md (by omega)).lget rfl, ?_⟩
      rw [eapp, if_neg hz]
      exact ⟨rfl, rp, J2.mod md (fun n hf e => by have := ftW hf; omega), Mod.trans ho2.2.2.2.2 md (fun _ h => h) (fun i hi e => by omega), NewOr.refl _ _⟩
end Go.Proofs.YtddkalfffhkkkaaGreatDoor
namespace Go.Proofs.YtddkalfffhkkkaaGreatDoor
open Go.RowKit Vc
theorem one_len {x : Txt} (h : x.length ≤ 9) : (one x).length = x.length + 3 := by
  simp only [one, List.length_append, List.length_cons, List.length_nil, dec_small (show x.length < 10 by omega)]
  omega
theorem hd_len {m : UInt8} {n : Nat} {t : Txt} (hn : n ≤ 5000) (ht : t.length ≤ 100000) : (hd m n t).length ≤ 64 := by
  have h1 := dec_len9 (n := n) (by omega)
  have h2 := dec_len9 (n := t.length) (by omega)
  have h3 : (one ((sha t).take 16)).length = 20 := by
    have : ((sha t).take 16).length = 16 := by rw [List.length_take, sha_len]; rfl
    have h16 : (dec 16).length = 2 := by rw [dec_step (by decide), dec_small (by decide)]; rfl
    simp only [one, List.length_append, List.length_cons, List.length_nil, this, h16]
  have e : hd m n t = m :: (one (dec n) ++ (one (dec t.length) ++ (one ((sha t).take 16) ++ []))) := by simp [hd, encode]
  rw [e]
  simp only [List.length_cons, List.length_append, one_len h1, one_len h2, h3, List.length_nil]
  omega
theorem hd_last {m : UInt8} {n : Nat} {t : Txt} : ∃ r, hd m n t = r ++ [44] := by
  refine ⟨m :: (one (dec n) ++ (one (dec t.length) ++ (dec ((sha t).take 16).length ++ [58] ++ (sha t).take 16))), ?_⟩
  simp [hd, encode, one]
theorem trimZ_zeros {x : Txt} (h : ∃ r, x = r ++ [44]) (n : Nat) : trimZ (x ++ List.replicate n 0) = x := by
  obtain ⟨r, rfl⟩ := h
  have := Lib.trimRightB_take (r ++ [44] ++ List.replicate n 0) 0 (r ++ [44]).length (by simp) (fun j b hj hb => by
    rw [List.getElem?_append_right hj] at hb
    exact (List.mem_replicate.1 (List.mem_of_getElem? hb)).2) (fun b _ hb => by
    rw [List.getElem?_append_left (by simp)] at hb
    simp at hb
    rw [← hb]
    decide)
  unfold trimZ
  rw [this, List.take_left]
theorem takeWhile_zero : ∀ (l : Txt) (b : UInt8), b ∈ l.takeWhile (· == (0 : UInt8)) → b = 0
  | [], _, h => by cases h
  | a :: l, b, h => by
    rw [List.takeWhile_cons] at h
    split at h
    · rename_i ha
      rcases List.mem_cons.1 h with rfl | h
      · simpa using ha
      · exact takeWhile_zero l b h
    · cases h
theorem trimZ_form (s : Txt) : ∃ n, s = trimZ s ++ List.replicate n 0 := by
  have h := List.takeWhile_append_dropWhile (p := (· == (0 : UInt8))) (l := s.reverse)
  refine ⟨(s.reverse.takeWhile (· == (0 : UInt8))).length, ?_⟩
  have h2 : s.reverse.takeWhile (· == (0 : UInt8)) = List.replicate (s.reverse.takeWhile (· == (0 : UInt8))).length 0 := List.eq_replicate_iff.2 ⟨rfl, fun b hb => takeWhile_zero _ b hb⟩
  have h3 := congrArg List.reverse h
  rw [List.reverse_append, List.reverse_reverse] at h3
  conv => lhs; rw [← h3]
  unfold trimZ Lib.trimRightB
  conv => lhs; rw [h2]
  rw [List.reverse_replicate]
def pad (x : Txt) : Txt := x ++ List.replicate (64 - x.length) 0
theorem pad_iff {x r : Txt} (hx : ∃ y, x = y ++ [44]) (hl : x.length ≤ 64) (hr : r.length = 64) : pad x = r ↔ x = trimZ r := by
  constructor
  · rintro rfl
    exact (trimZ_zeros hx _).symm
  · intro h
    obtain ⟨n, hn⟩ := trimZ_form r
    rw [← h] at hn
    have hlen := congrArg List.length hn
    rw [List.length_append, List.length_replicate, hr] at hlen
    unfold pad
    rw [hn]
    congr 2
    omega
theorem rowF_pad (x : Txt) (h : x.length ≤ 64) : rowF (fun i => x.getD i 0) 0 64 = pad x := by
  apply List.ext_getElem?
  intro i
  unfold pad
  by_cases hi : i < 64
  · rw [rowF_get hi, Nat.zero_add]
    by_cases hx : i < x.length
    · rw [List.getElem?_append_left hx, List.getElem?_eq_getElem hx]
      simp [List.getD_eq_getElem?_getD, hx]
    · rw [List.getElem?_append_right (by omega)]
      simp [List.getD_eq_getElem?_getD, List.getElem?_eq_none (Nat.le_of_not_lt hx), show i - x.length < 64 - x.length by omega]
  · rw [List.getElem?_eq_none (by simp; omega), List.getElem?_eq_none (by simp; omega)]
theorem append_run {j : Js} {t : Txt} (ht : t.length ≤ 100000) (hf : j.k + cnt t.length < j.s.n) {x : Int} {s' : St} (hr : runW j.s (wrs j.s j.k j.l.length t) = (x, s')) :
    j.append t = if x = 0 then (0, ⟨s', j.l ++ [t], j.k + 1 + cnt t.length⟩) else (x, ⟨s', j.l, j.k⟩) := by
  unfold Js.append
  rw [if_neg (by omega), if_neg (by omega)]
  simp only [hr]
end Go.Proofs.YtddkalfffhkkkaaGreatDoor
namespace Go.Proofs.YtddkalfffhkkkaaGreatDoor
open Go.RowKit Vc
variable {w w0 : World}
theorem sha_a : sha [97] = [99, 97, 57, 55, 56, 49, 49, 50, 99, 97, 49, 98, 98, 100, 99, 97, 102, 97, 99, 50, 51, 49, 98, 51, 57, 97, 50, 51, 100, 99, 52, 100, 97, 55, 56, 54, 101, 102, 102, 56, 49, 52, 55, 99, 52, 101, 55, 50, 98, 57, 56, 48, 55, 55, 56, 53, 97, 102, 101, 101, 52, 56, 98, 98] := by kernel_rfl
theorem opened_new (n : Nat) (h : 0 < n) : Js.opened (St.new n) = ⟨St.new n, [], 0⟩ := by
  have hs : sec (St.new n) 0 = List.replicate 64 0 := by
    unfold sec
    rw [if_pos (show 0 < (St.new n).n from h)]
    exact List.eq_replicate_iff.2 ⟨rfl, fun b hb => by
      simp only [rowF, List.mem_map] at hb
      obtain ⟨_, _, rfl⟩ := hb
      rfl⟩
  have hr : readR (St.new n) 0 0 = none := by
    unfold readR sizeR
    rw [hs]
    rfl
  have ho : openR (St.new n) = ([], 0) := by
    show openF (n + 1) (St.new n) [] 0 = _
    simp only [openF, List.length_nil, hr]
  unfold Js.opened
  rw [ho]
theorem write_endless {s : St} (he : s.e = true) {k : Nat} (hk : k < s.n) {x : Txt} (hx : x.length ≤ 64) : s.write (k : Int) x = (0, s.put k fun i => x.getD i 0) := by
  unfold St.write
  rw [if_pos ⟨by omega, by omega, hx⟩, if_pos he, Int.toNat_natCast]
theorem new_ok {n : Nat} (h1 : 1 ≤ n) (h2 : n ≤ 4096) : (St.new n).Ok := ⟨h1, h2, Int.le_refl _, (by decide : (0 : Int) < 9223372036854775808), Int.le_refl _, (by decide : (0 : Int) < 18446744073709551616)⟩
theorem awake_run : ∃ s', (⟨St.new 5, [], 0⟩ : Js).append [97] = (0, ⟨s', [[97]], 2⟩) ∧ sec s' 0 = pad (hd 49 0 [97]) := by
  have h48 : (hd 48 0 [97]).length ≤ 64 := hd_len (by decide) (by decide)
  have h49 : (hd 49 0 [97]).length ≤ 64 := hd_len (by decide) (by decide)
  have hw : wrs (St.new 5) 0 0 [97] = [(2, []), (0, hd 48 0 [97]), (1, [97]), (0, hd 49 0 [97])] := rfl
  have e1 : (St.new 5).write ((2 : Nat) : Int) [] = (0, (St.new 5).put 2 fun i => ([] : Txt).getD i 0) := write_endless rfl (by decide) (by decide)
  have e2 : ((St.new 5).put 2 fun i => ([] : Txt).getD i 0).write ((0 : Nat) : Int) (hd 48 0 [97]) = _ := write_endless rfl (by decide) h48
  have e3 : (((St.new 5).put 2 fun i => ([] : Txt).getD i 0).put 0 fun i => (hd 48 0 [97]).getD i 0).write ((1 : Nat) : Int) [97] = _ := write_endless rfl (by decide) (by decide)
  have e4 : ((((St.new 5).put 2 fun i => ([] : Txt).getD i 0).put 0 fun i => (hd 48 0 [97]).getD i 0).put 1 fun i => ([97] : Txt).getD i 0).write ((0 : Nat) : Int) (hd 49 0 [97]) = _ := write_endless rfl (by decide) h49
  have hr : runW (St.new 5) (wrs (St.new 5) 0 0 [97]) = (0, ((((St.new 5).put 2 fun i => ([] : Txt).getD i 0).put 0 fun i => (hd 48 0 [97]).getD i 0).put 1 fun i => ([97] : Txt).getD i 0).put 0 fun i => (hd 49 0 [97]).getD i 0) := by
    rw [hw]
    simp only [runW, e1, e2, e3, e4, if_true]
  refine ⟨((((St.new 5).put 2 fun i => ([] : Txt).getD i 0).put 0 fun i => (hd 48 0 [97]).getD i 0).put 1 fun i => ([97] : Txt).getD i 0).put 0 fun i => (hd 49 0 [97]).getD i 0, ?_, ?_⟩
  · have := append_run (j := ⟨St.new 5, [], 0⟩) (t := [97]) (by decide) (by decide) hr
    rw [this, if_pos rfl]
    rfl
  · unfold sec
    rw [if_pos (by decide)]
    rw [rowF_put_here, rowF_pad _ h49]
theorem awake4_spec (he : Env w0) (h0 : Still w0 w) : Calls Tryz.prog fn_law04_awake #[] w (fun e w' => e = .returned (.bool true) ∧ Still w w') := by
  refine law04_awake_calls _ _ ?_
  refine (device_New_spec (n := 5) (by decide) (by decide)).mono ?_
  rintro _ w1 ⟨g, b, rfl, m1, hg, hb, d1⟩
  have s1 : Still w w1 := m1
  have hz := h0.size
  refine .inl ⟨_, _, rfl, bsel_of (fun h => by cases h) (fun _ => ?_)⟩
  refine (jopen_spec he (h0.trans s1) d1 (new_ok (by decide) (by decide)) (by omega) (by omega)).mono ?_
  rintro _ w2 ⟨gj, rp, rfl, s2, hgj, hrp, J2⟩
  rw [show Int.toNat 5 = 5 from rfl, opened_new 5 (by decide)] at J2
  refine .inl ⟨_, rfl, bsel_of (fun h => by cases h) (fun _ => ?_)⟩
  have ok5 : (⟨St.new 5, [], 0⟩ : Js).Ok := ⟨new_ok (by decide) (by decide), by decide, Nat.le_refl _⟩
  refine (jappend_spec he ((h0.trans s1).trans s2) J2 ok5 [97]).mono ?_
  rintro _ w3 ⟨rfl, rp3, J3, m3, n3⟩
  obtain ⟨s', ha, hsec⟩ := awake_run
  rw [ha] at J3 ⊢
  have s13 : Still w w3 := Mod.trans (s1.trans s2) m3 (fun _ h => h) (fun i hi hk => by
    rcases hk with rfl | rfl | rfl | hk
    · omega
    · omega
    · have := s1.size; omega
    · rcases hrp _ hk with e | e
      · cases e
      · have := s1.size; omega)
  refine .inl ⟨_, rfl, (read_sec J3.dev 0).mono ?_⟩
  rintro _ w4 ⟨⟨x, rfl⟩, rfl⟩
  rw [hsec]
  refine .inl ⟨_, _, rfl, bsel_of (fun _ => ?_) (fun h => by cases h)⟩
  have hpl : (pad (hd 49 0 [97])).length = 64 := by
    have := hd_len (m := 49) (n := 0) (t := [97]) (by decide) (by decide)
    unfold pad
    rw [List.length_append, List.length_replicate]
    omega
  refine bsel_of (fun _ => ?_) (fun h => by rw [hpl] at h; cases h)
  have htk : (pad (hd 49 0 [97])).take 28 = [49, 49, 58, 48, 44, 49, 58, 49, 44, 49, 54, 58, 99, 97, 57, 55, 56, 49, 49, 50, 99, 97, 49, 98, 98, 100, 99, 97] := by
    have d0 : dec 0 = [48] := dec_small (by decide)
    have d1 : dec 1 = [49] := dec_small (by decide)
    have l16 : ((sha [97]).take 16).length = 16 := by rw [List.length_take, sha_len]; rfl
    have d16 : dec 16 = [49, 54] := by
      rw [dec_step (by decide), dec_small (by decide)]
      rfl
    have e : hd 49 0 [97] = [49, 49, 58, 48, 44, 49, 58, 49, 44, 49, 54, 58] ++ (sha [97]).take 16 ++ [44] := by
      simp [hd, encode, one, d0, d1, d16, sha_len]
    unfold pad
    rw [e, sha_a]
    rfl
  refine ⟨by decide, by rw [hpl]; decide, bsel_of (fun _ => ?_) (fun h => ?_)⟩
  · refine (jrecords_spec J3 (show 1 ≤ 5000 by decide)).mono ?_
    rintro _ w5 ⟨q, D, rfl, o5, s5⟩
    refine .inl ⟨_, _, _, rfl, allocK fun w6 r6 s6 z6 => ?_⟩
    refine (same_spec (la := [[97]]) (lb := [[97]]) ((StrsAt.of o5).still s6) (StrsAt.row (l := [[97]]) r6) (show 1 < 1000000000000000 by decide)).mono ?_
    rintro _ w7 ⟨rfl, s7⟩
    exact .inl ⟨_, rfl, rfl, ((s13.trans s5).trans s6).trans s7⟩
  · rw [show Int.toNat 28 = 28 from rfl, htk] at h
    cases h
theorem count_spec (n : Nat) (hn : n ≤ 1000000) : Calls Tryz.prog fn_ref04_count #[.int .i64 (n : Int)] w (fun e w' => e = .returned (.int .i64 (cnt n : Nat)) ∧ w' = w) := by
  refine ref04_count_calls _ _ _ ?_
  exact ⟨by decide, by rw [cnt_wrap n hn], rfl⟩
theorem rhead_spec (m : UInt8) (n : Nat) (t : Txt) (hn : n ≤ 5000) (ht : t.length ≤ 100000) :
    Calls Tryz.prog fn_ref04_head #[.string (S [m]), .int .i64 (n : Int), .string (S t)] w (fun e w' => e = .returned (.string (S (hd m n t))) ∧ Still w w') := by
  refine ref04_head_calls _ _ _ _ _ ?_
  refine (digits_spec n (by omega)).mono ?_
  rintro _ w1 ⟨rfl, s1⟩
  refine .inl ⟨_, rfl, (digits_spec t.length (by omega)).mono ?_⟩
  rintro _ w2 ⟨rfl, s2⟩
  refine .inl ⟨_, rfl, (ref_sum_spec t (by omega)).mono ?_⟩
  rintro _ w3 ⟨rfl, s3⟩
  have s03 := (s1.trans s2).trans s3
  refine .inl ⟨_, rfl, by decide, by rw [sha_len]; decide, allocK fun w4 r4 s4 z4 => ?_⟩
  refine (refencode_spec (ls := [dec n, dec t.length, (sha t).take 16]) (StrsAt.row (l := [dec n, dec t.length, (sha t).take 16]) r4) (hd_total n t hn ht)).mono ?_
  rintro _ w5 ⟨rfl, s5⟩
  have hl := encode_len (few_nine (hd_total n t hn ht))
  have hl2 := hd_total n t hn ht
  exact .inl ⟨_, rfl, by simp only [List.length_cons, List.length_nil]; omega, rfl, (s03.trans s4).trans s5⟩
theorem rpadded_spec (x : Txt) (hl : x.length ≤ 64) : Calls Tryz.prog fn_ref04_padded #[.string (S x)] w (fun e w' => e = .returned (.string (S (pad x))) ∧ Still w w') := by
  refine ref04_padded_calls _ _ _ ?_
  have e1 : IntKind.i64.wrap (64 - (x.length : Int)) = ((64 - x.length : Nat) : Int) := by rw [wrap_i64 (by omega) (by omega)]; omega
  unfold vc_ref04_padded
  rw [e1, Int.toNat_natCast, Nat.mul_one]
  refine ⟨by omega, by omega, by omega, by omega, ?_⟩
  rw [madeCells_zero _ (by intro v hv; simpa using hv) (by simp)]
  refine allocK fun w1 r1 s1 z1 => ⟨List.replicate (64 - x.length) 0, ⟨by simp, fun _ => ⟨_, rfl, fun i u hu => ?_⟩⟩, by simp; omega, rfl, s1⟩
  have hi : i < 64 - x.length := by have := (List.getElem?_eq_some_iff.1 hu).1; simpa using this
  rw [add_row, Nat.zero_add]
  refine r1.lget ?_
  rw [cellsF_get hi]
  obtain rfl := (List.mem_replicate.1 (List.mem_of_getElem? hu)).2
  rfl
structure Rj (w0 w : World) (hj h q : Nat) (rq : Option Nat) (j : Js) : Prop where
  dev : Ref w h q j.s
  top : ∃ p c, Row w hj ty_scullionref04_Journal ⟨[.pointer (some ⟨h, 0, none⟩), .slice p j.l.length c, .int .i64 (j.k : Int)]⟩ ∧ Owns w w0.heap.size ty_string 1 (.slice p j.l.length c) j.l.length (strs j.l) ∧ (Value.slice p j.l.length c).ownBlock = rq
  ne : rq ≠ some q
  low : w0.heap.size ≤ hj ∧ w0.heap.size ≤ h ∧ w0.heap.size ≤ q
section
variable {hj h q : Nat} {rq : Option Nat} {j : Js}
theorem Rj.mod {w' : World} {T : Nat → Prop} (d : Rj w0 w hj h q rq j) (hm : Mod T w w') (hT : ∀ k, Foot hj h q rq k → ¬ T k) : Rj w0 w' hj h q rq j := by
  obtain ⟨p, c, h1, h2, h3⟩ := d.top
  exact ⟨d.dev.mod hm (hT _ (.inl rfl)) (hT _ (.inr (.inl rfl))), ⟨p, c, h1.mod hm (hT _ (.inr (.inr (.inl rfl)))), h2.mod hm (fun k hk => hT k (.inr (.inr (.inr (h3.symm.trans hk))))), h3⟩, d.ne, d.low⟩
theorem Rj.still {w' : World} (d : Rj w0 w hj h q rq j) (hm : Still w w') : Rj w0 w' hj h q rq j := d.mod hm (fun _ _ h => h)
theorem Rj.drew (d : Rj w0 w hj h q rq j) : Rj w0 w.drew hj h q rq j := d.still (Still.refl w).toDrew
theorem Ref.lt {s : St} (d : Ref w h q s) : h < w.heap.size ∧ q < w.heap.size := by
  obtain ⟨⟨c, h1⟩, cur, h2, _⟩ := d
  exact ⟨h1.lt, h2.lt⟩
theorem Rj.foot (d : Rj w0 w hj h q rq j) {k : Nat} (hk : Foot hj h q rq k) : w0.heap.size ≤ k ∧ k < w.heap.size := by
  obtain ⟨p, c, h1, h2, h3⟩ := d.top
  rcases hk with rfl | rfl | rfl | hk
  · exact ⟨d.low.2.1, d.dev.lt.1⟩
  · exact ⟨d.low.2.2, d.dev.lt.2⟩
  · exact ⟨d.low.1, h1.lt⟩
  · exact h2.lt k (h3.trans hk)
theorem Rj.stays (d : Rj w0 w hj h q rq j) {w' : World} (h0 : Still w0 w) (hm : Mod (Foot hj h q rq) w w') : Still w0 w' := Mod.trans h0 hm (fun _ h => h) (fun i hi hk => by have := (d.foot hk).1; omega)
end
theorem trimZ_take {r : Txt} {k : Nat} (hk : k ≤ r.length) (h1 : ∀ (i : Nat) b, k ≤ i → r[i]? = some b → b = 0) (h2 : ∀ b, 0 < k → r[k - 1]? = some b → b ≠ 0) : trimZ r = r.take k := Lib.trimRightB_take r 0 k hk h1 h2
theorem rread_spec {h q : Nat} {s : St} (d : Ref w h q s) (ok : s.Ok) (k n : Nat) (hk : k ≤ s.n) (hn : n ≤ k) :
    Calls Tryz.prog fn_ref04_read #[.pointer (some ⟨h, 0, none⟩), .int .i64 (k : Int), .int .i64 (n : Int)] w (fun e w' => (∃ (t : Txt) (o : Bool), e = .returned (.tuple #[.string (S t), .bool o]) ∧ ReadAs (readR s k n) t o) ∧ Still w w') := by
  have hn2 := ok.n2
  refine ref04_read_calls _ _ _ _ _ ?_
  have bad : ∀ {w' : World}, readR s k n = none → Still w w' → (∃ (t : Txt) (o : Bool), (Ending.returned (.tuple #[.string (S []), .bool false])) = .returned (.tuple #[.string (S t), .bool o]) ∧ ReadAs (readR s k n) t o) ∧ Still w w' := by
    intro w' e hs
    exact ⟨⟨_, _, rfl, by unfold ReadAs; rw [e]⟩, hs⟩
  have none_of : sizeR (sec s k) = none → readR s k n = none := fun e => by unfold readR; rw [e]
  refine (ref_Read_spec d k).mono ?_
  rintro _ w1 ⟨rfl, rfl⟩
  by_cases hkn : k < s.n
  case neg =>
    rw [if_neg (by omega)]
    refine .inl ⟨_, _, rfl, bsel_of (fun _ => bad (none_of ?_) (Still.refl _)) (fun hx => by simp at hx)⟩
    unfold sec
    rw [if_neg hkn]
    rfl
  rw [if_pos ⟨by omega, by omega⟩, Int.toNat_natCast]
  have hsec : sec s k = rowF s.F (k * 64) 64 := if_pos hkn
  rw [← hsec]
  have hl64 : (sec s k).length = 64 := by rw [hsec, rowF_length]
  generalize hr : sec s k = r at *
  refine .inl ⟨_, _, rfl, bsel_of (fun hx => by simp at hx) (fun _ => ?_)⟩
  cases r with
  | nil => cases hl64
  | cons m0 r0 =>
  refine ⟨by decide, m0, rfl, bsel_of (fun hx => ?_) (fun hx => ?_)⟩
  · refine bad (none_of ?_) (Still.refl _)
    have hm : ¬ m0 = 49 := fun e => by rw [e] at hx; simp at hx
    unfold sizeR
    obtain ⟨z, hz⟩ := trimZ_form (m0 :: r0)
    cases ht : trimZ (m0 :: r0) with
    | nil => rfl
    | cons a x =>
      rw [ht] at hz
      injection hz with hz _
      dsimp only
      rw [if_neg (by rw [← hz]; exact hm)]
  have hm : m0 = 49 := by
    have : (m0.toNat : Int) = 49 := by simpa using hx
    exact byte_eq.1 this
  subst hm
  generalize hr' : (49 :: r0 : Txt) = r at *
  have hr0 : r[0]? = some 49 := by rw [← hr']; rfl
  refine ⟨fun x w2 => ∃ i : Nat, x = (i : Int) ∧ i ≤ r.length ∧ (∀ (a : Nat) b, i ≤ a → r[a]? = some b → b = 0) ∧ w2 = w1, fun x _ => x.toNat, ⟨r.length, rfl, Nat.le_refl _, fun a b ha hb => ?_, rfl⟩, ?_⟩
  · rw [List.getElem?_eq_none ha] at hb
    cases hb
  rintro _ _ w2 ⟨i, rfl, hi, hz, rfl⟩
  have hi0 : 0 < i := by
    rcases Nat.eq_zero_or_pos i with e | e
    · rw [e] at hz
      have := hz 0 49 (Nat.le_refl _) hr0
      cases this
    · exact e
  have ew : IntKind.i64.wrap ((i : Int) - 1) = ((i - 1 : Nat) : Int) := by rw [wrap_i64 (by omega) (by omega)]; omega
  obtain ⟨bl, hbl⟩ : ∃ bl, r[i - 1]? = some bl := ⟨_, getD_some (by omega)⟩
  refine ⟨fun x w3 => x = decide (bl = 0) ∧ w3 = w2, bsel_of (fun _ => ?_) (fun hx => by have := of_decide_eq_false hx; omega), ?_⟩
  · rw [ew]
    refine ⟨by omega, bl, by rw [Int.toNat_natCast]; exact hbl, ?_, rfl⟩
    congr 1
    rw [show (0 : Int) = ((0 : UInt8).toNat : Int) from rfl, eq_iff_iff]
    exact byte_eq
  rintro _ _ w3 ⟨rfl, rfl⟩
  refine bsel_of (fun hx => ?_) (fun hx => ?_)
  · have hb0 := of_decide_eq_true hx
    refine ⟨⟨i - 1, ew, by omega, fun a b ha hb => ?_, rfl⟩, ?_⟩
    · by_cases e : a = i - 1
      · rw [e, hbl] at hb
        rw [← Option.some.inj hb, hb0]
      · exact hz a b (by omega) hb
    · dsimp only
      rw [ew]
      omega
  have hb0 : bl ≠ 0 := of_decide_eq_false hx
  have htr : trimZ r = r.take i := trimZ_take hi hz (fun b _ hb => by rw [hbl] at hb; rw [← Option.some.inj hb]; exact hb0)
  have htail : (r.drop 1).take (i - 1) = (r.take i).drop 1 := by rw [List.drop_take]
  have e1 : Int.toNat (1 : Int) = 1 := rfl
  refine ⟨by decide, by omega, by omega, ?_⟩
  rw [Int.toNat_natCast, e1]
  have hsz : sizeR r = sizeD (decode ((r.drop 1).take (i - 1))) := by
    unfold sizeR
    rw [htr, htail]
    have : r.take i = 49 :: (r.take i).drop 1 := by
      rw [← hr']
      cases i with
      | zero => omega
      | succ i => rfl
    rw [this]
    simp
  refine (refdecode_spec ((r.drop 1).take (i - 1)) (by rw [List.length_take, List.length_drop]; omega)).mono ?_
  rintro _ w4 ⟨⟨p, nl, C, ek, rfl, l, hst, hek⟩, s4⟩
  have hdl : ((r.drop 1).take (i - 1)).length ≤ 64 := by rw [List.length_take, List.length_drop]; omega
  generalize (r.drop 1).take (i - 1) = x at *
  refine .inl ⟨_, _, _, _, rfl, bsel_of (fun hx => ?_) (fun hx => ?_)⟩
  · refine bad (none_of ?_) s4
    rcases hek with ⟨rfl, _⟩ | ⟨_, _, hdc⟩
    · simp at hx
    · rw [hsz, hdc]; rfl
  have hk0 : ek = 0 := by simpa using hx
  obtain ⟨_, hdc⟩ : ek = 0 ∧ decode x = some l := by
    rcases hek with h | ⟨h, _⟩
    · exact h
    · omega
  rw [hdc] at hsz
  refine bsel_of (fun hx => ?_) (fun hx => ?_)
  · refine bad (none_of ?_) s4
    have hne : ¬ (nl : Int) = 3 := by simpa using hx
    rw [hsz]
    unfold sizeD
    split
    · rename_i a b c e
      have := hst.1
      rw [Option.some.inj e] at this
      simp at this
      omega
    · rfl
  have hn3 : nl = 3 := by
    have : (nl : Int) = 3 := by simpa using hx
    omega
  subst hn3
  match l, hst.1 with
  | [_, b, _], _ =>
    obtain ⟨a, rfl, hc⟩ := hst.get (k := 1) (by decide)
    have hbl : b.length ≤ 1000000 := by
      have h1 := decode_total hdc
      simp only [total, List.map_cons, List.map_nil, List.sum_cons, List.sum_nil] at h1
      omega
    have hsz : sizeR r = sizeN (numR b) := hsz
    refine ⟨by decide, by decide, _, hc, (refnumber_spec b hbl).mono ?_⟩
    rintro _ w5 ⟨rfl, rfl⟩
    refine .inl ⟨_, rfl, ?_⟩
    cases hb : numR b with
    | none =>
      refine bsel_of (fun _ => bad (none_of ?_) s4) (fun hx => by simp at hx)
      rw [hsz, hb]
      rfl
    | some v =>
      rw [hb] at hsz
      refine bsel_of (fun hx => by have := of_decide_eq_true hx; dsimp only at this; omega) (fun _ => bsel_of (fun hx => ?_) (fun hx => ?_))
      · refine bad (none_of ?_) s4
        rw [hsz]
        exact if_neg (by have := of_decide_eq_true hx; dsimp only at this; omega)
      have hv : v ≤ 100000 := by have := of_decide_eq_false hx; dsimp only at this; omega
      have hsz : sizeR r = some v := by rw [hsz]; exact if_pos hv
      have hc := cnt_le hv
      dsimp only
      refine (count_spec v (by omega)).mono ?_
      rintro _ w6 ⟨rfl, rfl⟩
      have d6 := d.mod s4 (fun h => h) (fun h => h)
      refine .inl ⟨_, rfl, (ref_Size_spec d6).mono ?_⟩
      rintro _ w7 ⟨rfl, rfl⟩
      have ew2 : IntKind.i64.wrap (IntKind.i64.wrap ((k : Int) + 1) + ((cnt v : Nat) : Int)) = ((k + 1 + cnt v : Nat) : Int) := by rw [wrap_i64 (n := (k : Int) + 1) (by omega) (by omega), wrap_i64 (by omega) (by omega)]; omega
      rw [ew2]
      refine .inl ⟨_, rfl, bsel_of (fun hx => ?_) (fun hx => ?_)⟩
      · refine bad ?_ s4
        have := of_decide_eq_true hx
        unfold readR
        rw [hr, hsz]
        simp only
        rw [if_pos (by omega)]
      have hx : k + cnt v < s.n := by have := of_decide_eq_false hx; omega
      have hrd : readR s k n = if hd 49 n (rowF s.F ((k + 1) * 64) v) = trimZ r then some (rowF s.F ((k + 1) * 64) v) else none := by
        unfold readR
        rw [hr, hsz]
        simp only
        rw [if_neg (by omega)]
      refine ⟨fun t x w8 => ∃ i : Nat, x = (i : Int) ∧ i ≤ cnt v ∧ t = rowF s.F ((k + 1) * 64) (i * 64) ∧ w8 = w7, fun _ x _ => cnt v - x.toNat, ⟨0, rfl, Nat.zero_le _, rfl, rfl⟩, ?_⟩
      rintro _ _ _ w8 ⟨i, rfl, hi, rfl, rfl⟩
      refine (count_spec v (by omega)).mono ?_
      rintro _ w9 ⟨rfl, rfl⟩
      refine .inl ⟨_, rfl, bsel_of (fun hx => ?_) (fun hx => ?_)⟩
      · have hx : i < cnt v := by have := of_decide_eq_true hx; omega
        have ew3 : IntKind.i64.wrap (IntKind.i64.wrap ((k : Int) + 1) + (i : Int)) = ((k + 1 + i : Nat) : Int) := by rw [wrap_i64 (n := (k : Int) + 1) (by omega) (by omega), wrap_i64 (by omega) (by omega)]; omega
        rw [ew3]
        refine (ref_Read_spec d6 _).mono ?_
        rintro _ w10 ⟨rfl, rfl⟩
        rw [if_pos ⟨by omega, by omega⟩, Int.toNat_natCast]
        refine .inl ⟨_, _, rfl, by simp; omega, ⟨i + 1, by rw [wrap_i64 (by omega) (by omega)]; omega, hx, ?_, rfl⟩, ?_⟩
        · rw [show (k + 1 + i) * 64 = (k + 1) * 64 + i * 64 by omega, rowF_append, ← Nat.succ_mul]
        · dsimp only
          rw [wrap_i64 (by omega) (by omega)]
          omega
      · have hx : i = cnt v := by have := of_decide_eq_false hx; omega
        subst hx
        have hcn : v ≤ cnt v * 64 := by unfold cnt; omega
        refine ⟨by omega, by simp; omega, ?_⟩
        rw [Int.toNat_natCast, rowF_take _ _ hcn]
        refine (rhead_spec 49 n (rowF s.F ((k + 1) * 64) v) (by omega) (by simpa using hv)).mono ?_
        rintro _ w11 ⟨rfl, s11⟩
        refine .inl ⟨_, rfl, (rpadded_spec _ (hd_len (by omega) (by simpa using hv))).mono ?_⟩
        rintro _ w12 ⟨rfl, s12⟩
        refine .inl ⟨_, rfl, ⟨_, _, rfl, ?_⟩, (s4.trans s11).trans s12⟩
        have hpi := pad_iff (r := r) (hd_last (m := 49) (n := n) (t := rowF s.F ((k + 1) * 64) v)) (hd_len (by omega) (by simpa using hv)) hl64
        rw [hrd]
        unfold ReadAs
        by_cases hh : hd 49 n (rowF s.F ((k + 1) * 64) v) = trimZ r
        · rw [if_pos hh]
          exact ⟨rfl, decide_eq_true (hpi.2 hh)⟩
        · rw [if_neg hh]
          exact decide_eq_false (fun e => hh (hpi.1 e))
def rnextOf (gj : Nat) (w : World) : Nat := match w.cell? ⟨gj, 2, none⟩ with
  | some (.int _ n) => n.toNat
  | _ => 0
theorem ropen_spec {h q : Nat} {s : St} (h0 : Still w0 w) (d : Ref w h q s) (ok : s.Ok) (lg : w0.heap.size ≤ h) (lb : w0.heap.size ≤ q) :
    Calls Tryz.prog fn_ref04_Open #[.pointer (some ⟨h, 0, none⟩)] w (fun e w' => ∃ hj rq, e = .returned (.pointer (some ⟨hj, 0, none⟩)) ∧ Still w w' ∧ w.heap.size ≤ hj ∧ NewOr none rq w ∧ Rj w0 w' hj h q rq (Js.opened s)) := by
  have hn2 := ok.n2
  refine ref04_Open_calls _ _ _ ?_
  refine allocK fun w1 r1 s1 z1 => ?_
  refine ⟨fun w2 => ∃ l k rq f, Rj w0 w2 w.heap.size h q rq ⟨s, l, k⟩ ∧ Still w w2 ∧ NewOr none rq w ∧ openR s = openF f s l k ∧ s.n - k < f ∧ l.length ≤ k ∧ k ≤ s.n, fun w2 => s.n - rnextOf w.heap.size w2, ?_, ?_⟩
  · refine ⟨[], 0, none, s.n + 1, ⟨d.mod s1 (fun h => h) (fun h => h), ⟨none, 0, r1, Owns.nil _ _ _ _, rfl⟩, by simp, h0.size, lg, lb⟩, s1, NewOr.refl _ _, rfl, by omega, Nat.le_refl _, Nat.zero_le _⟩
  rintro _ w2 ⟨l, k, rq, f, J, s2, hn, hop, hf, hlk, hks⟩
  obtain ⟨p, c, t1, t2, t3⟩ := J.top
  have hnx : ∀ {wx : World}, Still w2 wx → wx.cell? ⟨w.heap.size, 2, none⟩ = some (.int .i64 (k : Int)) := fun hs => (t1.still hs).lget rfl
  have e2 : rnextOf w.heap.size w2 = k := by
    unfold rnextOf
    rw [hnx (Still.refl _)]
    rfl
  have s2D := (Still.refl w2).toDrew
  refine ⟨fun wq => Still w2 wq, s2D, _, fun wq hq => (t1.still hq).lget rfl, _, _, _, fun wq hq => (t1.still hq).lget rfl, (rread_spec (J.dev.mod s2D (fun h => h) (fun h => h)) ok k l.length hks hlk).mono ?_⟩
  rintro _ w3 ⟨⟨t, o, rfl, hr⟩, s3⟩
  have s3 := s2D.trans s3
  have J3 := J.still s3
  have s23 := s2.trans s3
  refine .inl ⟨_, _, rfl, ?_⟩
  cases f with
  | zero => omega
  | succ f =>
  simp only [openF] at hop
  unfold ReadAs at hr
  cases hrd : readR s k l.length with
  | none =>
    rw [hrd] at hr hop
    dsimp only at hr hop
    subst hr
    refine ⟨_, rq, rfl, s23, Nat.le_refl _, hn, ?_⟩
    unfold Js.opened
    rw [hop]
    exact J3
  | some t' =>
    rw [hrd] at hr hop
    obtain ⟨rfl, rfl⟩ := hr
    dsimp only at hop
    obtain ⟨hlt, htl⟩ := readR_some hrd
    have hc := cnt_le htl
    have t13 := t1.still s3
    have t23 := t2.still s3
    refine ⟨_, _, _, t13.lget rfl, push1b t23 (h0.trans s23).size (cs := [.string (S t)]) rfl (by simp [Value.oneCell']) (by dsimp only; omega) (by dsimp only; omega) fun p' c' w5 o5 m5 n5 => ?_⟩
    have hgt : ∀ n, (Value.slice p l.length c).ownBlock = some n → w.heap.size ≠ n := fun n hk => by
      obtain ⟨cur, hr⟩ := t23.typed hk
      exact t13.ne hr (by decide)
    have t15 := t13.mod m5 (fun e => hgt _ e rfl)
    have hgt2 : (Value.slice p' (l.length + 1) c').ownBlock ≠ some w.heap.size := fun e => by
      obtain ⟨cur, hr⟩ := o5.typed e
      exact t15.ne hr (by decide) rfl
    refine stK (g := w.heap.size) (o := 1) t15 (by simp) (by simp [Value.oneCell']) fun w6 r6 m6 z6 => ?_
    simp only [ovw, List.set_cons_succ, List.set_cons_zero] at r6
    have r6D : Row w6.drew w.heap.size ty_scullionref04_Journal _ := r6
    refine ⟨fun wq => Still w6 wq, (Still.refl w6).toDrew, _, fun wq hq => (r6.still hq).lget rfl, (count_spec t.length (by omega)).mono ?_⟩
    rintro _ w7 ⟨rfl, rfl⟩
    refine .inl ⟨_, rfl, (Still.refl w6).toDrew, stK (g := w.heap.size) (o := 2) r6D (by simp) (by simp [Value.oneCell']) fun w8 r8 m8 z8 => ?_⟩
    simp only [ovw, List.set_cons_succ, List.set_cons_zero] at r8
    have ew : IntKind.i64.wrap (IntKind.i64.wrap ((k : Int) + 1) + ((cnt t.length : Nat) : Int)) = ((k + 1 + cnt t.length : Nat) : Int) := by rw [wrap_i64 (n := (k : Int) + 1) (by omega) (by omega), wrap_i64 (by omega) (by omega)]; omega
    rw [ew] at r8
    have m58 : Mod (fun n => n = w.heap.size) w5 w8 := Mod.trans m6.drew m8 (fun _ h => h) (fun _ _ h => h)
    have m38 : Mod (fun n => rq = some n ∨ n = w.heap.size) w3 w8 := Mod.trans m5 m58 (fun n hk => .inl (t3.symm.trans hk)) (fun _ _ h => .inr h)
    have hlt := d.lt
    have s48 : Still w w8 := Mod.trans s23 m38 (fun _ h => h) (fun i hi hk => by
      rcases hk with hk | hk
      · rcases hn _ hk with e | e
        · cases e
        · omega
      · omega)
    refine ⟨⟨l ++ [t], k + 1 + cnt t.length, (Value.slice p' (l.length + 1) c').ownBlock, f, ⟨d.mod s48 (fun h => h) (fun h => h), ⟨p', c', ?_, ?_, by rw [List.length_append]; rfl⟩, ?_, J.low⟩, s48, ?_, hop, by omega, by simp; omega, by omega⟩, ?_⟩
    · rw [List.length_append]
      exact r8
    · have ho := o5.mod m58 (fun n hk => by rintro rfl; exact hgt2 hk)
      rw [List.length_append, strs_append]
      exact ho
    · intro e
      rcases n5 _ e with e2 | e2
      · exact J.ne (t3.symm.trans e2)
      · have := s23.size; omega
    · intro n hnn
      rcases n5 n hnn with e | e
      · exact hn n (t3.symm.trans e)
      · exact .inr (Nat.le_trans s23.size e)
    · dsimp only
      rw [e2]
      unfold rnextOf
      rw [show w8.cell? ⟨w.heap.size, 2, none⟩ = some (.int .i64 ((k + 1 + cnt t.length : Nat) : Int)) from r8.lget rfl]
      dsimp only
      rw [Int.toNat_natCast]
      omega
theorem rrecords_spec {hj h q : Nat} {rq : Option Nat} {j : Js} (d : Rj w0 w hj h q rq j) (hl : j.l.length ≤ 5000) :
    Calls Tryz.prog fn_ref04_Journal_Records #[.pointer (some ⟨hj, 0, none⟩)] w (fun e w' => ∃ p D, e = .returned (.slice p j.l.length D) ∧ Owns w' w.heap.size ty_string 1 (.slice p j.l.length D) j.l.length (strs j.l) ∧ Still w w') := by
  obtain ⟨p, c, t1, t2, t3⟩ := d.top
  refine ref04_Journal_Records_calls _ _ _ ?_
  refine ⟨_, _, _, t1.lget rfl, ?_⟩
  refine appK_push (Owns.nil w w.heap.size ty_string 1) (Nat.le_refl _) (strs j.l) (by rw [strs_length]; omega) (strs_one _) (At.own t2) (by omega) (by omega) fun q' D w2 o2 m2 _ => ?_
  simp only [Nat.zero_add, List.nil_append] at o2 ⊢
  exact ⟨q', D, rfl, o2, m2.weaken fun n hn => by cases hn⟩
theorem rclear_spec {hj h q : Nat} {rq : Option Nat} {j : Js} (d : Rj w0 w hj h q rq j) (ok : j.Ok) :
    Calls Tryz.prog fn_ref04_Journal_Clear #[.pointer (some ⟨hj, 0, none⟩)] w (fun e w' => e = .returned (.int .i64 j.clear.1) ∧ ∃ rq', Rj w0 w' hj h q rq' j.clear.2 ∧ Mod (Foot hj h q rq) w w' ∧ NewOr rq rq' w) := by
  obtain ⟨p, c, t1, t2, t3⟩ := d.top
  refine ref04_Journal_Clear_calls _ _ _ ?_
  refine ⟨_, t1.lget rfl, (ref_Write_spec d.dev ok.s 0 []).mono ?_⟩
  rintro _ w1 ⟨rfl, m1, d1⟩
  have hty : ¬ (hj = h ∨ hj = q) := by
    obtain ⟨⟨c', h1⟩, cur, h2, _⟩ := d.dev
    exact fun e => e.elim (fun e => t1.ne h1 (by decide) e) (fun e => t1.ne h2 (by decide) e)
  have t11 := t1.mod m1 hty
  have hm1 : Mod (Foot hj h q rq) w w1 := m1.weaken fun k hk => hk.elim .inl fun h => .inr (.inl h)
  refine .inl ⟨_, rfl, bsel_of (fun hx => ?_) (fun hx => ?_)⟩
  · have hx := of_decide_eq_true hx
    refine stK (g := hj) (o := 1) t11 (by simp) (by simp [Value.oneCell']) fun w2 r2 m2 z2 => ?_
    simp only [ovw, List.set_cons_succ, List.set_cons_zero] at r2
    refine stK (g := hj) (o := 2) r2 (by simp) (by simp [Value.oneCell']) fun w3 r3 m3 z3 => ?_
    simp only [ovw, List.set_cons_succ, List.set_cons_zero] at r3
    have m13 : Mod (fun k => k = hj) w1 w3 := Mod.trans m2 m3 (fun _ h => h) (fun _ _ h => h)
    have ec : j.clear = (0, ⟨(j.s.write 0 []).2, [], 0⟩) := by unfold Js.clear; rw [if_pos hx]
    rw [ec, hx]
    exact ⟨rfl, none, ⟨d1.mod m13 (fun e => hty (.inl e.symm)) (fun e => hty (.inr e.symm)), ⟨none, 0, r3, Owns.nil _ _ _ _, rfl⟩, by simp, d.low⟩, Mod.trans hm1 m13 (fun _ h => h) (fun _ _ h => .inr (.inr (.inl h))), NewOr.none _ _⟩
  · have hx := of_decide_eq_false hx
    have ec : j.clear = ((j.s.write 0 []).1, ⟨(j.s.write 0 []).2, j.l, j.k⟩) := by unfold Js.clear; rw [if_neg hx]
    rw [ec]
    refine ⟨rfl, rq, ⟨d1, ⟨p, c, t11, t2.mod m1 (fun k hk e => ?_), t3⟩, d.ne, d.low⟩, hm1, NewOr.refl _ _⟩
    obtain ⟨cur, hr⟩ := t2.typed hk
    rcases e with e | e
    · obtain ⟨⟨c', h1⟩, _⟩ := d.dev
      exact hr.ne h1 (by decide) e
    · exact d.ne (t3.symm.trans (by rw [hk, e]))
def Sofar (j : Js) (t : Txt) (x : Int) (s' : St) (i : Nat) : Prop := runW j.s (j.wrs t) = (if x = 0 then runW s' ((j.wrs t).drop i) else (x, s')) ∧ s'.Ok ∧ s'.n = j.s.n
theorem Sofar.step {j : Js} {t : Txt} {s' : St} {i : Nat} {y : Nat × Txt} (h : Sofar j t 0 s' i) (hy : (j.wrs t)[i]? = some y) : Sofar j t (s'.write y.1 y.2).1 (s'.write y.1 y.2).2 (i + 1) := by
  obtain ⟨h1, h2, h3⟩ := h
  obtain ⟨h4, h5⟩ := write_ok h2 y.1 y.2
  refine ⟨?_, h4, h5.trans h3⟩
  obtain ⟨hi, rfl⟩ := List.getElem?_eq_some_iff.1 hy
  rw [h1, if_pos rfl, List.drop_eq_getElem_cons hi]
  generalize (j.wrs t)[i] = y at *
  obtain ⟨k, x⟩ := y
  rfl
theorem Sofar.skip {j : Js} {t : Txt} {x : Int} {s' : St} {i : Nat} (h : Sofar j t x s' i) (hx : ¬ x = 0) (m : Nat) : Sofar j t x s' m := by
  obtain ⟨h1, h2, h3⟩ := h
  rw [if_neg hx] at h1
  exact ⟨by rw [if_neg hx]; exact h1, h2, h3⟩
theorem rwrite_at {hj h q : Nat} {rq : Option Nat} {j : Js} {t : Txt} {s' : St} {i : Nat} {y : Nat × Txt} (d : Rj w0 w hj h q rq ⟨s', j.l, j.k⟩) (so : Sofar j t 0 s' i) (hy : (j.wrs t)[i]? = some y) :
    Calls Tryz.prog fn_ref03_Device_Write #[.pointer (some ⟨h, 0, none⟩), .int .i64 (y.1 : Int), .string (S y.2)] w (fun e w' => ∃ x s2, e = .returned (.int .i64 x) ∧ Sofar j t x s2 (i + 1) ∧ Rj w0 w' hj h q rq ⟨s2, j.l, j.k⟩ ∧ Mod (Foot hj h q rq) w w') := by
  obtain ⟨p, c, t1, t2, t3⟩ := d.top
  refine (ref_Write_spec d.dev so.2.1 y.1 y.2).mono ?_
  rintro _ w1 ⟨rfl, m1, d1⟩
  have hty : ¬ (hj = h ∨ hj = q) := by
    obtain ⟨⟨c', h1⟩, cur, h2, _⟩ := d.dev
    exact fun e => e.elim (fun e => t1.ne h1 (by decide) e) (fun e => t1.ne h2 (by decide) e)
  refine ⟨_, _, rfl, so.step hy, ⟨d1, ⟨p, c, t1.mod m1 hty, t2.mod m1 (fun k hk e => ?_), t3⟩, d.ne, d.low⟩, m1.weaken fun k hk => hk.elim .inl fun h => .inr (.inl h)⟩
  obtain ⟨cur, hr⟩ := t2.typed hk
  rcases e with e | e
  · obtain ⟨⟨c', h1⟩, _⟩ := d.dev
    exact hr.ne h1 (by decide) e
  · exact d.ne (t3.symm.trans (by rw [hk, e]))
theorem rappend_spec {hj h q : Nat} {rq : Option Nat} {j : Js} (h0 : Still w0 w) (d : Rj w0 w hj h q rq j) (ok : j.Ok) (t : Txt) :
    Calls Tryz.prog fn_ref04_Journal_Append #[.pointer (some ⟨hj, 0, none⟩), .string (S t)] w (fun e w' => e = .returned (.int .i64 (j.append t).1) ∧ ∃ rq', Rj w0 w' hj h q rq' (j.append t).2 ∧ Mod (Foot hj h q rq) w w' ∧ NewOr rq rq' w) := by
  have hn2 := ok.s.n2
  have hk := ok.k
  have hlk := ok.l
  refine ref04_Journal_Append_calls _ _ _ _ ?_
  have modF : ∀ {w' : World}, Still w w' → Mod (Foot hj h q rq) w w' := fun h => h.weaken fun _ h => h.elim
  refine bsel_of (fun hx => ?_) (fun hx => ?_)
  · have hx : 100000 < t.length := by have := of_decide_eq_true hx; omega
    have e : j.append t = (2, j) := by unfold Js.append; rw [if_pos hx]
    rw [e]
    exact ⟨rfl, rq, d, Mod.refl _ _, NewOr.refl _ _⟩
  have htl : t.length ≤ 100000 := by have := of_decide_eq_false hx; omega
  have hc := cnt_le htl
  refine (count_spec t.length (by omega)).mono ?_
  rintro _ w1 ⟨rfl, rfl⟩
  have sD := (Still.refl w1).toDrew
  have dD := d.still sD
  obtain ⟨p, c, t1, t2, t3⟩ := d.top
  have ew : IntKind.i64.wrap (IntKind.i64.wrap ((j.k : Int) + 1) + ((cnt t.length : Nat) : Int)) = ((j.k + 1 + cnt t.length : Nat) : Int) := by rw [wrap_i64 (n := (j.k : Int) + 1) (by omega) (by omega), wrap_i64 (by omega) (by omega)]; omega
  refine .inl ⟨_, rfl, fun wq => Still w1 wq, sD, _, fun wq hq => (t1.still hq).lget rfl, _, fun wq hq => (t1.still hq).lget rfl, (ref_Size_spec dD.dev).mono ?_⟩
  rintro _ w2 ⟨rfl, rfl⟩
  refine .inl ⟨_, rfl, sD, ?_⟩
  rw [ew]
  refine bsel_of (fun hx => ?_) (fun hx => ?_)
  · have hx : j.s.n ≤ j.k + cnt t.length := by have := of_decide_eq_true hx; omega
    have e : j.append t = (12, j) := by unfold Js.append; rw [if_neg (by omega), if_pos hx]
    rw [e]
    exact ⟨rfl, rq, dD, modF sD, NewOr.refl _ _⟩
  have hfit : j.k + cnt t.length < j.s.n := by have := of_decide_eq_false hx; omega
  have eapp : j.append t = if (runW j.s (j.wrs t)).1 = 0 then (0, ⟨(runW j.s (j.wrs t)).2, j.l ++ [t], j.k + 1 + cnt t.length⟩) else ((runW j.s (j.wrs t)).1, ⟨(runW j.s (j.wrs t)).2, j.l, j.k⟩) := by
    unfold Js.append
    rw [if_neg (by omega), if_neg (by omega)]
  -- the state behind i sectors
  let At : Int → Nat → World → Prop := fun x i w' => ∃ s', Sofar j t x s' i ∧ Rj w0 w' hj h q rq ⟨s', j.l, j.k⟩ ∧ Mod (Foot hj h q rq) w1 w'
  have AtS : ∀ {x i wa wb}, At x i wa → Still wa wb → At x i wb := by
    rintro x i wa wb ⟨s', h1, h2, h3⟩ hs
    exact ⟨s', h1, h2.still hs, Mod.trans h3 hs (fun _ h => h) (fun _ _ h => h.elim)⟩
  have AtW : ∀ {i : Nat} {y : Nat × Txt} {wa : World}, At 0 i wa → (j.wrs t)[i]? = some y → Calls Tryz.prog fn_ref03_Device_Write #[.pointer (some ⟨h, 0, none⟩), .int .i64 (y.1 : Int), .string (S y.2)] wa (fun e w' => ∃ x, e = .returned (.int .i64 x) ∧ At x (i + 1) w') := by
    rintro i y wa ⟨s', h1, h2, h3⟩ hy
    refine (rwrite_at h2 h1 hy).mono ?_
    rintro _ wb ⟨x, s2, rfl, g1, g2, g3⟩
    exact ⟨x, rfl, s2, g1, g2, Mod.trans h3 g3 (fun _ h => h) (fun _ _ h => h)⟩
  have A0 : At 0 0 w1.drew := ⟨j.s, ⟨rfl, ok.s, rfl⟩, dD, modF sD⟩
  have topOf : ∀ {x i wa}, At x i wa → ∃ p c, Row wa hj ty_scullionref04_Journal ⟨[.pointer (some ⟨h, 0, none⟩), .slice p j.l.length c, .int .i64 (j.k : Int)]⟩ := by
    rintro x i wa ⟨s', h1, h2, h3⟩
    obtain ⟨p, c, g1, _⟩ := h2.top
    exact ⟨p, c, g1⟩
  refine ⟨fun x w' => At x (endN j t) w', ?_, ?_⟩
  · have s2D := (Still.refl w1.drew).toDrew
    have A2 := AtS A0 s2D
    obtain ⟨p, c, q1⟩ := topOf A0
    refine ⟨fun wq => Still w1.drew wq, s2D, _, fun wq hq => (q1.still hq).lget rfl, _, fun wq hq => (q1.still hq).lget rfl, (ref_Size_spec (dD.still s2D).dev).mono ?_⟩
    rintro _ w3 ⟨rfl, rfl⟩
    refine .inl ⟨_, rfl, s2D, ?_⟩
    rw [ew]
    refine bsel_of (fun hx => ?_) (fun hx => ?_)
    · have hx : j.k + 1 + cnt t.length < j.s.n := by have := of_decide_eq_true hx; omega
      have en : endN j t = 1 := if_pos hx
      have s3D := s2D.toDrew
      have A3 := AtS A0 s3D
      refine ⟨fun wq => Still w1.drew wq, s3D, _, fun wq hq => (q1.still hq).lget rfl, _, fun wq hq => (q1.still hq).lget rfl, ?_⟩
      rw [ew]
      refine (AtW A3 (wrs_end hx)).mono ?_
      rintro _ w4 ⟨x, rfl, hx4⟩
      exact .inl ⟨_, rfl, by rw [en]; exact hx4⟩
    · have hx : ¬ j.k + 1 + cnt t.length < j.s.n := by have := of_decide_eq_false hx; omega
      have en : endN j t = 0 := if_neg hx
      rw [en]
      exact A2
  intro x _ w5 A5
  refine ⟨fun x w' => At x (endN j t + 1) w', ?_, ?_⟩
  · refine bsel_of (fun hx => ?_) (fun hx => ?_)
    · obtain rfl := of_decide_eq_true hx
      obtain ⟨p, c, q1⟩ := topOf A5
      have s5D := (Still.refl w5).toDrew
      refine ⟨fun wq => Still w5 wq, s5D, _, fun wq hq => (q1.still hq).lget rfl, _, fun wq hq => (q1.still hq).lget rfl, _, _, _, fun wq hq => (q1.still hq).lget rfl, (rhead_spec 48 j.l.length t (by omega) htl).mono ?_⟩
      rintro _ w6 ⟨rfl, s6⟩
      have s6 := s5D.trans s6
      refine .inl ⟨_, rfl, s6, (AtW (AtS A5 s6) wrs_head).mono ?_⟩
      rintro _ w7 ⟨x, rfl, hx7⟩
      exact .inl ⟨_, rfl, hx7⟩
    · obtain ⟨s', h1, h2⟩ := A5
      exact ⟨s', h1.skip (of_decide_eq_false hx) _, h2⟩
  intro x _ w8 A8
  refine ⟨fun x i w' => ∃ n : Nat, i = (n : Int) ∧ n ≤ cnt t.length ∧ At x (endN j t + 1 + n) w', fun _ i _ => cnt t.length - i.toNat, ⟨0, rfl, Nat.zero_le _, A8⟩, ?_⟩
  rintro x _ _ w9 ⟨i, rfl, hi, A9⟩
  refine ⟨fun w' => x = 0 ∧ i < cnt t.length ∧ At 0 (endN j t + 1 + i) w', ⟨fun o w' => At x (endN j t + 1 + i) w' ∧ (o = true → x = 0 ∧ i < cnt t.length) ∧ (o = false → x = 0 → i = cnt t.length), ?_, ?_⟩, ?_⟩
  · refine bsel_of (fun hx => ⟨A9, fun h => ⟨of_decide_eq_true h, by have := of_decide_eq_true hx; omega⟩, fun h e => absurd e (of_decide_eq_false h)⟩) (fun hx => ⟨A9, fun h => (by cases h), fun _ _ => by have := of_decide_eq_false hx; omega⟩)
  · rintro o _ w10 ⟨A10, ho1, ho2⟩
    refine bsel_of (fun ho => ?_) (fun ho => ?_)
    · obtain ⟨rfl, hi2⟩ := ho1 ho
      exact ⟨rfl, hi2, A10⟩
    have ho2 := ho2 ho
    refine ⟨fun x w' => At x (endN j t + 1 + cnt t.length + 1) w', ?_, ?_⟩
    · refine bsel_of (fun hx => ?_) (fun hx => ?_)
      · obtain rfl := of_decide_eq_true hx
        obtain rfl := ho2 rfl
        obtain ⟨p, c, q1⟩ := topOf A10
        have s5D := (Still.refl w10).toDrew
        refine ⟨fun wq => Still w10 wq, s5D, _, fun wq hq => (q1.still hq).lget rfl, _, fun wq hq => (q1.still hq).lget rfl, _, _, _, fun wq hq => (q1.still hq).lget rfl, (rhead_spec 49 j.l.length t (by omega) htl).mono ?_⟩
        rintro _ w11 ⟨rfl, s6⟩
        have s6 := s5D.trans s6
        refine .inl ⟨_, rfl, s6, (AtW (AtS A10 s6) wrs_last).mono ?_⟩
        rintro _ w12 ⟨x, rfl, hx7⟩
        exact .inl ⟨_, rfl, hx7⟩
      · obtain ⟨s', h1, h2⟩ := A10
        exact ⟨s', h1.skip (of_decide_eq_false hx) _, h2⟩
    rintro x _ w13 ⟨s', so, d13, m13⟩
    refine bsel_of (fun hx => ?_) (fun hx => ?_)
    · have hx : ¬ x = 0 := by simpa using hx
      have e : runW j.s (j.wrs t) = (x, s') := by rw [so.1, if_neg hx]
      rw [eapp, e, if_neg hx]
      exact ⟨rfl, rq, d13, m13, NewOr.refl _ _⟩
    have hx : x = 0 := by simpa using hx
    subst hx
    have e : runW j.s (j.wrs t) = (0, s') := by
      rw [so.1, if_pos rfl, ← wrs_len (j := j) (t := t), List.drop_length]
      rfl
    rw [eapp, e, if_pos rfl]
    obtain ⟨p, c, t1, t2, t3⟩ := d13.top
    have hsz := m13.size
    refine ⟨_, _, _, t1.lget rfl, push1b t2 (d.stays h0 m13).size (cs := [.string (S t)]) rfl (by simp [Value.oneCell']) (by dsimp only; omega) (by dsimp only; omega) fun p' c' w15 o5 m5 n5 => ?_⟩
    have hgt : ∀ n, (Value.slice p j.l.length c).ownBlock = some n → hj ≠ n := fun n hk => by
      obtain ⟨cur, hr⟩ := t2.typed hk
      exact t1.ne hr (by decide)
    have t15 := t1.mod m5 (fun e => hgt _ e rfl)
    have hgt2 : (Value.slice p' (j.l.length + 1) c').ownBlock ≠ some hj := fun e => by
      obtain ⟨cur, hr⟩ := o5.typed e
      exact t15.ne hr (by decide) rfl
    refine stK (g := hj) (o := 1) t15 (by simp) (by simp [Value.oneCell']) fun w16 r6 m6 z6 => ?_
    simp only [ovw, List.set_cons_succ, List.set_cons_zero] at r6
    refine ⟨_, r6.lget rfl, stK (g := hj) (o := 2) r6 (by simp) (by simp [Value.oneCell']) fun w17 r8 m8 z8 => ?_⟩
    simp only [ovw, List.set_cons_succ, List.set_cons_zero] at r8
    rw [ew] at r8
    have m58 : Mod (fun n => n = hj) w15 w17 := Mod.trans m6 m8 (fun _ h => h) (fun _ _ h => h)
    have mm : Mod (fun n => rq = some n ∨ n = hj) w13 w17 := Mod.trans m5 m58 (fun n hk => .inl (t3.symm.trans hk)) (fun _ _ h => .inr h)
    have hty : hj ≠ h ∧ hj ≠ q := by
      obtain ⟨⟨c', h1⟩, cur, h2, _⟩ := d13.dev
      exact ⟨t1.ne h1 (by decide), t1.ne h2 (by decide)⟩
    have hrq : ¬ rq = some h := fun e => by
      obtain ⟨cur, hr⟩ := t2.typed (t3.trans e)
      obtain ⟨⟨c', h1⟩, _⟩ := d13.dev
      exact hr.ne h1 (by decide) rfl
    refine ⟨rfl, (Value.slice p' (j.l.length + 1) c').ownBlock, ⟨d13.dev.mod mm (fun e => e.elim hrq (fun e => hty.1 e.symm)) (fun e => e.elim d13.ne (fun e => hty.2 e.symm)), ⟨p', c', ?_, ?_, by rw [List.length_append]; rfl⟩, ?_, d.low⟩, ?_, ?_⟩
    · rw [List.length_append]
      exact r8
    · have ho := o5.mod m58 (fun n hk => by rintro rfl; exact hgt2 hk)
      rw [List.length_append, strs_append]
      exact ho
    · intro e
      rcases n5 _ e with e2 | e2
      · exact d13.ne (t3.symm.trans e2)
      · have := d13.dev.lt.2; omega
    · exact Mod.trans m13 mm (fun _ h => h) (fun n _ hn => hn.elim (fun e => .inr (.inr (.inr e))) (fun e => .inr (.inr (.inl e))))
    · intro n hnn
      rcases n5 n hnn with e | e
      · exact .inl (t3.symm.trans e)
      · exact .inr (Nat.le_trans hsz e)
  · rintro _ w18 ⟨rfl, hi2, A18⟩
    obtain ⟨p, c, q1⟩ := topOf A18
    have s5D := (Still.refl w18).toDrew
    have ew2 : IntKind.i64.wrap ((i : Int) * 64) = ((i * 64 : Nat) : Int) := by rw [wrap_i64 (by omega) (by omega)]; omega
    have ew3 : IntKind.i64.wrap (IntKind.i64.wrap ((i : Int) + 1) * 64) = (((i + 1) * 64 : Nat) : Int) := by rw [wrap_i64 (n := (i : Int) + 1) (by omega) (by omega), wrap_i64 (by omega) (by omega)]; omega
    have ew4 : IntKind.i64.wrap (IntKind.i64.wrap ((j.k : Int) + 1) + (i : Int)) = ((j.k + 1 + i : Nat) : Int) := by rw [wrap_i64 (n := (j.k : Int) + 1) (by omega) (by omega), wrap_i64 (by omega) (by omega)]; omega
    have hc64 : cnt t.length * 64 < t.length + 64 := by unfold cnt; omega
    refine ⟨fun wq => Still w18 wq, s5D, _, fun wq hq => (q1.still hq).lget rfl, _, fun wq hq => (q1.still hq).lget rfl, ?_⟩
    rw [ew2, ew3, ew4]
    have em : (if (((i + 1) * 64 : Nat) : Int) < (t.length : Int) then (((i + 1) * 64 : Nat) : Int) else (t.length : Int)) = ((min ((i + 1) * 64) t.length : Nat) : Int) := by split <;> omega
    rw [em]
    refine ⟨by omega, by omega, by omega, ?_⟩
    rw [Int.toNat_natCast, Int.toNat_natCast]
    have et : (t.drop (i * 64)).take (min ((i + 1) * 64) t.length - i * 64) = (t.drop (i * 64)).take 64 := by
      by_cases hle : (i + 1) * 64 ≤ t.length
      · rw [show min ((i + 1) * 64) t.length - i * 64 = 64 by omega]
      · rw [show min ((i + 1) * 64) t.length - i * 64 = t.length - i * 64 by omega, List.take_of_length_le (by rw [List.length_drop]; omega), List.take_of_length_le (by rw [List.length_drop]; omega)]
    rw [et]
    refine (AtW (AtS A18 s5D) (wrs_piece hi2)).mono ?_
    rintro _ w19 ⟨x, rfl, hx7⟩
    refine .inl ⟨_, rfl, ⟨i + 1, by rw [wrap_i64 (by omega) (by omega)]; omega, hi2, hx7⟩, ?_⟩
    dsimp only
    rw [wrap_i64 (by omega) (by omega)]
    omega
theorem Same_spec {g b h q : Nat} {s : St} (d : Dev w g b s) (r : Ref w h q s) (hs : s.Ok) : Calls Tryz.prog fn_law03_Same #[.pointer (some ⟨g, 0, none⟩), .pointer (some ⟨h, 0, none⟩)] w (fun e w' => e = .returned (.bool true) ∧ w' = w) := by
  refine law03_Same_calls _ _ _ _ ?_
  refine (device_Size_spec d).mono ?_
  rintro _ w ⟨rfl, rfl⟩
  refine .inl ⟨_, rfl, (ref_Size_spec r).mono ?_⟩
  rintro _ w ⟨rfl, rfl⟩
  refine .inl ⟨_, rfl, bsel_of (fun h => by simp at h) (fun _ => ?_)⟩
  refine ⟨fun i w1 => 0 ≤ i ∧ i ≤ s.n ∧ w1 = w, fun i _ => (s.n - i).toNat, ⟨by decide, by omega, rfl⟩, ?_⟩
  rintro i _ w1 ⟨h0, h1, rfl⟩
  refine (ref_Size_spec r).mono ?_
  rintro _ w ⟨rfl, rfl⟩
  refine .inl ⟨_, rfl, bsel_of (fun hx => ?_) (fun _ => ⟨rfl, rfl⟩)⟩
  have hx := of_decide_eq_true hx
  have hn := hs.n2
  refine (device_Read_spec d i).mono ?_
  rintro _ w ⟨rfl, rfl⟩
  rw [if_pos ⟨h0, hx⟩]
  refine .inl ⟨_, _, rfl, (ref_Read_spec r i).mono ?_⟩
  rintro _ w ⟨rfl, rfl⟩
  rw [if_pos ⟨h0, hx⟩]
  refine .inl ⟨_, _, rfl, bsel_of (fun h => by simp at h) (fun _ => ?_)⟩
  rw [wrap_i64 (by omega) (by omega)]
  exact ⟨⟨by omega, by omega, rfl⟩, by dsimp only; omega⟩
theorem limit_ok {s : St} (h : s.Ok) {n m : Int} (hn : n < 9223372036854775808) (hm0 : 0 ≤ m) (hm1 : m < 18446744073709551616) : (s.limit n m).Ok := by
  refine ⟨h.n1, h.n2, ?_, ?_, hm0, hm1⟩
  · show 0 ≤ (if 0 > n then 0 else n)
    split <;> omega
  · show (if 0 > n then 0 else n) < _
    split <;> omega
theorem restart_ok {s : St} (h : s.Ok) : s.restart.Ok := ⟨h.n1, h.n2, h.p0, h.p1, Int.le_refl _, (by decide : (0 : Int) < 18446744073709551616)⟩
theorem Jr.setDev {gj g b : Nat} {rp : Option Nat} {j : Js} (h : Jr w0 w gj g b rp j) {w' : World} {s' : St} (m : Mod (fun i => i = g ∨ i = b) w w') (d : Dev w' g b s') : Jr w0 w' gj g b rp ⟨s', j.l, j.k⟩ := by
  obtain ⟨p, c, t1, t2, t3⟩ := h.top
  refine ⟨d, ⟨p, c, t1.mod m (fun e => e.elim (fun e => t1.ne h.dev.top (by decide) e) (fun e => t1.ne h.dev.bytes (by decide) e)), t2.mod m (fun k hk e => ?_), t3⟩, h.low⟩
  obtain ⟨cur, hr⟩ := t2.typed hk
  exact e.elim (fun e => hr.ne h.dev.top (by decide) e) (fun e => hr.ne h.dev.bytes (by decide) e)
theorem Rj.setDev {hj h q : Nat} {rq : Option Nat} {j : Js} (d : Rj w0 w hj h q rq j) {w' : World} {s' : St} (m : Mod (fun i => i = h ∨ i = q) w w') (d' : Ref w' h q s') : Rj w0 w' hj h q rq ⟨s', j.l, j.k⟩ := by
  obtain ⟨p, c, t1, t2, t3⟩ := d.top
  have hty : ¬ (hj = h ∨ hj = q) := by
    obtain ⟨⟨c', h1⟩, cur, h2, _⟩ := d.dev
    exact fun e => e.elim (fun e => t1.ne h1 (by decide) e) (fun e => t1.ne h2 (by decide) e)
  refine ⟨d', ⟨p, c, t1.mod m hty, t2.mod m (fun k hk e => ?_), t3⟩, d.ne, d.low⟩
  obtain ⟨cur, hr⟩ := t2.typed hk
  rcases e with e | e
  · obtain ⟨⟨c', h1⟩, _⟩ := d.dev
    exact hr.ne h1 (by decide) e
  · exact d.ne (t3.symm.trans (by rw [hk, e]))
structure Ids where
  gx : Nat
  g : Nat
  b : Nat
  gj : Nat
  rp : Option Nat
  h : Nat
  q : Nat
  hj : Nat
  rq : Option Nat
def Ids.A (i : Ids) : Nat → Prop := Foot i.gj i.g i.b i.rp
def Ids.B (i : Ids) : Nat → Prop := Foot i.hj i.h i.q i.rq
structure Two (w0 w : World) (i : Ids) (j jr : Js) : Prop where
  prog : Jr w0 w i.gj i.g i.b i.rp j
  ref : Rj w0 w i.hj i.h i.q i.rq jr
  row : Row w i.gx ty_scullionlaw04_pair ⟨[.pointer (some ⟨i.g, 0, none⟩), .pointer (some ⟨i.gj, 0, none⟩), .pointer (some ⟨i.h, 0, none⟩), .pointer (some ⟨i.hj, 0, none⟩)]⟩
  apart : ∀ k, i.A k → ¬ i.B k
  low : w0.heap.size ≤ i.gx
section
variable {i : Ids} {j jr : Js}
theorem Two.gxA (t : Two w0 w i j jr) : ¬ i.A i.gx := by
  obtain ⟨p, c, t1, t2, t3⟩ := t.prog.top
  rintro (e | e | e | e)
  · exact t.row.ne t.prog.dev.top (by decide) e
  · exact t.row.ne t.prog.dev.bytes (by decide) e
  · exact t.row.ne t1 (by decide) e
  · obtain ⟨cur, hr⟩ := t2.typed (t3.trans e)
    exact t.row.ne hr (by decide) rfl
theorem Two.gxB (t : Two w0 w i j jr) : ¬ i.B i.gx := by
  obtain ⟨p, c, t1, t2, t3⟩ := t.ref.top
  obtain ⟨⟨c', h1⟩, cur, h2, _⟩ := t.ref.dev
  rintro (e | e | e | e)
  · exact t.row.ne h1 (by decide) e
  · exact t.row.ne h2 (by decide) e
  · exact t.row.ne t1 (by decide) e
  · obtain ⟨cur, hr⟩ := t2.typed (t3.trans e)
    exact t.row.ne hr (by decide) rfl
theorem Two.still (t : Two w0 w i j jr) {w' : World} (hm : Still w w') : Two w0 w' i j jr := ⟨t.prog.still hm, t.ref.still hm, t.row.still hm, t.apart, t.low⟩
theorem Two.drew (t : Two w0 w i j jr) : Two w0 w.drew i j jr := t.still (Still.refl w).toDrew
theorem Two.stepA (t : Two w0 w i j jr) {w' : World} {rp' : Option Nat} {j' : Js} (J : Jr w0 w' i.gj i.g i.b rp' j') (m : Mod i.A w w') (n : NewOr i.rp rp' w) : Two w0 w' { i with rp := rp' } j' jr := by
  refine ⟨J, t.ref.mod m (fun k hb ha => t.apart k ha hb), t.row.mod m t.gxA, fun k ha hb => ?_, t.low⟩
  have hb : i.B k := hb
  have hlt := (t.ref.foot hb).2
  rcases ha with e | e | e | e
  · exact t.apart k (.inl e) hb
  · exact t.apart k (.inr (.inl e)) hb
  · exact t.apart k (.inr (.inr (.inl e))) hb
  · rcases n k e with e | e
    · exact t.apart k (.inr (.inr (.inr e))) hb
    · omega
theorem Two.stepB (t : Two w0 w i j jr) {w' : World} {rq' : Option Nat} {jr' : Js} (J : Rj w0 w' i.hj i.h i.q rq' jr') (m : Mod i.B w w') (n : NewOr i.rq rq' w) : Two w0 w' { i with rq := rq' } j jr' := by
  refine ⟨t.prog.mod m (fun k ha hb => t.apart k ha hb), J, t.row.mod m t.gxB, fun k ha hb => ?_, t.low⟩
  have ha : i.A k := ha
  have hlt := (t.prog.foot ha).2
  rcases hb with e | e | e | e
  · exact t.apart k ha (.inl e)
  · exact t.apart k ha (.inr (.inl e))
  · exact t.apart k ha (.inr (.inr (.inl e)))
  · rcases n k e with e | e
    · exact t.apart k ha (.inr (.inr (.inr e)))
    · omega
theorem apart_open {g b gj h q hj : Nat} {rp rq : Option Nat} {B0 B1 : Nat} (ap : ∀ k, (k = g ∨ k = b) → ¬ (k = h ∨ k = q)) (hlt : g < B0 ∧ b < B0 ∧ h < B0 ∧ q < B0) (h1 : B0 ≤ gj ∧ gj < B1) (h2 : ∀ k, rp = some k → B0 ≤ k ∧ k < B1) (_hB : B0 ≤ B1)
    (h3 : B1 ≤ hj) (h4 : ∀ k, rq = some k → B1 ≤ k) : ∀ k, Foot gj g b rp k → ¬ Foot hj h q rq k := by
  rintro k (e | e | e | e) (f | f | f | f)
  all_goals first
    | (have := h2 _ e; have := h4 _ f; omega)
    | (have := h2 _ e; omega)
    | (have := h4 _ f; omega)
    | exact ap k (.inl e) (.inl f)
    | exact ap k (.inl e) (.inr f)
    | exact ap k (.inr e) (.inl f)
    | exact ap k (.inr e) (.inr f)
    | omega
theorem Two.opens {g b gj h q hj gx : Nat} {rp rq : Option Nat} {w2 w4 : World} {cs : Array Value} (J : Jr w0 w2 gj g b rp j) (R : Rj w0 w2 hj h q rq jr) (row0 : Row w2 gx ty_scullionlaw04_pair cs)
    (row : Row w4 gx ty_scullionlaw04_pair ⟨[.pointer (some ⟨g, 0, none⟩), .pointer (some ⟨gj, 0, none⟩), .pointer (some ⟨h, 0, none⟩), .pointer (some ⟨hj, 0, none⟩)]⟩) (m : Mod (fun k => k = gx) w2 w4)
    (ap : ∀ k, Foot gj g b rp k → ¬ Foot hj h q rq k) (low : w0.heap.size ≤ gx) : Two w0 w4 ⟨gx, g, b, gj, rp, h, q, hj, rq⟩ j jr := by
  refine ⟨J.mod m (fun k ha e => ?_), R.mod m (fun k hb e => ?_), row, ap, low⟩
  · subst e
    obtain ⟨p, c, t1, t2, t3⟩ := J.top
    rcases ha with e | e | e | e
    · exact row0.ne J.dev.top (by decide) e
    · exact row0.ne J.dev.bytes (by decide) e
    · exact row0.ne t1 (by decide) e
    · obtain ⟨cur, hr⟩ := t2.typed (t3.trans e)
      exact row0.ne hr (by decide) rfl
  · subst e
    obtain ⟨p, c, t1, t2, t3⟩ := R.top
    obtain ⟨⟨c', h1⟩, cur, h2, _⟩ := R.dev
    rcases hb with e | e | e | e
    · exact row0.ne h1 (by decide) e
    · exact row0.ne h2 (by decide) e
    · exact row0.ne t1 (by decide) e
    · obtain ⟨cur, hr⟩ := t2.typed (t3.trans e)
      exact row0.ne hr (by decide) rfl
theorem Two.stays (t : Two w0 w i j jr) (h0 : Still w0 w) {w' : World} (m : Mod (fun k => i.A k ∨ i.B k ∨ k = i.gx) w w') : Still w0 w' := Mod.trans h0 m (fun _ h => h) (fun n hn e => by
  have := t.low
  rcases e with e | e | e
  · have := (t.prog.foot e).1; omega
  · have := (t.ref.foot e).1; omega
  · omega)
end
theorem begun_spec (he : Env w0) (h0 : Still w0 w) {n : Nat} (h1 : 1 ≤ n) (h2 : n ≤ 4096) : Calls Tryz.prog fn_law04_begun #[.int .i64 (n : Int)] w (fun e w' => ∃ i : Ids, e = .returned (.tuple #[.pointer (some ⟨i.gx, 0, none⟩), .bool true]) ∧ Still w w' ∧ Two w0 w' i ⟨St.new n, [], 0⟩ ⟨St.new n, [], 0⟩) := by
  refine law04_begun_calls _ _ _ ?_
  have hz := h0.size
  have ok := new_ok h1 h2
  refine (device_New_spec (n := (n : Int)) (by omega) (by omega)).mono ?_
  rintro _ w1 ⟨g, b, rfl, m1, hg, hb, d1⟩
  have s1 : Still w w1 := m1
  rw [Int.toNat_natCast] at d1
  refine .inl ⟨_, _, rfl, (ref_New_spec (n := (n : Int)) (by omega) (by omega)).mono ?_⟩
  rintro _ w2 ⟨h, q, rfl, m2, hh, hq, r2⟩
  have s2 : Still w1 w2 := m2
  rw [Int.toNat_natCast] at r2
  have d2 : Dev w2 g b (St.new n) := ⟨d1.top.still s2, d1.bytes.still s2⟩
  refine .inl ⟨_, _, rfl, bsel_of (fun h => by cases h) (fun _ => bsel_of (fun h => by cases h) (fun _ => ?_))⟩
  have z1 := s1.size
  have z2 := s2.size
  refine (jopen_spec he ((h0.trans s1).trans s2) d2 ok (by omega) (by omega)).mono ?_
  rintro _ w3 ⟨gj, rp, rfl, s3, hgj, hrp, J3⟩
  rw [opened_new n h1] at J3
  refine .inl ⟨_, rfl, (ropen_spec (((h0.trans s1).trans s2).trans s3) (r2.mod s3 (fun h => h) (fun h => h)) ok (by omega) (by omega)).mono ?_⟩
  rintro _ w4 ⟨hj, rq, rfl, s4, hhj, hrq, R4⟩
  rw [opened_new n h1] at R4
  refine .inl ⟨_, rfl, allocK fun w5 r5 s5 z5 => ⟨_, r5.lget rfl, ?_⟩⟩
  have sall := (((s1.trans s2).trans s3).trans s4).trans s5
  have z3 := s3.size
  have z4 := s4.size
  have lt2 : ∀ k, (k = g ∨ k = b ∨ k = h ∨ k = q) → k < w2.heap.size := by
    rintro k (rfl | rfl | rfl | rfl)
    · exact d2.top.lt
    · exact d2.bytes.lt
    · exact r2.lt.1
    · exact r2.lt.2
  refine ⟨⟨w4.heap.size, g, b, gj, rp, h, q, hj, rq⟩, rfl, sall.toDrew, Two.drew ⟨(J3.still s4).still s5, R4.still s5, r5, ?_, by dsimp only; omega⟩⟩
  have hgl := d1.top.lt
  have hbl := d1.bytes.lt
  have J3lt : ∀ k, Foot gj g b rp k → k < w3.heap.size := fun k hk => (J3.foot hk).2
  refine apart_open (B0 := w2.heap.size) (B1 := w3.heap.size) ?_ ⟨lt2 _ (.inl rfl), lt2 _ (.inr (.inl rfl)), lt2 _ (.inr (.inr (.inl rfl))), lt2 _ (.inr (.inr (.inr rfl)))⟩ ⟨hgj, J3lt _ (.inr (.inr (.inl rfl)))⟩ (fun k hk => ⟨?_, J3lt _ (.inr (.inr (.inr hk)))⟩) z3 hhj (fun k hk => ?_)
  · intro k hk hx
    have hk : k = g ∨ k = b := hk
    have hx : k = h ∨ k = q := hx
    omega
  · rcases hrp k hk with e | e
    · cases e
    · exact e
  · rcases hrq k hk with e | e
    · cases e
    · exact e
def Both (w0 : World) (gx : Nat) (w : World) : Prop := ∃ (i : Ids) (j : Js), i.gx = gx ∧ Two w0 w i j j ∧ j.Ok ∧ Still w0 w
theorem Both.of {i : Ids} {j : Js} (t : Two w0 w i j j) (ok : j.Ok) (h : Still w0 w) : Both w0 i.gx w := ⟨i, j, rfl, t, ok, h⟩
theorem Both.drew {gx : Nat} (h : Both w0 gx w) : Both w0 gx w.drew := by
  obtain ⟨i, j, h1, h2, h3, h4⟩ := h
  exact ⟨i, j, h1, h2.drew, h3, h4.toDrew⟩
theorem Both.still {gx : Nat} (h : Both w0 gx w) {w' : World} (hs : Still w w') : Both w0 gx w' := by
  obtain ⟨i, j, h1, h2, h3, h4⟩ := h
  exact ⟨i, j, h1, h2.still hs, h3, h4.trans hs⟩
section
variable {i : Ids} {j jr : Js}
theorem Two.devA (t : Two w0 w i j jr) {w' : World} {s' : St} (m : Mod (fun n => n = i.g ∨ n = i.b) w w') (d : Dev w' i.g i.b s') : Two w0 w' i ⟨s', j.l, j.k⟩ jr := by
  have mA : Mod i.A w w' := m.weaken fun k hk => hk.elim .inl fun h => .inr (.inl h)
  exact t.stepA (t.prog.setDev m d) mA (NewOr.refl _ _)
theorem Two.devB (t : Two w0 w i j jr) {w' : World} {s' : St} (m : Mod (fun n => n = i.h ∨ n = i.q) w w') (d : Ref w' i.h i.q s') : Two w0 w' i j ⟨s', jr.l, jr.k⟩ := by
  have mB : Mod i.B w w' := m.weaken fun k hk => hk.elim .inl fun h => .inr (.inl h)
  exact t.stepB (t.ref.setDev m d) mB (NewOr.refl _ _)
theorem Two.lt (t : Two w0 w i j jr) : i.g < w.heap.size ∧ i.b < w.heap.size ∧ i.h < w.heap.size ∧ i.q < w.heap.size := ⟨t.prog.dev.top.lt, t.prog.dev.bytes.lt, t.ref.dev.lt.1, t.ref.dev.lt.2⟩
theorem Two.stillA (t : Two w0 w i j jr) (h0 : Still w0 w) {w' : World} (m : Mod i.A w w') : Still w0 w' := t.prog.stays h0 m
theorem Two.stillB (t : Two w0 w i j jr) (h0 : Still w0 w) {w' : World} (m : Mod i.B w w') : Still w0 w' := t.ref.stays h0 m
end
structure Pair (w0 : World) (i : Ids) (ex : Nat) (cs : List Value) (wq : World) : Prop where
  row : Row wq i.gx ty_scullionlaw04_pair ⟨[.pointer (some ⟨i.g, 0, none⟩), .pointer (some ⟨i.gj, 0, none⟩), .pointer (some ⟨i.h, 0, none⟩), .pointer (some ⟨i.hj, 0, none⟩)]⟩
  act : Row wq ex ty_scullionlaw04_Act ⟨cs⟩
theorem u8_mod {n m : Int} (h0 : 0 ≤ n) (_h1 : n < 256) (hm : 0 < m) (_hm2 : m ≤ 256) : 0 ≤ Int.tmod n m ∧ Int.tmod n m < m := ⟨Int.tmod_nonneg _ h0, Int.tmod_lt_of_pos _ hm⟩
set_option maxHeartbeats 1000000 in
theorem does_spec {gx : Nat} (he : Env w0) (hB : Both w0 gx w) (what nn : Int) (t : Txt) (mask : Int) (hn0 : 0 ≤ nn) (hn1 : nn < 256) (hm0 : 0 ≤ mask) (hm1 : mask < 18446744073709551616) :
    Calls Tryz.prog fn_law04_pair_does #[.pointer (some ⟨gx, 0, none⟩), .agg #[.int .u8 what, .int .u8 nn, .string (S t), .int .u64 mask]] w (fun e w' => e = .returned (.bool true) ∧ Both w0 gx w') := by
  obtain ⟨i, j, rfl, T, ok, h0⟩ := hB
  refine law04_pair_does_calls _ _ _ _ _ _ _ ?_
  refine allocK fun w1 ra s1 z1 => ?_
  have T1 := T.still s1
  have h01 := h0.trans s1
  have exA : ¬ i.A w.heap.size := fun h => by have := (T.prog.foot h).2; omega
  have exB : ¬ i.B w.heap.size := fun h => by have := (T.ref.foot h).2; omega
  have hw9 : ∀ {m : Int}, 0 ≤ nn → IntKind.i64.wrap nn = nn := fun _ => wrap_i64 (by omega) (by omega)
  have s1D := (Still.refl w1).toDrew
  have P1 : Pair w0 i w.heap.size [.int .u8 what, .int .u8 nn, .string (S t), .int .u64 mask] w1.drew := ⟨T1.row.still s1D, ra.still s1D⟩
  have T1D := T1.drew
  have h01D := h01.toDrew
  refine ⟨_, ra.lget rfl, by decide, bsel_of (fun _ => ?_) (fun _ => bsel_of (fun _ => ?_) (fun _ => bsel_of (fun _ => ?_) (fun _ => ?_)))⟩
  · refine ⟨fun wq => Pair w0 i w.heap.size [.int .u8 what, .int .u8 nn, .string (S t), .int .u64 mask] wq, P1, _, fun wq hq => hq.row.lget rfl, _, fun wq hq => hq.act.lget rfl, by decide, _, fun wq hq => hq.act.lget rfl, ?_⟩
    rw [wrap_i64 (by omega) (by omega)]
    have h9 := u8_mod hn0 hn1 (m := 9) (by decide) (by decide)
    refine (device_Limit_spec T1D.prog.dev _ _).mono ?_
    rintro _ w2 ⟨rfl, m2, d2⟩
    have T2 := T1D.devA m2 d2
    have mA : Mod i.A w1.drew w2 := m2.weaken fun k hk => hk.elim .inl fun h => .inr (.inl h)
    have P2 : Pair w0 i w.heap.size [.int .u8 what, .int .u8 nn, .string (S t), .int .u64 mask] w2 := ⟨T2.row, P1.act.mod mA exA⟩
    have P2D : Pair w0 i w.heap.size [.int .u8 what, .int .u8 nn, .string (S t), .int .u64 mask] w2.drew := ⟨T2.drew.row, P2.act.still (Still.refl w2).toDrew⟩
    refine .inl ⟨rfl, fun wq => Pair w0 i w.heap.size [.int .u8 what, .int .u8 nn, .string (S t), .int .u64 mask] wq, P2D, _, fun wq hq => hq.row.lget rfl, _, fun wq hq => hq.act.lget rfl, by decide, _, fun wq hq => hq.act.lget rfl, ?_⟩
    rw [wrap_i64 (by omega) (by omega)]
    refine (ref_Limit_spec T2.drew.ref.dev _ _).mono ?_
    rintro _ w3 ⟨rfl, m3, d3⟩
    have T3 := T2.drew.devB m3 d3
    have mB : Mod i.B w2.drew w3 := m3.weaken fun k hk => hk.elim .inl fun h => .inr (.inl h)
    exact .inl ⟨rfl, rfl, i, _, rfl, T3, ⟨limit_ok ok.s (by omega) hm0 hm1, ok.k, ok.l⟩, T2.drew.stillB (T1D.stillA h01D mA).toDrew mB⟩
  · refine ⟨_, T1.row.lget rfl, (device_Restart_spec T1.prog.dev).mono ?_⟩
    rintro _ w4 ⟨rfl, m4, d4⟩
    have T4 := T1.devA m4 d4
    have mA : Mod i.A w1 w4 := m4.weaken fun k hk => hk.elim .inl fun h => .inr (.inl h)
    refine .inl ⟨rfl, _, T4.row.lget rfl, (ref_Restart_spec T4.ref.dev).mono ?_⟩
    rintro _ w5 ⟨rfl, m5, d5⟩
    have T5 := T4.devB m5 d5
    have mB : Mod i.B w4 w5 := m5.weaken fun k hk => hk.elim .inl fun h => .inr (.inl h)
    have h05 := T4.stillB (T1.stillA h01 mA) mB
    have T5D := T5.drew
    have ok5 := restart_ok ok.s
    refine .inl ⟨rfl, fun wq => Row wq i.gx ty_scullionlaw04_pair _, T5D.row, _, fun wq hq => hq.lget rfl, _, fun wq hq => hq.lget rfl, (jopen_spec he h05.toDrew T5D.prog.dev ok5 T5D.prog.low.2.1 T5D.prog.low.2.2).mono ?_⟩
    rintro _ w6 ⟨gj, rp, rfl, s6, hgj, hrp, J6⟩
    refine .inl ⟨_, rfl, T5D.row.still s6, (ropen_spec (h05.toDrew.trans s6) (T5D.ref.dev.mod s6 (fun h => h) (fun h => h)) ok5 T5D.ref.low.2.1 T5D.ref.low.2.2).mono ?_⟩
    rintro _ w7 ⟨hj, rq, rfl, s7, hhj, hrq, R7⟩
    have r7 := (T5D.row.still s6).still s7
    refine .inl ⟨_, rfl, stK (g := i.gx) (o := 1) r7 (by simp) (by simp [Value.oneCell']) fun w8 r8 m8 z8 => ?_⟩
    simp only [ovw, List.set_cons_succ, List.set_cons_zero] at r8
    refine stK (g := i.gx) (o := 3) r8 (by simp) (by simp [Value.oneCell']) fun w9 r9 m9 z9 => ?_
    simp only [ovw, List.set_cons_succ, List.set_cons_zero] at r9
    have m79 : Mod (fun n => n = i.gx) w7 w9 := Mod.trans m8 m9 (fun _ h => h) (fun _ _ h => h)
    have lt := T5D.lt
    have J6lt : ∀ k, Foot gj i.g i.b rp k → k < w6.heap.size := fun k hk => (J6.foot hk).2
    have ap := apart_open (g := i.g) (b := i.b) (gj := gj) (h := i.h) (q := i.q) (hj := hj) (rp := rp) (rq := rq) (B0 := w5.drew.heap.size) (B1 := w6.heap.size) (fun k hk hx => T.apart k (hk.elim .inl fun h => .inr (.inl h)) (hx.elim .inl fun h => .inr (.inl h))) lt ⟨hgj, J6lt _ (.inr (.inr (.inl rfl)))⟩
      (fun k hk => ⟨by rcases hrp k hk with e | e; cases e; exact e, J6lt _ (.inr (.inr (.inr hk)))⟩) s6.size hhj (fun k hk => by rcases hrq k hk with e | e; cases e; exact e)
    have T9 := Two.opens (J6.still s7) R7 r7 r9 m79 ap T.low
    have h07 := (h05.toDrew.trans s6).trans s7
    have h09 : Still w0 w9 := Mod.trans h07 m79 (fun _ h => h) (fun n hn e => by have := T.low; omega)
    have BB := Both.of T9 (Js.opened_ok ok5) h09
    exact ⟨_, r9.lget rfl, bsel_of (fun h => by cases h) (fun _ => ⟨rfl, BB⟩)⟩
  · refine ⟨fun wq => Pair w0 i w.heap.size [.int .u8 what, .int .u8 nn, .string (S t), .int .u64 mask] wq, P1, _, fun wq hq => hq.row.lget rfl, _, fun wq hq => hq.row.lget rfl, (jclear_spec T1D.prog ok).mono ?_⟩
    rintro _ w2 ⟨rfl, rp', J2, m2, n2⟩
    have T2 := T1D.stepA J2 m2 n2
    refine .inl ⟨_, rfl, ⟨T2.row, P1.act.mod m2 exA⟩, (rclear_spec T2.ref ok).mono ?_⟩
    rintro _ w3 ⟨rfl, rq', R3, m3, n3⟩
    have T3 := T2.stepB R3 m3 n3
    have BB := Both.of T3 (Js.clear_ok ok).1 (T2.stillB (T1D.stillA h01D m2) m3)
    exact .inl ⟨_, rfl, by rw [decide_eq_true rfl], BB⟩
  · refine ⟨fun wq => Pair w0 i w.heap.size [.int .u8 what, .int .u8 nn, .string (S t), .int .u64 mask] wq, P1, _, fun wq hq => hq.row.lget rfl, _, fun wq hq => hq.act.lget rfl, _, fun wq hq => hq.row.lget rfl, _, fun wq hq => hq.act.lget rfl, (jappend_spec he h01D T1D.prog ok t).mono ?_⟩
    rintro _ w2 ⟨rfl, rp', J2, m2, n2⟩
    have T2 := T1D.stepA J2 m2 n2
    refine .inl ⟨_, rfl, ⟨T2.row, P1.act.mod m2 exA⟩, (rappend_spec (T1D.stillA h01D m2) T2.ref ok t).mono ?_⟩
    rintro _ w3 ⟨rfl, rq', R3, m3, n3⟩
    have T3 := T2.stepB R3 m3 n3
    have BB := Both.of T3 (Js.append_ok ok t).1 (T2.stillB (T1D.stillA h01D m2) m3)
    exact .inl ⟨_, rfl, by rw [decide_eq_true rfl], BB⟩
end Go.Proofs.YtddkalfffhkkkaaGreatDoor
namespace Go.Proofs.YtddkalfffhkkkaaGreatDoor
open Go.RowKit Vc
variable {w : World}
def ActsAt (w : World) (p : Option Addr) (n : Nat) : Prop := ∀ k, k < n → ∃ (a : Addr) (wh nn mk : Int) (s : Txt), p = some a ∧ w.cell? (a.add (k * 4)) = some (.int .u8 wh) ∧ w.cell? ((a.add (k * 4)).add 1) = some (.int .u8 nn) ∧
  w.cell? ((a.add (k * 4)).add 2) = some (.string (S s)) ∧ w.cell? ((a.add (k * 4)).add 3) = some (.int .u64 mk) ∧ 0 ≤ nn ∧ nn < 256 ∧ 0 ≤ mk ∧ mk < 18446744073709551616
theorem ActsAt.still {p : Option Addr} {n : Nat} {w' : World} (h : ActsAt w p n) (hm : Still w w') : ActsAt w' p n := by
  intro k hk
  obtain ⟨a, wh, nn, mk, s, h1, h2, h3, h4, h5, h6⟩ := h k hk
  exact ⟨a, wh, nn, mk, s, h1, hm.cell h2, hm.cell h3, hm.cell h4, hm.cell h5, h6⟩
def U16At (w : World) (p : Option Addr) (n : Nat) : Prop := ∀ k, k < n → ∃ (a : Addr) (v : Nat), p = some a ∧ v < 65536 ∧ w.cell? (a.add k) = some (.int .u16 (v : Int))
theorem U16At.still {p : Option Addr} {n : Nat} {w' : World} (h : U16At w p n) (hm : Still w w') : U16At w' p n := by
  intro k hk
  obtain ⟨a, v, h1, h2, h3⟩ := h k hk
  exact ⟨a, v, h1, h2, hm.cell h3⟩
theorem recs_le {j : Js} (ok : j.Ok) : j.l.length ≤ 5000 := by have := ok.l; have := ok.k; have := ok.s.n2; omega
set_option maxHeartbeats 1000000 in
theorem JournalPlays_spec (he : Env w) (size : Int) (h0 : 0 ≤ size) (h1 : size < 256) {p : Option Addr} {L C : Nat} (ha : ActsAt w p L) : Calls Tryz.prog fn_law04_JournalPlays #[.int .u8 size, .slice p L C] w (fun e w' => e = .returned (.bool true) ∧ Still w w') := by
  refine law04_JournalPlays_calls _ _ _ _ _ _ ?_
  refine (awake4_spec he (Still.refl w)).mono ?_
  rintro _ w1 ⟨rfl, s1⟩
  refine .inl ⟨_, rfl, bsel_of (fun h => by cases h) (fun _ => ⟨by decide, ?_⟩)⟩
  have hm := u8_mod h0 h1 (m := 24) (by decide) (by decide)
  have e1 : IntKind.i64.wrap (1 + (Int.tmod (IntKind.i64.wrap size) 24)) = ((1 + (Int.tmod size 24).toNat : Nat) : Int) := by rw [wrap_i64 (n := size) (by omega) (by omega), wrap_i64 (by omega) (by omega)]; omega
  rw [e1]
  have hn1 : 1 ≤ 1 + (Int.tmod size 24).toNat := by omega
  have hn2 : 1 + (Int.tmod size 24).toNat ≤ 4096 := by omega
  generalize 1 + (Int.tmod size 24).toNat = n at hn1 hn2
  refine (begun_spec he s1 hn1 hn2).mono ?_
  rintro _ w2 ⟨i0, rfl, s2, T2⟩
  have B2 := Both.of T2 ⟨new_ok hn1 hn2, Nat.zero_le _, Nat.le_refl _⟩ (s1.trans s2)
  generalize i0.gx = gx at B2
  refine .inl ⟨_, _, rfl, bsel_of (fun h => by cases h) (fun _ => ?_)⟩
  refine ⟨fun x w3 => ∃ k : Nat, x = (k : Int) ∧ Both w gx w3, fun x _ => 14 - x.toNat, ⟨0, rfl, B2⟩, ?_⟩
  rintro _ _ w3 ⟨k, rfl, B3⟩
  refine bsel_of (fun hx => bsel_of (fun hx2 => ?_) (fun _ => ?_)) (fun _ => ?_)
  · have hx : k < L := by have := of_decide_eq_true hx; omega
    have hx2 : k < 14 := by have := of_decide_eq_true hx2; omega
    obtain ⟨i, j, rfl, T3, ok, h03⟩ := B3
    obtain ⟨a, wh, nn, mk, s, rfl, c0, c1, c2, c3, g1, g2, g3, g4⟩ := ha k hx
    have ec : Int.toNat (k : Int) * 4 = k * 4 := by rw [Int.toNat_natCast]
    refine ⟨by omega, by omega, _, by rw [ec]; exact h03.cell c2, bsel_of (fun _ => ⟨rfl, h03⟩) (fun _ => ?_)⟩
    refine ⟨fun wq => Still w wq, h03.toDrew, by omega, by omega, _, _, _, _, fun wq hq => by rw [ec]; exact hq.cell c0, fun wq hq => by rw [ec]; exact hq.cell c1, fun wq hq => by rw [ec]; exact hq.cell c2, fun wq hq => by rw [ec]; exact hq.cell c3, ?_⟩
    refine (does_spec he (Both.of T3.drew ok h03.toDrew) wh nn s mk g1 g2 g3 g4).mono ?_
    rintro _ w4 ⟨rfl, i4, j4, hg4, T4, ok4, h04⟩
    rw [← hg4]
    refine .inl ⟨_, rfl, fun wq => Row wq i4.gx ty_scullionlaw04_pair _, T4.row, bsel_of (fun h => by cases h) (fun _ => ?_)⟩
    refine ⟨_, fun wq hq => hq.lget rfl, _, fun wq hq => hq.lget rfl, (jrecords_spec T4.prog (recs_le ok4)).mono ?_⟩
    rintro _ w5 ⟨q, D, rfl, o5, s5⟩
    refine .inl ⟨_, _, _, rfl, T4.row.still s5, (rrecords_spec (T4.ref.still s5) (recs_le ok4)).mono ?_⟩
    rintro _ w6 ⟨q2, D2, rfl, o6, s6⟩
    refine .inl ⟨_, _, _, rfl, fun _ => True, trivial, (same_spec ((StrsAt.of o5).still s6) (StrsAt.of o6) (by have := recs_le ok4; omega)).mono ?_⟩
    rintro _ w7 ⟨rfl, s7⟩
    rw [decide_eq_true rfl]
    have s47 := (s5.trans s6).trans s7
    have B7 := Both.of (T4.still s47) ok4 (h04.trans s47)
    rw [hg4] at B7
    refine .inl ⟨_, rfl, fun _ => True, trivial, bsel_of (fun h => by cases h) (fun _ => ⟨⟨k + 1, by rw [wrap_i64 (by omega) (by omega)]; omega, ?_⟩, ?_⟩)⟩
    · rw [hg4]; exact B7
    · dsimp only
      rw [wrap_i64 (by omega) (by omega)]
      omega
  · obtain ⟨i, j, rfl, T, ok, h03⟩ := B3
    refine ⟨fun wq => Row wq i.gx ty_scullionlaw04_pair _, T.drew.row, _, fun wq hq => hq.lget rfl, _, fun wq hq => hq.lget rfl, (Same_spec T.drew.prog.dev T.drew.ref.dev ok.s).mono ?_⟩
    rintro _ w8 ⟨rfl, rfl⟩
    exact .inl ⟨_, rfl, fun _ => True, trivial, rfl, h03.toDrew⟩
  · obtain ⟨i, j, rfl, T, ok, h03⟩ := B3
    refine ⟨fun wq => Row wq i.gx ty_scullionlaw04_pair _, T.drew.row, _, fun wq hq => hq.lget rfl, _, fun wq hq => hq.lget rfl, (Same_spec T.drew.prog.dev T.drew.ref.dev ok.s).mono ?_⟩
    rintro _ w8 ⟨rfl, rfl⟩
    exact .inl ⟨_, rfl, fun _ => True, trivial, rfl, h03.toDrew⟩
set_option maxHeartbeats 1000000 in
theorem JournalFull_spec (he : Env w) (size : Int) (h0 : 0 ≤ size) (h1 : size < 256) {p : Option Addr} {L C : Nat} (ha : U16At w p L) : Calls Tryz.prog fn_law04_JournalFull #[.int .u8 size, .slice p L C] w (fun e w' => e = .returned (.bool true) ∧ Still w w') := by
  refine law04_JournalFull_calls _ _ _ _ _ _ ?_
  refine (awake4_spec he (Still.refl w)).mono ?_
  rintro _ w1 ⟨rfl, s1⟩
  refine .inl ⟨_, rfl, bsel_of (fun h => by cases h) (fun _ => ⟨by decide, ?_⟩)⟩
  have hm := u8_mod h0 h1 (m := 20) (by decide) (by decide)
  have e1 : IntKind.i64.wrap (1 + (Int.tmod (IntKind.i64.wrap size) 20)) = ((1 + (Int.tmod size 20).toNat : Nat) : Int) := by rw [wrap_i64 (n := size) (by omega) (by omega), wrap_i64 (by omega) (by omega)]; omega
  rw [e1]
  have hn1 : 1 ≤ 1 + (Int.tmod size 20).toNat := by omega
  have hn2 : 1 + (Int.tmod size 20).toNat ≤ 4096 := by omega
  generalize 1 + (Int.tmod size 20).toNat = n at hn1 hn2
  refine (begun_spec he s1 hn1 hn2).mono ?_
  rintro _ w2 ⟨i0, rfl, s2, T2⟩
  have B2 := Both.of T2 ⟨new_ok hn1 hn2, Nat.zero_le _, Nat.le_refl _⟩ (s1.trans s2)
  generalize i0.gx = gx at B2
  refine .inl ⟨_, _, rfl, bsel_of (fun h => by cases h) (fun _ => ?_)⟩
  refine ⟨fun x w3 => ∃ k : Nat, x = (k : Int) ∧ k ≤ 30 ∧ Both w gx w3, fun x _ => 30 - x.toNat, ⟨0, rfl, by decide, B2⟩, ?_⟩
  rintro _ _ w3 ⟨k, rfl, hk30, B3⟩
  refine ⟨fun w4 => k < L ∧ k < 30 ∧ Both w gx w4, ⟨fun x w4 => (x = true → k < L ∧ k < 30) ∧ Both w gx w4, ?_, ?_⟩, ?_⟩
  · refine bsel_of (fun hx => ⟨fun h => ⟨by have := of_decide_eq_true hx; omega, by have := of_decide_eq_true h; omega⟩, B3⟩) (fun _ => ⟨fun h => (by cases h), B3⟩)
  · rintro x _ w4 ⟨hx, B4⟩
    refine bsel_of (fun h => ⟨(hx h).1, (hx h).2, B4⟩) (fun _ => ?_)
    obtain ⟨i, j, rfl, T, ok, h03⟩ := B4
    refine ⟨fun wq => Row wq i.gx ty_scullionlaw04_pair _, T.drew.row, _, fun wq hq => hq.lget rfl, _, fun wq hq => hq.lget rfl, (jrecords_spec T.drew.prog (recs_le ok)).mono ?_⟩
    rintro _ w5 ⟨q, D, rfl, o5, s5⟩
    refine .inl ⟨_, _, _, rfl, T.drew.row.still s5, (rrecords_spec (T.drew.ref.still s5) (recs_le ok)).mono ?_⟩
    rintro _ w6 ⟨q2, D2, rfl, o6, s6⟩
    refine .inl ⟨_, _, _, rfl, (T.drew.row.still s5).still s6, (same_spec ((StrsAt.of o5).still s6) (StrsAt.of o6) (by have := recs_le ok; omega)).mono ?_⟩
    rintro _ w7 ⟨rfl, s7⟩
    rw [decide_eq_true rfl]
    have s47 := (s5.trans s6).trans s7
    have T7 := T.drew.still s47
    refine .inl ⟨_, rfl, T7.row, _, fun wq hq => hq.lget rfl, _, fun wq hq => hq.lget rfl, (Same_spec T7.prog.dev T7.ref.dev ok.s).mono ?_⟩
    rintro _ w8 ⟨rfl, rfl⟩
    exact .inl ⟨_, rfl, rfl, h03.toDrew.trans s47⟩
  · rintro _ w9 ⟨hkL, hk30, i, j, rfl, T, ok, h09⟩
    obtain ⟨a, v, rfl, hv, hc⟩ := ha k hkL
    have ec : Int.toNat (k : Int) * 1 = k := by rw [Int.toNat_natCast]; omega
    have ew : IntKind.i64.wrap (v : Int) = v := wrap_i64 (by omega) (by omega)
    have em : Int.tmod (v : Int) 300 = ((v % 300 : Nat) : Int) := tmod_nat v 300
    refine ⟨by omega, by omega, _, by rw [ec]; exact h09.cell hc, by decide, ?_⟩
    rw [ew, em]
    have hv3 : v % 300 < 300 := Nat.mod_lt _ (by decide)
    generalize v % 300 = z at hv3
    refine ⟨by omega, by omega, by omega, by omega, ?_⟩
    rw [madeCells_zero _ (by intro v hv; simpa using hv) (by simp), Int.toNat_natCast, Nat.mul_one]
    refine allocK fun w10 r10 s10 z10 => ⟨List.replicate z 0, ⟨by simp, fun _ => ⟨_, rfl, fun n u hu => ?_⟩⟩, by omega, by omega, _, by rw [ec]; exact (h09.trans s10).cell hc, by decide, ?_⟩
    · have hn : n < z := by have := (List.getElem?_eq_some_iff.1 hu).1; simpa using this
      rw [add_row, Nat.zero_add]
      refine r10.lget ?_
      rw [cellsF_get hn]
      obtain rfl := (List.mem_replicate.1 (List.mem_of_getElem? hu)).2
      rfl
    have T10 := T.still s10
    have h010 := h09.trans s10
    have again : ∀ {w' : World}, Both w i.gx w' → (∃ k' : Nat, IntKind.i64.wrap ((k : Int) + 1) = (k' : Int) ∧ k' ≤ 30 ∧ Both w i.gx w') ∧ (30 - (IntKind.i64.wrap ((k : Int) + 1)).toNat < 30 - (k : Int).toNat) := by
      intro w' hB
      rw [wrap_i64 (by omega) (by omega)]
      exact ⟨⟨k + 1, by omega, by omega, hB⟩, by omega⟩
    refine bsel_of (fun _ => ?_) (fun _ => ?_)
    · refine ⟨fun wq => Row wq i.gx ty_scullionlaw04_pair _, T10.drew.row, _, fun wq hq => hq.lget rfl, _, fun wq hq => hq.lget rfl, (jclear_spec T10.drew.prog ok).mono ?_⟩
      rintro _ w11 ⟨rfl, rp', J2, m2, n2⟩
      have T2 := T10.drew.stepA J2 m2 n2
      refine .inl ⟨_, rfl, T2.row, (rclear_spec T2.ref ok).mono ?_⟩
      rintro _ w12 ⟨rfl, rq', R3, m3, n3⟩
      have T3 := T2.stepB R3 m3 n3
      have BB := Both.of T3 (Js.clear_ok ok).1 (T2.stillB (T10.drew.stillA h010.toDrew m2) m3)
      refine .inl ⟨_, rfl, ?_⟩
      rw [decide_eq_true rfl]
      exact again BB
    · refine ⟨fun wq => Row wq i.gx ty_scullionlaw04_pair _, T10.drew.row, _, fun wq hq => hq.lget rfl, _, fun wq hq => hq.lget rfl, (jappend_spec he h010.toDrew T10.drew.prog ok (List.replicate z 0)).mono ?_⟩
      rintro _ w13 ⟨rfl, rp', J2, m2, n2⟩
      have T2 := T10.drew.stepA J2 m2 n2
      refine .inl ⟨_, rfl, T2.row, (rappend_spec (T10.drew.stillA h010.toDrew m2) T2.ref ok (List.replicate z 0)).mono ?_⟩
      rintro _ w14 ⟨rfl, rq', R3, m3, n3⟩
      have T3 := T2.stepB R3 m3 n3
      have BB := Both.of T3 (Js.append_ok ok (List.replicate z 0)).1 (T2.stillB (T10.drew.stillA h010.toDrew m2) m3)
      refine .inl ⟨_, rfl, ?_⟩
      rw [decide_eq_true rfl]
      exact again BB
end Go.Proofs.YtddkalfffhkkkaaGreatDoor
namespace Go.Proofs.YtddkalfffhkkkaaGreatDoor
open Go.RowKit Vc
variable {w w0 : World}
theorem opensBoth {i : Ids} {j jr : Js} (he : Env w0) (h0 : Still w0 w) (T : Two w0 w i j jr) (hs : j.s = jr.s) (ok : j.s.Ok) {R : World → Prop}
    (h : ∀ (i' : Ids) (w' : World), i'.gx = i.gx → Two w0 w' i' (Js.opened j.s) (Js.opened j.s) → Still w0 w' → R w') :
    Calls Tryz.prog fn_journal_Open #[.pointer (some ⟨i.g, 0, none⟩)] w (fun e w5 => ∃ gj, e = .returned (.pointer (some ⟨gj, 0, none⟩)) ∧ Row w5 i.gx ty_scullionlaw04_pair ⟨[.pointer (some ⟨i.g, 0, none⟩), .pointer (some ⟨i.gj, 0, none⟩), .pointer (some ⟨i.h, 0, none⟩), .pointer (some ⟨i.hj, 0, none⟩)]⟩ ∧
      Calls Tryz.prog fn_ref04_Open #[.pointer (some ⟨i.h, 0, none⟩)] w5 (fun e2 w6 => ∃ hj, e2 = .returned (.pointer (some ⟨hj, 0, none⟩)) ∧
        stCells (Addr.mk i.gx 1 none) (fun w7 => stCells (Addr.mk i.gx 3 none) R 0 [.pointer (some ⟨hj, 0, none⟩)] w7) 0 [.pointer (some ⟨gj, 0, none⟩)] w6)) := by
  refine (jopen_spec he h0 T.prog.dev ok T.prog.low.2.1 T.prog.low.2.2).mono ?_
  rintro _ w6 ⟨gj, rp, rfl, s6, hgj, hrp, J6⟩
  refine ⟨gj, rfl, T.row.still s6, ?_⟩
  have hR := T.ref.dev.mod s6 (fun h => h) (fun h => h)
  rw [← hs] at hR
  refine (ropen_spec (h0.trans s6) hR ok T.ref.low.2.1 T.ref.low.2.2).mono ?_
  rintro _ w7 ⟨hj, rq, rfl, s7, hhj, hrq, R7⟩
  have r7 := (T.row.still s6).still s7
  refine ⟨hj, rfl, stK (g := i.gx) (o := 1) r7 (by simp) (by simp [Value.oneCell']) fun w8 r8 m8 z8 => ?_⟩
  simp only [ovw, List.set_cons_succ, List.set_cons_zero] at r8
  refine stK (g := i.gx) (o := 3) r8 (by simp) (by simp [Value.oneCell']) fun w9 r9 m9 z9 => ?_
  simp only [ovw, List.set_cons_succ, List.set_cons_zero] at r9
  have m79 : Mod (fun n => n = i.gx) w7 w9 := Mod.trans m8 m9 (fun _ h => h) (fun _ _ h => h)
  have J6lt : ∀ k, Foot gj i.g i.b rp k → k < w6.heap.size := fun k hk => (J6.foot hk).2
  have ap := apart_open (g := i.g) (b := i.b) (gj := gj) (h := i.h) (q := i.q) (hj := hj) (rp := rp) (rq := rq) (B0 := w.heap.size) (B1 := w6.heap.size) (fun k hk hx => T.apart k (hk.elim .inl fun h => .inr (.inl h)) (hx.elim .inl fun h => .inr (.inl h))) T.lt ⟨hgj, J6lt _ (.inr (.inr (.inl rfl)))⟩
    (fun k hk => ⟨by rcases hrp k hk with e | e; cases e; exact e, J6lt _ (.inr (.inr (.inr hk)))⟩) s6.size hhj (fun k hk => by rcases hrq k hk with e | e; cases e; exact e)
  have T9 := Two.opens (J6.still s7) R7 r7 r9 m79 ap T.low
  exact h ⟨i.gx, i.g, i.b, gj, rp, i.h, i.q, hj, rq⟩ w9 rfl T9 (Mod.trans ((h0.trans s6).trans s7) m79 (fun _ h => h) (fun n hn e => by have := T.low; omega))
set_option maxHeartbeats 1000000 in
theorem JournalOdd_spec (he : Env w) {p : Option Addr} {L C : Nat} {ls : List Txt} (hl : StrsAt w p L ls) (s : Txt) : Calls Tryz.prog fn_law04_JournalOdd #[.slice p L C, .string (S s)] w (fun e w' => e = .returned (.bool true) ∧ Still w w') := by
  refine law04_JournalOdd_calls _ _ _ _ _ _ ?_
  refine (awake4_spec he (Still.refl w)).mono ?_
  rintro _ w1 ⟨rfl, s1⟩
  refine .inl ⟨_, rfl, bsel_of (fun h => by cases h) (fun _ => ?_)⟩
  refine (begun_spec he s1 (n := 12) (by decide) (by decide)).mono ?_
  rintro _ w2 ⟨i0, rfl, s2, T2⟩
  have B2 := Both.of T2 ⟨new_ok (by decide) (by decide), Nat.zero_le _, Nat.le_refl _⟩ (s1.trans s2)
  generalize i0.gx = gx at B2
  have h02 := s1.trans s2
  refine .inl ⟨_, _, rfl, bsel_of (fun h => by cases h) (fun _ => bsel_of (fun _ => ⟨rfl, h02⟩) (fun _ => ?_))⟩
  refine ⟨fun x w3 => ∃ k : Nat, x = (k : Int) ∧ k ≤ 12 ∧ Both w gx w3, fun x _ => 12 - x.toNat, ⟨0, rfl, by decide, B2⟩, ?_⟩
  rintro _ _ w3 ⟨k, rfl, hk12, B3⟩
  refine ⟨fun w4 => k < L ∧ k < 12 ∧ Both w gx w4, ⟨fun x w4 => (x = true → k < L ∧ k < 12) ∧ Both w gx w4, ?_, ?_⟩, ?_⟩
  · refine bsel_of (fun hx => ⟨fun h => ⟨by have := of_decide_eq_true hx; omega, by have := of_decide_eq_true h; omega⟩, B3⟩) (fun _ => ⟨fun h => (by cases h), B3⟩)
  · rintro x _ w4 ⟨hx, B4⟩
    refine bsel_of (fun h => ⟨(hx h).1, (hx h).2, B4⟩) (fun _ => ?_)
    obtain ⟨i, j, rfl, T, ok, h03⟩ := B4
    refine ⟨fun wq => Row wq i.gx ty_scullionlaw04_pair _, T.drew.row, _, fun wq hq => hq.lget rfl, _, fun wq hq => hq.lget rfl, (opensBoth he h03.toDrew T.drew rfl ok.s (R := fun w' => ∃ i' : Ids, i'.gx = i.gx ∧ Two w w' i' (Js.opened j.s) (Js.opened j.s) ∧ Still w w') fun i' w' h1 h2 h3 => ⟨i', h1, h2, h3⟩).mono ?_⟩
    rintro _ w5 ⟨gj, rfl, r5, h5⟩
    refine .inl ⟨_, rfl, r5, h5.mono ?_⟩
    rintro _ w6 ⟨hj, rfl, h6⟩
    refine .inl ⟨_, rfl, ?_⟩
    have ok' := Js.opened_ok ok.s
    generalize Js.opened j.s = j' at h6 ok'
    have fin : ∀ w8, (∃ i' : Ids, i'.gx = i.gx ∧ Two w w8 i' j' j' ∧ Still w w8) → _ := fun w8 h => h
    clear fin
    have mono : ∀ {a : Addr} {K K' : World → Prop} {vs : List Value} {n : Nat} {w : World}, stCells a K n vs w → (∀ w', K w' → K' w') → stCells a K' n vs w := by
      intro a K K' vs
      induction vs with
      | nil => intro n w h hk; exact hk _ h
      | cons v r ih =>
        intro n w h hk
        obtain ⟨hv, h1, h2⟩ := bsel_true_out h
        refine bsel_of (fun _ => ⟨h1, ih h2 hk⟩) (fun h => by rw [hv] at h; cases h)
    refine mono h6 fun w7 h7 => mono h7 fun w8 h8 => ?_
    obtain ⟨i', hgx, T8, h08⟩ := h8
    rw [← hgx]
    refine ⟨fun wq => Row wq i'.gx ty_scullionlaw04_pair _, T8.drew.row, _, fun wq hq => hq.lget rfl, ?_⟩
    refine bsel_of (fun _ => ?_) (fun h => by cases h)
    refine ⟨_, fun wq hq => hq.lget rfl, _, fun wq hq => hq.lget rfl, (jrecords_spec T8.drew.prog (recs_le ok')).mono ?_⟩
    rintro _ w9 ⟨q, D, rfl, o5, s9⟩
    refine .inl ⟨_, _, _, rfl, T8.drew.row.still s9, (rrecords_spec (T8.drew.ref.still s9) (recs_le ok')).mono ?_⟩
    rintro _ w10 ⟨q2, D2, rfl, o6, s10⟩
    refine .inl ⟨_, _, _, rfl, (T8.drew.row.still s9).still s10, (same_spec ((StrsAt.of o5).still s10) (StrsAt.of o6) (by have := recs_le ok'; omega)).mono ?_⟩
    rintro _ w11 ⟨rfl, s11⟩
    rw [decide_eq_true rfl]
    have s8 := (s9.trans s10).trans s11
    have T11 := T8.drew.still s8
    have h011 := h08.toDrew.trans s8
    refine .inl ⟨_, rfl, T11.row, _, fun wq hq => hq.lget rfl, _, fun wq hq => hq.lget rfl, (jappend_spec he h011 T11.prog ok' s).mono ?_⟩
    rintro _ w12 ⟨rfl, rp', J2, m2, n2⟩
    have T12 := T11.stepA J2 m2 n2
    refine .inl ⟨_, rfl, T12.row, (rappend_spec (T11.stillA h011 m2) T12.ref ok' s).mono ?_⟩
    rintro _ w13 ⟨rfl, rq', R3, m3, n3⟩
    have T13 := T12.stepB R3 m3 n3
    have h013 := T12.stillB (T11.stillA h011 m2) m3
    refine .inl ⟨_, rfl, T13.row, bsel_of (fun _ => ?_) (fun h => by simp at h)⟩
    refine ⟨_, fun wq hq => hq.lget rfl, _, fun wq hq => hq.lget rfl, (Same_spec T13.prog.dev T13.ref.dev (Js.append_ok ok' s).1.s).mono ?_⟩
    rintro _ w14 ⟨rfl, rfl⟩
    exact .inl ⟨_, rfl, rfl, h013⟩
  · rintro _ w15 ⟨hkL, hk12, i, j, rfl, T, ok, h0⟩
    obtain ⟨a, rfl, hc⟩ := hl.get hkL
    have ec : Int.toNat (k : Int) * 1 = k := by rw [Int.toNat_natCast]; omega
    refine ⟨fun wq => Row wq i.gx ty_scullionlaw04_pair _ ∧ Still w wq, ⟨T.drew.row, h0.toDrew⟩, _, fun wq hq => hq.1.lget rfl, by omega, by omega, _, fun wq hq => by rw [ec]; exact hq.2.cell hc, (device_Write_spec T.drew.prog.dev ok.s k _).mono ?_⟩
    rintro _ w16 ⟨rfl, m2, d2⟩
    have T2 := T.drew.devA m2 d2
    have mA : Mod i.A w15.drew w16 := m2.weaken fun k hk => hk.elim .inl fun h => .inr (.inl h)
    have h016 := T.drew.stillA h0.toDrew mA
    refine .inl ⟨_, rfl, fun wq => Row wq i.gx ty_scullionlaw04_pair _ ∧ Still w wq, ⟨T2.drew.row, h016.toDrew⟩, _, fun wq hq => hq.1.lget rfl, by omega, by omega, _, fun wq hq => by rw [ec]; exact hq.2.cell hc, (ref_Write_spec T2.drew.ref.dev ok.s k _).mono ?_⟩
    rintro _ w17 ⟨rfl, m3, d3⟩
    have T3 := T2.drew.devB m3 d3
    have mB : Mod i.B w16.drew w17 := m3.weaken fun k hk => hk.elim .inl fun h => .inr (.inl h)
    obtain ⟨g1, g2⟩ := write_ok ok.s k (ls[k]'(by have := hl.1; omega))
    have okj : (⟨(j.s.write k (ls[k]'(by have := hl.1; omega))).2, j.l, j.k⟩ : Js).Ok := ⟨g1, by have := ok.k; dsimp only; omega, ok.l⟩
    have BB := Both.of T3 okj (T2.drew.stillB h016.toDrew mB)
    refine .inl ⟨_, rfl, ⟨k + 1, by rw [wrap_i64 (by omega) (by omega)]; omega, by omega, BB⟩, ?_⟩
    dsimp only
    rw [wrap_i64 (by omega) (by omega)]
    omega
theorem xor_u8 (a b : Int) : ∃ u : UInt8, bits .xor .u8 a b = (u.toNat : Int) := ⟨_, wrap_u8d _⟩
set_option maxHeartbeats 1000000 in
theorem JournalTurned_spec (he : Env w) {p : Option Addr} {L C : Nat} {ls : List Txt} (hl : StrsAt w p L ls) (ax : Int) (ha0 : 0 ≤ ax) (ha1 : ax < 65536) (bx : Int) (_hb0 : 0 ≤ bx) (_hb1 : bx < 256) :
    Calls Tryz.prog fn_law04_JournalTurned #[.slice p L C, .int .u16 ax, .int .u8 bx] w (fun e w' => e = .returned (.bool true) ∧ Still w w') := by
  refine law04_JournalTurned_calls _ _ _ _ _ _ _ ?_
  refine (awake4_spec he (Still.refl w)).mono ?_
  rintro _ w1 ⟨rfl, s1⟩
  refine .inl ⟨_, rfl, bsel_of (fun h => by cases h) (fun _ => ?_)⟩
  refine (begun_spec he s1 (n := 20) (by decide) (by decide)).mono ?_
  rintro _ w2 ⟨i0, rfl, s2, T2⟩
  have B2 : ∃ (i : Ids) (j : Js), i.gx = i0.gx ∧ Two w w2 i j j ∧ j.Ok ∧ Still w w2 ∧ j.s.n = 20 := ⟨i0, _, rfl, T2, ⟨new_ok (by decide) (by decide), Nat.zero_le _, Nat.le_refl _⟩, s1.trans s2, rfl⟩
  generalize i0.gx = gx at B2
  refine .inl ⟨_, _, rfl, bsel_of (fun h => by cases h) (fun _ => ?_)⟩
  refine ⟨fun x w3 => ∃ k : Nat, x = (k : Int) ∧ k ≤ 4 ∧ ∃ (i : Ids) (j : Js), i.gx = gx ∧ Two w w3 i j j ∧ j.Ok ∧ Still w w3 ∧ j.s.n = 20, fun x _ => 4 - x.toNat, ⟨0, rfl, by decide, B2⟩, ?_⟩
  rintro _ _ w3 ⟨k, rfl, hk4, B3⟩
  refine ⟨fun w4 => k < L ∧ k < 4 ∧ ∃ (i : Ids) (j : Js), i.gx = gx ∧ Two w w4 i j j ∧ j.Ok ∧ Still w w4 ∧ j.s.n = 20, ⟨fun x w4 => (x = true → k < L ∧ k < 4) ∧ ∃ (i : Ids) (j : Js), i.gx = gx ∧ Two w w4 i j j ∧ j.Ok ∧ Still w w4 ∧ j.s.n = 20, ?_, ?_⟩, ?_⟩
  · refine bsel_of (fun hx => ⟨fun h => ⟨by have := of_decide_eq_true hx; omega, by have := of_decide_eq_true h; omega⟩, B3⟩) (fun _ => ⟨fun h => (by cases h), B3⟩)
  · rintro x _ w4 ⟨hx, B4⟩
    refine bsel_of (fun h => ⟨(hx h).1, (hx h).2, B4⟩) (fun _ => ?_)
    obtain ⟨i, j, rfl, T, ok, h04, hn20⟩ := B4
    have e1 : Int.tmod (IntKind.i64.wrap ax) 1280 = ((ax.toNat % 1280 : Nat) : Int) := by
      rw [wrap_i64 (by omega) (by omega)]
      conv => lhs; rw [show ax = ((ax.toNat : Nat) : Int) by omega]
      exact tmod_nat _ 1280
    rw [e1]
    have hk0 : ax.toNat % 1280 < 1280 := Nat.mod_lt _ (by decide)
    generalize ax.toNat % 1280 = kk at hk0
    have e2 : Int.tdiv ((kk : Nat) : Int) 64 = ((kk / 64 : Nat) : Int) := (Int.ofNat_tdiv kk 64).symm
    have e3 : Int.tmod ((kk : Nat) : Int) 64 = ((kk % 64 : Nat) : Int) := tmod_nat kk 64
    rw [e2, e3, wrap_i64 (n := ((kk / 64 : Nat) : Int)) (by omega) (by omega), Int.toNat_natCast]
    have hd20 : kk / 64 < 20 := by omega
    have hm64 : kk % 64 < 64 := Nat.mod_lt _ (by decide)
    generalize kk / 64 = ks at hd20
    generalize kk % 64 = kb at hm64
    refine ⟨by decide, _, T.row.lget rfl, by decide, (ref_Read_spec T.ref.dev _).mono ?_⟩
    rintro _ w5 ⟨rfl, rfl⟩
    rw [if_pos ⟨by omega, by omega⟩, Int.toNat_natCast]
    have hrl : (rowF j.s.F (ks * 64) 64).length = 64 := rowF_length _ _ _
    generalize rowF j.s.F (ks * 64) 64 = r at hrl
    refine .inl ⟨_, _, rfl, by omega, fun cp w6 ho6 hg6 => ?_⟩
    have s6 : Still w5 w6 := (Mod.refl _ _).grown hg6 fun _ h => by cases h
    obtain ⟨g', cap, cur, hv, _, hr6, hcap, hsz, htk⟩ := ho6.row (by omega)
    injection hv with hv1 hv2 hv3
    injection hv1 with hv1
    injection hv1 with hv1 _ _
    subst hv1 hv3
    have hcur : ∀ (n : Nat) (u : UInt8), r[n]? = some u → cur.toList[n]? = some (.int .u8 (u.toNat : Int)) := by
      intro n u hu
      have hn : n < r.length := (List.getElem?_eq_some_iff.1 hu).1
      have h2 : (cur.toList.take (r.length * 1))[n]? = some (.int .u8 (u.toNat : Int)) := by rw [htk]; simp [hu]
      rwa [List.getElem?_take_of_lt (by omega)] at h2
    have hcl : 64 ≤ cur.toList.length := by simp; omega
    have hr6' : Row w6 w5.heap.size ty_uint8 ⟨cur.toList⟩ := hr6
    obtain ⟨u0, hu0⟩ : ∃ u, r[kb]? = some u := ⟨_, getD_some (by omega)⟩
    refine ⟨by decide, by decide, by omega, by omega, _, by rw [add_row, Nat.zero_add, Nat.mul_one]; exact hr6'.lget (hcur _ _ hu0), by omega, by omega, ?_⟩
    obtain ⟨ub, hub⟩ := xor_u8 (u0.toNat : Int) bx
    rw [hub, add_row, Nat.zero_add, Nat.mul_one]
    refine stK (g := w5.heap.size) (o := kb) hr6' (by simp; omega) (by simp [Value.oneCell']) fun w7 r7 m7 z7 => ?_
    simp only [ovw] at r7
    have T6 := T.still s6
    have h06 := h04.trans s6
    have gB : ∀ {n}, n = w5.heap.size → w.heap.size ≤ n := fun h => by have := h04.size; omega
    have s57 : Still w5 w7 := Mod.trans s6 m7 (fun _ h => h) (fun n hn e => by omega)
    have T7 := T.still s57
    have h07 := h04.trans s57
    have hbytes : ∀ {wq : World}, Row wq w5.heap.size ty_uint8 ⟨cur.toList.set kb (.int .u8 (ub.toNat : Int))⟩ → ∀ (n : Nat) (u : UInt8), (r.set kb ub)[n]? = some u → wq.cell? ((Addr.mk w5.heap.size 0 none).add n) = some (.int .u8 (u.toNat : Int)) := by
      intro wq hq n u hu
      rw [add_row, Nat.zero_add]
      refine hq.lget ?_
      by_cases e : kb = n
      · subst e
        rw [List.getElem?_set_self (by omega)] at hu ⊢
        rw [← Option.some.inj hu]
      · rw [List.getElem?_set_ne e] at hu ⊢
        exact hcur _ _ hu
    have hlen : (r.set kb ub).length = r.length := List.length_set ..
    refine ⟨fun wq => Row wq i.gx ty_scullionlaw04_pair _ ∧ Row wq w5.heap.size ty_uint8 ⟨cur.toList.set kb (.int .u8 (ub.toNat : Int))⟩, ⟨T7.drew.row, r7⟩, _, fun wq hq => hq.1.lget rfl, by decide, r.set kb ub, ⟨hlen, fun _ => ⟨_, rfl, fun n u hu wq hq => hbytes hq.2 n u hu⟩⟩, (device_Write_spec T7.drew.prog.dev ok.s ks _).mono ?_⟩
    rintro _ w8 ⟨rfl, m8, d8⟩
    have T8 := T7.drew.devA m8 d8
    have mA : Mod i.A w7.drew w8 := m8.weaken fun k hk => hk.elim .inl fun h => .inr (.inl h)
    have h08 := T7.drew.stillA h07.toDrew mA
    have nA : ¬ i.A w5.heap.size := fun h => by have := (T.prog.foot h).2; omega
    have r8 := (r7.still (Still.refl w7).toDrew).mod mA nA
    refine .inl ⟨_, rfl, fun wq => Row wq i.gx ty_scullionlaw04_pair _ ∧ Row wq w5.heap.size ty_uint8 ⟨cur.toList.set kb (.int .u8 (ub.toNat : Int))⟩, ⟨T8.drew.row, r8⟩, _, fun wq hq => hq.1.lget rfl, by decide, r.set kb ub, ⟨hlen, fun _ => ⟨_, rfl, fun n u hu wq hq => hbytes hq.2 n u hu⟩⟩, (ref_Write_spec T8.drew.ref.dev ok.s ks _).mono ?_⟩
    rintro _ w9 ⟨rfl, m9, d9⟩
    have T9 := T8.drew.devB m9 d9
    have mB : Mod i.B w8.drew w9 := m9.weaken fun k hk => hk.elim .inl fun h => .inr (.inl h)
    have h09 := T8.drew.stillB h08.toDrew mB
    have ok9 := (write_ok ok.s ks (r.set kb ub)).1
    refine .inl ⟨_, rfl, fun wq => Row wq i.gx ty_scullionlaw04_pair _, T9.drew.row, _, fun wq hq => hq.lget rfl, _, fun wq hq => hq.lget rfl, (opensBoth he h09.toDrew T9.drew rfl ok9 (R := fun w' => ∃ i' : Ids, i'.gx = i.gx ∧ Two w w' i' (Js.opened (j.s.write ks (r.set kb ub)).2) (Js.opened (j.s.write ks (r.set kb ub)).2) ∧ Still w w') fun i' w' h1 h2 h3 => ⟨i', h1, h2, h3⟩).mono ?_⟩
    rintro _ w10 ⟨gj, rfl, r10, h10⟩
    refine .inl ⟨_, rfl, r10, h10.mono ?_⟩
    rintro _ w11 ⟨hj, rfl, h11⟩
    refine .inl ⟨_, rfl, ?_⟩
    have ok' := Js.opened_ok ok9
    generalize Js.opened (j.s.write ks (r.set kb ub)).2 = j' at h11 ok'
    have mono : ∀ {a : Addr} {K K' : World → Prop} {vs : List Value} {n : Nat} {w : World}, stCells a K n vs w → (∀ w', K w' → K' w') → stCells a K' n vs w := by
      intro a K K' vs
      induction vs with
      | nil => intro n w h hk; exact hk _ h
      | cons v r ih =>
        intro n w h hk
        obtain ⟨hv, h1, h2⟩ := bsel_true_out h
        refine bsel_of (fun _ => ⟨h1, ih h2 hk⟩) (fun h => by rw [hv] at h; cases h)
    refine mono h11 fun w12 h12 => mono h12 fun w13 h13 => ?_
    obtain ⟨i', hgx, T13, h013⟩ := h13
    rw [← hgx]
    refine ⟨fun wq => Row wq i'.gx ty_scullionlaw04_pair _, T13.drew.row, _, fun wq hq => hq.lget rfl, ?_⟩
    refine bsel_of (fun _ => ?_) (fun h => by cases h)
    refine ⟨_, fun wq hq => hq.lget rfl, _, fun wq hq => hq.lget rfl, (jrecords_spec T13.drew.prog (recs_le ok')).mono ?_⟩
    rintro _ w14 ⟨q, D, rfl, o5, s14⟩
    refine .inl ⟨_, _, _, rfl, T13.drew.row.still s14, (rrecords_spec (T13.drew.ref.still s14) (recs_le ok')).mono ?_⟩
    rintro _ w15 ⟨q2, D2, rfl, o6, s15⟩
    refine .inl ⟨_, _, _, rfl, (same_spec ((StrsAt.of o5).still s15) (StrsAt.of o6) (by have := recs_le ok'; omega)).mono ?_⟩
    rintro _ w16 ⟨rfl, s16⟩
    rw [decide_eq_true rfl]
    exact .inl ⟨_, rfl, rfl, h013.toDrew.trans ((s14.trans s15).trans s16)⟩
  · rintro _ w17 ⟨hkL, hk4, i, j, rfl, T, ok, h0, hn20⟩
    obtain ⟨a, rfl, hc⟩ := hl.get hkL
    have ec : Int.toNat (k : Int) * 1 = k := by rw [Int.toNat_natCast]; omega
    refine ⟨fun wq => Row wq i.gx ty_scullionlaw04_pair _ ∧ Still w wq, ⟨T.drew.row, h0.toDrew⟩, by omega, by omega, _, fun wq hq => by rw [ec]; exact hq.2.cell hc, bsel_of (fun hx => ?_) (fun hx => ?_)⟩
    · refine ⟨⟨T.drew.row, h0.toDrew⟩, by omega, by omega, _, by rw [ec]; exact h0.toDrew.cell hc, bsel_of (fun _ => ⟨rfl, h0.toDrew⟩) (fun h => by rw [hx] at h; cases h)⟩
    · refine ⟨_, fun wq hq => hq.1.lget rfl, by omega, by omega, _, fun wq hq => by rw [ec]; exact hq.2.cell hc, _, fun wq hq => hq.1.lget rfl, by omega, by omega, _, fun wq hq => by rw [ec]; exact hq.2.cell hc, (jappend_spec he h0.toDrew T.drew.prog ok _).mono ?_⟩
      rintro _ w18 ⟨rfl, rp', J2, m2, n2⟩
      have T2 := T.drew.stepA J2 m2 n2
      have h018 := T.drew.stillA h0.toDrew m2
      refine .inl ⟨_, rfl, ⟨T2.row, h018⟩, (rappend_spec h018 T2.ref ok _).mono ?_⟩
      rintro _ w19 ⟨rfl, rq', R3, m3, n3⟩
      have T3 := T2.stepB R3 m3 n3
      have h019 := T2.stillB h018 m3
      refine .inl ⟨_, rfl, bsel_of (fun h => by simp at h) (fun _ => ⟨⟨k + 1, by rw [wrap_i64 (by omega) (by omega)]; omega, by omega, _, _, ?_, T3, (Js.append_ok ok _).1, h019, (Js.append_ok ok _).2.trans hn20⟩, ?_⟩)⟩
      · rfl
      · dsimp only
        rw [wrap_i64 (by omega) (by omega)]
        omega
end Go.Proofs.YtddkalfffhkkkaaGreatDoor
