/- Texts of one proof, one behind the other. Conditions: as each theorem names them. -/
import Derived.Test.YtkdlmkbpfdogcaaGreatDoorQ1
import Derived.OrdersHeld
import Derived.Defers
import Derived.Recover
import Derived.RangeFuncRecord
import Derived.OrdersIn
namespace Go.Proofs.YtkdlmkbpfdogcaaGreatDoor.Vc
open Go.RowKit
def letW (w : World) (C : World → Prop) : Prop := C w
def appK (w : World) (e : TypeId) (sz bytes : Nat) (p : Option Addr) (n c : Nat) (q : Option Addr) (m : Nat) (K : Option Addr → Nat → World → Prop) : Prop :=
  ∃ xs news : List Value, Owns w 0 e sz (.slice p n c) n xs ∧ news.length = m * sz ∧ (∀ u ∈ news, u.oneCell' = true) ∧
    (0 < m → ∃ a, q = some a ∧ ∀ j u, news[j]? = some u → w.cell? (a.add j) = some u) ∧ n + m ≤ 9223372036854775807 ∧ (n + m) * bytes ≤ 140737488355328 ∧
    ∀ (p' : Option Addr) (c' : Nat) (w' : World), Owns w' 0 e sz (.slice p' (n + m) c') (n + m) (xs ++ news) → w.grownBy w' (Value.slice p n c).ownBlock →
      Blk p p' (n + m) c c' w.heap.size → K p' c' w'
def appS (w : World) (e : TypeId) (sz bytes : Nat) (p : Option Addr) (n c : Nat) (b : List UInt8) (K : Option Addr → Nat → World → Prop) : Prop :=
  ∃ xs : List Value, Owns w 0 e sz (.slice p n c) n xs ∧ n + b.length ≤ 9223372036854775807 ∧ (n + b.length) * bytes ≤ 140737488355328 ∧
    ∀ (p' : Option Addr) (c' : Nat) (w' : World), Owns w' 0 e sz (.slice p' (n + b.length) c') (n + b.length) (xs ++ b.map (fun b => Value.int .u8 b.toNat)) → w.grownBy w' (Value.slice p n c).ownBlock →
      Blk p p' (n + b.length) c c' w.heap.size → K p' c' w'
def AgreeOff (ws : List Nat) (l l' : Fr) : Prop := l'.length = l.length ∧ ∀ t, t ∉ ws → l'[t]? = l[t]?
theorem AgreeOff.refl (ws : List Nat) (l : Fr) : AgreeOff ws l l := ⟨rfl, fun _ _ => rfl⟩
theorem AgreeOff.trans {ws vs us : List Nat} {a b c : Fr} (h : AgreeOff ws a b) (k : AgreeOff vs b c) (hw : ∀ t ∈ ws, t ∈ us) (hv : ∀ t ∈ vs, t ∈ us) : AgreeOff us a c :=
  ⟨k.1.trans h.1, fun t ht => (k.2 t fun e => ht (hv t e)).trans (h.2 t fun e => ht (hw t e))⟩
theorem AgreeOff.mono {ws us : List Nat} {a b : Fr} (h : AgreeOff ws a b) (hw : ∀ t ∈ ws, t ∈ us) : AgreeOff us a b := ⟨h.1, fun t ht => h.2 t fun e => ht (hw t e)⟩
theorem AgreeOff.put (l : Fr) (d : Option Nat) (v : Value) : AgreeOff d.toList l (put l d v) := by
  cases d with
  | none => exact AgreeOff.refl _ _
  | some d =>
    refine ⟨by simp [Vc.put], fun t ht => ?_⟩
    have : d ≠ t := fun e => ht (by simp [e])
    simp [Vc.put, List.getElem?_set_ne this]
def dsts (ops : List Oper) : List Nat := ops.flatMap fun o => o.dst.toList
def guardK (ops : List Oper) (l : Fr) (g : Option (Nat × Bool)) (A B : Fr → Prop) : Prop := match g with
  | none => A l
  | some (j, want) => match ops[j]? with
    | some o => match o.dst with
      | some d => getK l d fun v => match v with
        | .bool b => bsel b (setK l d (.bool true) fun l' => bsel want (A l') (B l')) (setK l d (.bool false) fun l' => bsel want (B l') (A l'))
        | .tuple _ => B l
        | _ => False
      | none => False
    | none => False
theorem set_same {l : Fr} {d : Nat} {v : Value} (h : l[d]? = some v) : l.set d v = l := by
  apply List.ext_getElem?
  intro i
  by_cases hi : d = i
  · subst hi
    have hd := (List.getElem?_eq_some_iff.1 h).1
    rw [List.getElem?_set_self hd, h]
  · rw [List.getElem?_set_ne hi]
theorem guardK_out {ops : List Oper} {l : Fr} {ds : List Deferred} {o : Oper} {A B : Fr → Prop} (h : guardK ops l o.guard A B) :
    (Region.wanted o (yielded ⟨ops⟩ (act l ds).tmps) = true ∧ A l) ∨ (Region.wanted o (yielded ⟨ops⟩ (act l ds).tmps) = false ∧ B l) := by
  unfold guardK at h
  split at h
  · rename_i hg
    exact .inl ⟨by simp [Region.wanted, hg], h⟩
  · rename_i j want hg
    split at h
    · rename_i oj hj
      split at h
      · rename_i d hd
        obtain ⟨v, hv, h⟩ := getK_out h
        split at h
        · rename_i b
          have hy : yielded ⟨ops⟩ (act l ds).tmps j = some b := by
            simp [yielded, hj, hd, act, hv]
          rw [bsel_iff] at h
          cases b with
          | true =>
            have h2 := setK_out (h.1 rfl)
            rw [set_same hv] at h2
            rw [bsel_iff] at h2
            cases want with
            | true => exact .inl ⟨by simp [Region.wanted, hg, hy], h2.1 rfl⟩
            | false => exact .inr ⟨by simp [Region.wanted, hg, hy], h2.2 rfl⟩
          | false =>
            have h2 := setK_out (h.2 rfl)
            rw [set_same hv] at h2
            rw [bsel_iff] at h2
            cases want with
            | true => exact .inr ⟨by simp [Region.wanted, hg, hy], h2.1 rfl⟩
            | false => exact .inl ⟨by simp [Region.wanted, hg, hy], h2.2 rfl⟩
        · have hy : yielded ⟨ops⟩ (act l ds).tmps j = none := by
            simp [yielded, hj, hd, act, hv]
          exact .inr ⟨by simp [Region.wanted, hg, hy], h⟩
        · exact h.elim
      · exact h.elim
    · exact h.elim
def vcOps (P : Program) (ops : List Oper) (K : Fr → World → Prop) (E : List PanicEntry → World → Prop) : List Oper → Fr → World → Prop
  | [], l, w => K l w
  | o :: r, l, w => guardK ops l o.guard (fun l => opv P l o w (fun v w' => putK l o.dst v fun l' => vcOps P ops K E r l' w') E) (fun l => putK l o.dst undef fun l' => vcOps P ops K E r l' w)
theorem vcOps_sound {P : Program} {ops : List Oper} {ds : List Deferred} {K : Fr → World → Prop} {E : List PanicEntry → World → Prop} {Q : Exit → Act → World → Prop}
    : ∀ {rest : List Oper} {l : Fr} {w : World}, (∀ l' c w', AgreeOff (dsts rest) l l' → E c w' → Q (.panic c) (act l' ds) w') → vcOps P ops K E rest l w →
      (∀ l' w', AgreeOff (dsts rest) l l' → K l' w' → Q .normal (act l' ds) w') → wpList P ⟨ops⟩ Q rest (act l ds) w := by
  intro rest
  induction rest with
  | nil => intro l w hE h hK; exact hK l w (AgreeOff.refl _ _) h
  | cons o r ih =>
    intro l w hE h hK
    have next : ∀ v w', vcOps P ops K E r (put l o.dst v) w' → wpList P ⟨ops⟩ Q r ((act l ds).put o.dst v) w' := by
      intro v w' h
      rw [act_put]
      have step : ∀ {l' : Fr}, AgreeOff (dsts r) (put l o.dst v) l' → AgreeOff (dsts (o :: r)) l l' := by
        intro l' ha
        exact (AgreeOff.put l o.dst v).trans ha (fun t ht => by simp only [dsts, List.flatMap_cons, List.mem_append]; exact .inl ht) (fun t ht => by simp only [dsts, List.flatMap_cons, List.mem_append]; exact .inr ht)
      refine ih (fun l' c w' ha he => hE l' c w' (step ha) he) h fun l' w' ha hk => hK l' w' ?_ hk
      exact (AgreeOff.put l o.dst v).trans ha (fun t ht => by simp only [dsts, List.flatMap_cons, List.mem_append]; exact .inl ht) (fun t ht => by simp only [dsts, List.flatMap_cons, List.mem_append]; exact .inr ht)
    unfold wpList
    rcases guardK_out (ds := ds) h with ⟨hw, h⟩ | ⟨hw, h⟩
    · rw [if_pos hw]
      exact .inl (opv_sound h (fun v w' hk => next v w' (putK_out hk)) (fun c w' he => hE l c w' (AgreeOff.refl _ _) he))
    · rw [if_neg (by simp [hw])]
      exact next undef w (putK_out h)
def qOp (P : Program) (Rd : Addr → Value → Prop) (Cl : FuncId → List Value → Value → Prop) (l : Fr) (o : Oper) (K : Value → Prop) : Prop := match o.op with
  | .call ⟨.value f, ⟨xs⟩, _⟩ => opK l f fun f => calleeK f fun g first cap => opsK l xs fun vs => bsel (callable P g) (exRet P o.type fun v => Cl g (first ++ (vs ++ cap)) v ∧ K v) False
  | _ => opq P l o Rd K
theorem qOp_out {P : Program} {Rd : Addr → Value → Prop} {Cl : FuncId → List Value → Value → Prop} {l : Fr} {ds : List Deferred} {o : Oper} {K : Value → Prop} (h : qOp P Rd Cl l o K) :
    ∃ v, K v ∧ ((∀ w, RdOk Rd w → (execOp (act l ds).eval o).run P w = .ok (.value v) w) ∨ ∃ g args, Cl g args v ∧ ∀ w, (execOp (act l ds).eval o).run P w = .ok (.enter g ⟨args⟩) w) := by
  unfold qOp at h
  split at h
  · rename_i f xs ts ho
    obtain ⟨g, first, cap, hf, h⟩ := calleeK_out (opK_out (ds := ds) h)
    obtain ⟨hc, h⟩ := bsel_true_out (opsK_out (ds := ds) h)
    obtain ⟨v, h1, h2⟩ := exRet_out h
    exact ⟨v, h2, .inr ⟨_, _, h1, fun w => call_run ho hf hc w⟩⟩
  · obtain ⟨v, hk, hr⟩ := opq_out (ds := ds) h
    exact ⟨v, hk, .inl hr⟩
def qOps (P : Program) (ops : List Oper) (Rd : Addr → Value → Prop) (Cl : FuncId → List Value → Value → Prop) (K : Fr → Prop) : List Oper → Fr → Prop
  | [], l => K l
  | o :: r, l => guardK ops l o.guard (fun l => qOp P Rd Cl l o fun v => putK l o.dst v fun l' => qOps P ops Rd Cl K r l') (fun l => putK l o.dst undef fun l' => qOps P ops Rd Cl K r l')
theorem dsts_step {l l' : Fr} {o : Oper} {r : List Oper} {v : Value} (ha : AgreeOff (dsts r) (put l o.dst v) l') : AgreeOff (dsts (o :: r)) l l' :=
  (AgreeOff.put l o.dst v).trans ha (fun t ht => by simp only [dsts, List.flatMap_cons, List.mem_append]; exact .inl ht) (fun t ht => by simp only [dsts, List.flatMap_cons, List.mem_append]; exact .inr ht)
theorem qOps_quiet {P : Program} {ops : List Oper} {ds : List Deferred} {Rd : Addr → Value → Prop} {Cl : FuncId → List Value → Value → Prop} {C : World → Prop} {K : Fr → Prop} {Q : Act → Prop}
    (hR : ∀ w, C w → RdOk Rd w) (hC : ∀ g args v, Cl g args v → ∀ w, C w → Calls P g ⟨args⟩ w fun e w' => e = .returned v ∧ C w') :
    ∀ {rest : List Oper} {l : Fr}, qOps P ops Rd Cl K rest l → (∀ l', AgreeOff (dsts rest) l l' → K l' → Q (act l' ds)) → wpQuiet P ⟨ops⟩ C Q rest (act l ds) := by
  intro rest
  induction rest with
  | nil => intro l h hK; exact hK l (AgreeOff.refl _ _) h
  | cons o r ih =>
    intro l h hK
    have next : ∀ v, qOps P ops Rd Cl K r (put l o.dst v) → wpQuiet P ⟨ops⟩ C Q r ((act l ds).put o.dst v) := by
      intro v h
      rw [act_put]
      exact ih h fun l' ha hk => hK l' (dsts_step ha) hk
    unfold wpQuiet
    rcases guardK_out (ds := ds) h with ⟨hw, h⟩ | ⟨hw, h⟩
    · rw [if_pos hw]
      obtain ⟨v, hk, hr⟩ := qOp_out (ds := ds) h
      refine ⟨v, fun w hw => ?_, next v (putK_out hk)⟩
      unfold Oper.quietAt
      rcases hr with hr | ⟨g, args, hcl, hr⟩
      · rw [hr w (hR w hw)]; exact ⟨rfl, rfl⟩
      · rw [hr w]; exact ⟨rfl, hC g args v hcl w hw⟩
    · rw [if_neg (by simp [hw])]
      exact next undef (putK_out h)
theorem qOps_still {P : Program} {ops : List Oper} {ds : List Deferred} {Rd : Addr → Value → Prop} {Cl : FuncId → List Value → Value → Prop} {w : World} {K : Fr → Prop} {Q : Act → Prop}
    (hR : RdOk Rd w) (hC : ∀ g args v, Cl g args v → Calls P g ⟨args⟩ w fun e w' => e = .returned v ∧ w' = w) :
    ∀ {rest : List Oper} {l : Fr}, qOps P ops Rd Cl K rest l → (∀ l', AgreeOff (dsts rest) l l' → K l' → Q (act l' ds)) → wpStill P ⟨ops⟩ w Q rest (act l ds) := by
  intro rest
  induction rest with
  | nil => intro l h hK; exact hK l (AgreeOff.refl _ _) h
  | cons o r ih =>
    intro l h hK
    have next : ∀ v, qOps P ops Rd Cl K r (put l o.dst v) → wpStill P ⟨ops⟩ w Q r ((act l ds).put o.dst v) := by
      intro v h
      rw [act_put]
      exact ih h fun l' ha hk => hK l' (dsts_step ha) hk
    unfold wpStill
    rcases guardK_out (ds := ds) h with ⟨hw, h⟩ | ⟨hw, h⟩
    · rw [if_pos hw]
      obtain ⟨v, hk, hr⟩ := qOp_out (ds := ds) h
      unfold Oper.still
      rcases hr with hr | ⟨g, args, hcl, hr⟩
      · rw [hr w hR]; exact ⟨rfl, next v (putK_out hk)⟩
      · rw [hr w]; exact ⟨rfl, v, hC g args v hcl, next v (putK_out hk)⟩
    · rw [if_neg (by simp [hw])]
      exact next undef (putK_out h)
def isLoad : Op → Bool
  | .load .. | .convert .. => true
  | _ => false
def isQuiet : Op → Bool
  | .move _ | .assign _ | .pick .. | .load .. | .nilCheck _ | .binOp .. | .unOp .. | .convert .. | .slice .. | .fieldAddr .. | .field .. | .indexAddr .. | .index .. | .extract .. | .makeInterface .. | .makeFunc .. | .build .. => true
  | .call ⟨.builtin .len, _, _⟩ | .call ⟨.builtin .cap, _, _⟩ | .call ⟨.builtin .max, _, _⟩ | .call ⟨.builtin .min, _, _⟩ => true
  | _ => false
def loadAtB (ops : List Oper) (i : Nat) : Bool := match ops[i]? with
  | some o => isLoad o.op
  | none => false
def ancB (ops : List Oper) : Nat → Nat → Nat → Bool
  | 0, _, _ => false
  | n + 1, j, i => match ops[j]? with
    | some o => o.after.toList.any fun e => Region.binds .any e && (Nat.beq e.on i || ancB ops n e.on i)
    | none => false
def needB (ops : List Oper) (j : Nat) : Bool := (List.range ops.length).any fun i => loadAtB ops i && !Nat.beq i j && !ancB ops ops.length j i
def Closed (ops : List Oper) (listed : Array Bool) : Prop := ∀ j o, ops[j]? = some o → listed.getD j false = true → ∀ e ∈ o.after, Region.binds .any e = true → listed.getD e.on false = true
theorem anc_closed {ops : List Oper} {listed : Array Bool} {i : Nat} (hc : Closed ops listed) (hi : listed.getD i false = false) : ∀ (n j : Nat), (listed.getD j false = true ∨ j ∈ Region.ready .any ⟨ops⟩ listed) → ancB ops n j i = false := by
  intro n
  induction n with
  | zero => intro j _; rfl
  | succ n ih =>
    intro j hj
    unfold ancB
    cases ho : ops[j]? with
    | none => rfl
    | some o =>
      have hall : ∀ e ∈ o.after, Region.binds .any e = true → listed.getD e.on false = true := by
        rcases hj with hj | hj
        · exact hc j o ho hj
        · obtain ⟨_, o', ho', hall⟩ := mem_ready.1 hj
          have : o' = o := by
            have h2 : ops[j]? = some o' := by simpa using ho'
            rw [ho] at h2
            exact (Option.some.inj h2).symm
          subst this
          exact hall
      simp only
      rw [List.any_eq_false]
      intro e he hb
      rw [Bool.and_eq_true] at hb
      have hl := hall e (by simpa using he) hb.1
      rw [Bool.or_eq_true] at hb
      rcases hb.2 with hb | hb
      · have := Nat.eq_of_beq_eq_true hb
        rw [this, hi] at hl
        cases hl
      · rw [ih e.on (.inl hl)] at hb
        cases hb
theorem closed_set {ops : List Oper} {listed : Array Bool} {j : Nat} (hc : Closed ops listed) (hj : j ∈ Region.ready .any ⟨ops⟩ listed) : Closed ops (listed.setIfInBounds j true) := by
  intro k o hk hl e he hb
  by_cases hkj : k = j
  · subst hkj
    obtain ⟨_, o', ho', hall⟩ := mem_ready.1 hj
    have : o' = o := by
      have h2 : ops[k]? = some o' := by simpa using ho'
      rw [hk] at h2
      exact (Option.some.inj h2).symm
    subst this
    exact getD_set_true (hall e he hb)
  · rw [getD_set_ne false (Ne.symm hkj)] at hl
    exact getD_set_true (hc k o hk hl e he hb)
theorem unlisted {listed : Array Bool} {i : Nat} (h : listed.getD i true = false) : listed.getD i false = false := by
  rcases Nat.lt_or_ge i listed.size with h' | h'
  · simp [h'] at h ⊢; exact h
  · simp [Array.getElem?_eq_none h'] at h
theorem need_of {ops : List Oper} {listed : Array Bool} {i j : Nat} (hc : Closed ops listed) (hi : listed.getD i true = false) (hne : j ≠ i) (hl : loadAtB ops i = true) (hj : j ∈ Region.ready .any ⟨ops⟩ listed) : needB ops j = true := by
  unfold needB
  rw [List.any_eq_true]
  have hlt : i < ops.length := by
    unfold loadAtB at hl
    split at hl
    · rename_i o ho; exact (List.getElem?_eq_some_iff.1 ho).1
    · cases hl
  refine ⟨i, List.mem_range.2 hlt, ?_⟩
  rw [Bool.and_eq_true, Bool.and_eq_true]
  refine ⟨⟨hl, ?_⟩, ?_⟩
  · cases hb : Nat.beq i j with
    | false => rfl
    | true => exact (hne (Nat.eq_of_beq_eq_true hb).symm).elim
  · rw [anc_closed hc (unlisted hi) _ j (.inr hj)]; rfl
def quietAtB (ops : List Oper) (i : Nat) : Bool := match ops[i]? with
  | some o => isQuiet o.op
  | none => false
def Keeps (ops : List Oper) (S : World → Prop) (i : Nat) (w w' : World) : Prop := (quietAtB ops i = true → w' = w) ∧ (quietAtB ops i = false → needB ops i = true → S w')
def wpAnyG (P : Program) (ops : List Oper) (Q : Exit → Act → World → Prop) (S : World → Prop) : Nat → Array Bool → Act → World → Prop
  | 0, listed, a, w => Region.ready .any ⟨ops⟩ listed = [] ∧ Q .normal a w
  | fuel + 1, listed, a, w =>
    (Region.ready .any ⟨ops⟩ listed = [] → Q .normal a w) ∧
    ∀ i ∈ Region.ready .any ⟨ops⟩ listed, wpOp P ⟨ops⟩ Q i (fun a' w' => Keeps ops S i w w' ∧ wpAnyG P ops Q S fuel (listed.setIfInBounds i true) a' w') a w
section
variable {P : Program} {ops : List Oper} {Q : Exit → Act → World → Prop} {S : World → Prop}
theorem wpAny_of_G : ∀ (fuel : Nat) (listed : Array Bool) (a : Act) (w : World), wpAnyG P ops Q S fuel listed a w → wpAny P .any ⟨ops⟩ Q fuel listed a w
  | 0, _, _, _, h => h
  | fuel + 1, _, _, _, h => ⟨h.1, fun i hi => wpOp_mono (fun a' w' h' => wpAny_of_G fuel _ a' w' h'.2) (h.2 i hi)⟩
theorem wpAnyG_first {i : Nat} {oi : Oper} {v : Value} (hq : quietAtB ops i = true) (hi : (Array.mk ops)[i]? = some oi) (hsel : ∀ (j : Nat) (o : Oper) cs b, (Array.mk ops)[j]? = some o → o.op ≠ .select cs b)
    (hQ : ∀ c a w, Q (.panic c) (a.put oi.dst v) w → Q (.panic c) a w) :
    ∀ (fuel : Nat) (listed : Array Bool) (a : Act) (w : World), Closed ops listed →
      (∀ j oj, (Array.mk ops)[j]? = some oj → j ≠ i → listed.getD j true = false → (∀ e ∈ oj.after, Region.binds .any e = true → e.on ≠ i) → oi.apart ⟨ops⟩ oj = true) →
      i ∈ Region.ready .any ⟨ops⟩ listed → YieldsIf P ⟨ops⟩ (fun w => loadAtB ops i = true → S w) oi v a → (loadAtB ops i = true → S w) →
      wpAnyG P ops Q S fuel (listed.setIfInBounds i true) (a.put oi.dst v) w → wpAnyG P ops Q S (fuel + 1) listed a w := by
  intro fuel
  induction fuel with
  | zero =>
    intro listed a w hcl _ hr hy hS H
    refine ⟨fun h => (by rw [h] at hr; cases hr), fun j hj => ?_⟩
    by_cases hji : j = i
    · subst hji; exact hy.wpOp hi hS ⟨⟨fun _ => rfl, fun h => by rw [hq] at h; cases h⟩, H⟩
    · have := ready_mono hj hji
      rw [H.1] at this
      cases this
  | succ fuel ih =>
    intro listed a w hcl hfree hr hy hS H
    refine ⟨fun h => (by rw [h] at hr; cases hr), fun j hj => ?_⟩
    by_cases hji : j = i
    · subst hji; exact hy.wpOp hi hS ⟨⟨fun _ => rfl, fun h => by rw [hq] at h; cases h⟩, H⟩
    · have h1 := H.2 j (ready_mono hj hji)
      obtain ⟨hjun, oj, hoj, hall⟩ := mem_ready.1 hj
      have hnot : ∀ e ∈ oj.after, Region.binds .any e = true → e.on ≠ i := fun e he hb heq => by
        have h1 := hall e he hb
        have h0 := (mem_ready.1 hr).1
        rw [heq] at h1
        rcases Nat.lt_or_ge i listed.size with h' | h'
        · simp [h'] at h0 h1; rw [h0] at h1; cases h1
        · simp [Array.getElem?_eq_none h'] at h1
      have h2 := wpOp_putIf hoj (hfree j oj hoj hji hjun hnot) (fun cs b => hsel i oi cs b hi) (fun cs b => hsel j oj cs b hoj) hQ hy h1
      have hfree' : ∀ k ok, (Array.mk ops)[k]? = some ok → k ≠ i → (listed.setIfInBounds j true).getD k true = false →
          (∀ e ∈ ok.after, Region.binds .any e = true → e.on ≠ i) → oi.apart ⟨ops⟩ ok = true := fun k ok hk hki hun hno => by
        refine hfree k ok hk hki ?_ hno
        by_cases hjk : j = k
        · subst hjk; exact hjun
        · rw [getD_set_ne true hjk] at hun; exact hun
      refine wpOp_mono (fun a' w' h3 => ⟨h3.2.1, ih (listed.setIfInBounds j true) a' w' (closed_set hcl hj) hfree' (ready_mono hr (Ne.symm hji)) h3.1 (fun hl => ?_) ?_⟩) h2
      · cases hqj : quietAtB ops j with
        | true => rw [h3.2.1.1 hqj]; exact hS hl
        | false => exact h3.2.1.2 hqj (need_of hcl (mem_ready.1 hr).1 hji hl hj)
      · rw [Array.setIfInBounds_comm _ _ hji]
        exact h3.2.2
end
def heldW (P : Program) (ops : List Oper) (S : World → Prop) (K : Fr → World → Prop) (E : List PanicEntry → World → Prop) : Nat → Array Bool → Fr → World → Prop
  | 0, listed, l, w => bsel (Region.ready .any ⟨ops⟩ listed).isEmpty (K l w) False
  | n + 1, listed, l, w => match Region.ready .any ⟨ops⟩ listed with
    | [] => K l w
    | i :: rs => match (i :: rs).find? (quietAtB ops) with
      | some i => match ops[i]? with
        | some o => bsel (Region.free .any ⟨ops⟩ listed i) (guardK ops l o.guard
            (fun l => opq P l o (fun a v => ∀ w1, S w1 → w1.cell? a = some v) fun v => putK l o.dst v fun l' => heldW P ops S K E n (listed.setIfInBounds i true) l' w)
            (fun l => putK l o.dst undef fun l' => heldW P ops S K E n (listed.setIfInBounds i true) l' w)) False
        | none => False
      | none => allOf (fun i => match ops[i]? with
        | some o => guardK ops l o.guard
            (fun l => opv P l o w (fun v w' => putK l o.dst v fun l' => bsel (needB ops i) (S w' ∧ heldW P ops S K E n (listed.setIfInBounds i true) l' w') (heldW P ops S K E n (listed.setIfInBounds i true) l' w')) E)
            (fun l => putK l o.dst undef fun l' => bsel (needB ops i) (S w ∧ heldW P ops S K E n (listed.setIfInBounds i true) l' w) (heldW P ops S K E n (listed.setIfInBounds i true) l' w))
        | none => False) (i :: rs)
where
  allOf (f : Nat → Prop) : List Nat → Prop
    | [] => True
    | [i] => f i
    | i :: r => f i ∧ allOf f r
theorem allOf_out {f : Nat → Prop} {l : List Nat} (h : heldW.allOf f l) : ∀ i ∈ l, f i := by
  induction l with
  | nil => intro i hi; cases hi
  | cons x r ih =>
    intro i hi
    cases r with
    | nil =>
      obtain rfl : i = x := by simpa using hi
      exact h
    | cons y r =>
      rcases List.mem_cons.1 hi with rfl | hi
      · exact h.1
      · exact ih h.2 i hi
theorem loadQ_only {P : Program} {o : Oper} {l : Fr} {Rd Rd' : Addr → Value → Prop} {K : Value → Prop} (hl : isLoad o.op = false) (h : opq P l o Rd K) : opq P l o Rd' K := by
  unfold opq at h ⊢
  split at h <;> first | exact h | skip
  · rename_i t x ho
    rw [ho] at hl
    cases hl
  · rename_i s d x ho
    rw [ho] at hl
    cases hl
theorem agree_put {ops : List Oper} {l l' : Fr} {i : Nat} {o : Oper} {v : Value} (hi : ops[i]? = some o) (h : AgreeOff (dsts ops) l l') : AgreeOff (dsts ops) l (put l' o.dst v) := by
  refine h.trans (AgreeOff.put l' o.dst v) (fun t ht => ht) (fun t ht => ?_)
  simp only [dsts, List.mem_flatMap]
  exact ⟨o, List.mem_of_getElem? hi, ht⟩
theorem quiet_load {op : Op} (h : isLoad op = true) : isQuiet op = true := by
  cases op <;> simp [isLoad] at h <;> rfl
theorem heldW_sound {P : Program} {ops : List Oper} {ds : List Deferred} {S : World → Prop} {K : Fr → World → Prop} {E : List PanicEntry → World → Prop} {Q : Exit → Act → World → Prop} {l0 : Fr}
    (hsel : Region.noSelect ⟨ops⟩ = true) (hQ : ∀ o ∈ ops, ∀ c a v w, Q (.panic c) (a.put o.dst v) w → Q (.panic c) a w) (hE : ∀ l' c w', AgreeOff (dsts ops) l0 l' → E c w' → Q (.panic c) (act l' ds) w')
    (hK : ∀ l' w', AgreeOff (dsts ops) l0 l' → K l' w' → Q .normal (act l' ds) w') :
    ∀ (n : Nat) (listed : Array Bool) (l : Fr) (w : World), heldW P ops S K E n listed l w → Closed ops listed → AgreeOff (dsts ops) l0 l → ((∃ i, listed.getD i true = false ∧ loadAtB ops i = true) → S w) →
      wpAnyG P ops Q S n listed (act l ds) w := by
  intro n
  induction n with
  | zero =>
    intro listed l w h hc ha hS
    obtain ⟨hr, h⟩ := bsel_true_out h
    exact ⟨List.isEmpty_iff.1 hr, hK l w ha h⟩
  | succ n ih =>
    intro listed l w h hc ha hS
    unfold heldW at h
    split at h
    · rename_i hr
      exact ⟨fun _ => hK l w ha h, by rw [hr]; simp⟩
    · rename_i i0 rs hr
      split at h
      · rename_i i hf
        have hq : quietAtB ops i = true := List.find?_some hf
        have hmem : i ∈ Region.ready .any ⟨ops⟩ listed := by rw [hr]; exact List.mem_of_find?_eq_some hf
        split at h
        · rename_i o ho
          obtain ⟨hfree, h⟩ := bsel_true_out h
          have hoa : (Array.mk ops)[i]? = some o := by simpa using ho
          have hun := (mem_ready.1 hmem).1
          have step : ∀ v, YieldsIf P ⟨ops⟩ (fun w => loadAtB ops i = true → S w) o v (act l ds) → heldW P ops S K E n (listed.setIfInBounds i true) (put l o.dst v) w → wpAnyG P ops Q S (n + 1) listed (act l ds) w := by
            intro v hy hn
            refine wpAnyG_first hq hoa (Region.noSelect_spec hsel) (fun c a w h => hQ o (List.mem_of_getElem? ho) c a _ w h) n listed _ w hc (Region.free_spec hoa hfree) hmem hy (fun hl => hS ⟨i, hun, hl⟩) ?_
            rw [act_put]
            refine ih _ _ w hn (closed_set hc hmem) (agree_put ho ha) ?_
            rintro ⟨k, hk, hl⟩
            refine hS ⟨k, ?_, hl⟩
            by_cases hki : i = k
            · subst hki
              exact hun
            · rwa [getD_set_ne true hki] at hk
          rcases guardK_out (ds := ds) h with ⟨hw, h⟩ | ⟨hw, h⟩
          · cases hl : isLoad o.op with
            | false =>
              obtain ⟨v, hk, hrun⟩ := opq_out (ds := ds) (loadQ_only (Rd' := fun _ _ => False) hl h)
              exact step v (.inl ⟨hw, fun w _ => hrun w (fun _ _ h => h.elim)⟩) (putK_out hk)
            | true =>
              obtain ⟨v, hk, hrun⟩ := opq_out (ds := ds) h
              have hlb : loadAtB ops i = true := by unfold loadAtB; rw [ho]; exact hl
              exact step v (.inl ⟨hw, fun w hs => hrun w (fun a u h => h w (hs hlb))⟩) (putK_out hk)
          · exact step undef (.inr ⟨hw, rfl⟩) (putK_out h)
        · exact h.elim
      · rename_i hnone
        have h := allOf_out h
        refine ⟨fun h0 => (by rw [hr] at h0; cases h0), fun i hi => ?_⟩
        have hi' : i ∈ i0 :: rs := by rw [← hr]; exact hi
        have h := h i hi'
        have hq : quietAtB ops i = false := by
          have := List.find?_eq_none.1 hnone i hi'
          simpa using this
        split at h
        · rename_i o ho
          have hoa : (Array.mk ops)[i]? = some o := by simpa using ho
          have next : ∀ v w', bsel (needB ops i) (S w' ∧ heldW P ops S K E n (listed.setIfInBounds i true) (put l o.dst v) w') (heldW P ops S K E n (listed.setIfInBounds i true) (put l o.dst v) w') →
              Keeps ops S i w w' ∧ wpAnyG P ops Q S n (listed.setIfInBounds i true) ((act l ds).put o.dst v) w' := by
            intro v w' h
            rw [act_put]
            have rest : heldW P ops S K E n (listed.setIfInBounds i true) (put l o.dst v) w' := by
              rw [bsel_iff] at h
              cases hb : needB ops i with
              | true => exact (h.1 hb).2
              | false => exact h.2 hb
            have need : needB ops i = true → S w' := fun hb => by
              rw [bsel_iff] at h
              exact (h.1 hb).1
            refine ⟨⟨fun hq' => (by rw [hq] at hq'; cases hq'), fun _ => need⟩, ih _ _ w' rest (closed_set hc hi) (agree_put ho ha) ?_⟩
            rintro ⟨k, hk, hl⟩
            by_cases hki : i = k
            · subst hki
              unfold loadAtB at hl
              unfold quietAtB at hq
              rw [ho] at hl hq
              have h1 : isLoad o.op = true := hl
              have h2 : isQuiet o.op = false := hq
              rw [quiet_load h1] at h2
              cases h2
            · rw [getD_set_ne true hki] at hk
              exact need (need_of hc hk hki hl hi)
          unfold wpOp
          simp only [hoa]
          rcases guardK_out (ds := ds) h with ⟨hw, h⟩ | ⟨hw, h⟩
          · rw [if_pos hw]
            exact .inl (opv_sound h (fun v w' hk => next v w' (putK_out hk)) (fun c w' he => hE l c w' ha he))
          · rw [if_neg (by simp [hw])]
            exact next undef w (putK_out h)
        · exact h.elim
def barB (ops : List Oper) (j : Nat) : Bool := (List.range ops.length).all fun i => !(loadAtB ops i) || ancB ops ops.length j i || ancB ops ops.length i j
def KeepsB (ops : List Oper) (S S' : World → Prop) (i : Nat) (w w' : World) : Prop := (quietAtB ops i = true → w' = w ∧ S' = S) ∧ (quietAtB ops i = false → (barB ops i = true → S' w') ∧ (barB ops i = false → S' = S ∧ (needB ops i = true → S w')))
theorem bar_not {ops : List Oper} {listed : Array Bool} {i j : Nat} (hc : Closed ops listed) (hi : i ∈ Region.ready .any ⟨ops⟩ listed) (hj : j ∈ Region.ready .any ⟨ops⟩ listed) (hl : loadAtB ops i = true) : barB ops j = false := by
  cases hb : barB ops j with
  | false => rfl
  | true =>
    exfalso
    unfold barB at hb
    rw [List.all_eq_true] at hb
    have hlt : i < ops.length := by
      unfold loadAtB at hl
      split at hl
      · rename_i o ho; exact (List.getElem?_eq_some_iff.1 ho).1
      · cases hl
    have h := hb i (List.mem_range.2 hlt)
    rw [hl, anc_closed hc (unlisted (mem_ready.1 hi).1) _ j (.inr hj), anc_closed hc (unlisted (mem_ready.1 hj).1) _ i (.inr hi)] at h
    cases h
def wpAnyB (P : Program) (ops : List Oper) (Q : Exit → Act → World → Prop) : Nat → Array Bool → (World → Prop) → Act → World → Prop
  | 0, listed, _, a, w => Region.ready .any ⟨ops⟩ listed = [] ∧ Q .normal a w
  | fuel + 1, listed, S, a, w =>
    (Region.ready .any ⟨ops⟩ listed = [] → Q .normal a w) ∧
    ∀ i ∈ Region.ready .any ⟨ops⟩ listed, wpOp P ⟨ops⟩ Q i (fun a' w' => ∃ S', KeepsB ops S S' i w w' ∧ wpAnyB P ops Q fuel (listed.setIfInBounds i true) S' a' w') a w
section
variable {P : Program} {ops : List Oper} {Q : Exit → Act → World → Prop}
theorem wpAny_of_B : ∀ (fuel : Nat) (listed : Array Bool) (S : World → Prop) (a : Act) (w : World), wpAnyB P ops Q fuel listed S a w → wpAny P .any ⟨ops⟩ Q fuel listed a w
  | 0, _, _, _, _, h => h
  | fuel + 1, _, _, _, _, h => ⟨h.1, fun i hi => wpOp_mono (fun a' w' h' => by obtain ⟨S', _, h2⟩ := h'; exact wpAny_of_B fuel _ S' a' w' h2) (h.2 i hi)⟩
theorem wpAnyB_first {i : Nat} {oi : Oper} {v : Value} (hq : quietAtB ops i = true) (hi : (Array.mk ops)[i]? = some oi) (hsel : ∀ (j : Nat) (o : Oper) cs b, (Array.mk ops)[j]? = some o → o.op ≠ .select cs b)
    (hQ : ∀ c a w, Q (.panic c) (a.put oi.dst v) w → Q (.panic c) a w) :
    ∀ (fuel : Nat) (listed : Array Bool) (S : World → Prop) (a : Act) (w : World), Closed ops listed →
      (∀ j oj, (Array.mk ops)[j]? = some oj → j ≠ i → listed.getD j true = false → (∀ e ∈ oj.after, Region.binds .any e = true → e.on ≠ i) → oi.apart ⟨ops⟩ oj = true) →
      i ∈ Region.ready .any ⟨ops⟩ listed → YieldsIf P ⟨ops⟩ (fun w => loadAtB ops i = true → S w) oi v a → (loadAtB ops i = true → S w) →
      wpAnyB P ops Q fuel (listed.setIfInBounds i true) S (a.put oi.dst v) w → wpAnyB P ops Q (fuel + 1) listed S a w := by
  intro fuel
  induction fuel with
  | zero =>
    intro listed S a w hcl _ hr hy hS H
    refine ⟨fun h => (by rw [h] at hr; cases hr), fun j hj => ?_⟩
    by_cases hji : j = i
    · subst hji; exact hy.wpOp hi hS ⟨S, ⟨fun _ => ⟨rfl, rfl⟩, fun h => by rw [hq] at h; cases h⟩, H⟩
    · have := ready_mono hj hji
      rw [H.1] at this
      cases this
  | succ fuel ih =>
    intro listed S a w hcl hfree hr hy hS H
    refine ⟨fun h => (by rw [h] at hr; cases hr), fun j hj => ?_⟩
    by_cases hji : j = i
    · subst hji; exact hy.wpOp hi hS ⟨S, ⟨fun _ => ⟨rfl, rfl⟩, fun h => by rw [hq] at h; cases h⟩, H⟩
    · have h1 := H.2 j (ready_mono hj hji)
      obtain ⟨hjun, oj, hoj, hall⟩ := mem_ready.1 hj
      have hnot : ∀ e ∈ oj.after, Region.binds .any e = true → e.on ≠ i := fun e he hb heq => by
        have h1 := hall e he hb
        have h0 := (mem_ready.1 hr).1
        rw [heq] at h1
        rcases Nat.lt_or_ge i listed.size with h' | h'
        · simp [h'] at h0 h1; rw [h0] at h1; cases h1
        · simp [Array.getElem?_eq_none h'] at h1
      have h2 := wpOp_putIf hoj (hfree j oj hoj hji hjun hnot) (fun cs b => hsel i oi cs b hi) (fun cs b => hsel j oj cs b hoj) hQ hy h1
      have hfree' : ∀ k ok, (Array.mk ops)[k]? = some ok → k ≠ i → (listed.setIfInBounds j true).getD k true = false →
          (∀ e ∈ ok.after, Region.binds .any e = true → e.on ≠ i) → oi.apart ⟨ops⟩ ok = true := fun k ok hk hki hun hno => by
        refine hfree k ok hk hki ?_ hno
        by_cases hjk : j = k
        · subst hjk; exact hjun
        · rw [getD_set_ne true hjk] at hun; exact hun
      refine wpOp_mono (fun a' w' h3 => ?_) h2
      obtain ⟨hy', S', hk, hrest⟩ := h3
      rw [Array.setIfInBounds_comm _ _ (Ne.symm hji)] at hrest
      refine ⟨S', hk, ?_⟩
      cases hl : loadAtB ops i with
      | true =>
        have hb := bar_not hcl hr hj hl
        have hSS : S' = S ∧ S w' := by
          cases hqj : quietAtB ops j with
          | true =>
            obtain ⟨e1, e2⟩ := hk.1 hqj
            exact ⟨e2, by rw [e1]; exact hS hl⟩
          | false =>
            obtain ⟨e1, e2⟩ := (hk.2 hqj).2 hb
            exact ⟨e1, e2 (need_of hcl (mem_ready.1 hr).1 hji hl hj)⟩
        obtain ⟨rfl, hSw⟩ := hSS
        exact ih (listed.setIfInBounds j true) S' a' w' (closed_set hcl hj) hfree' (ready_mono hr (Ne.symm hji)) hy' (fun _ => hSw) hrest
      | false =>
        refine ih (listed.setIfInBounds j true) S' a' w' (closed_set hcl hj) hfree' (ready_mono hr (Ne.symm hji)) ?_ (fun h => by rw [hl] at h; cases h) hrest
        exact hy'.imp (fun h => ⟨h.1, fun w _ => h.2 w (fun h => by rw [hl] at h; cases h)⟩) id
end
def heldB (P : Program) (ops : List Oper) (K : Fr → World → Prop) (E : List PanicEntry → World → Prop) : Nat → Array Bool → (World → Prop) → Fr → World → Prop
  | 0, listed, _, l, w => bsel (Region.ready .any ⟨ops⟩ listed).isEmpty (K l w) False
  | n + 1, listed, S, l, w => match Region.ready .any ⟨ops⟩ listed with
    | [] => K l w
    | i :: rs => match (i :: rs).find? (quietAtB ops) with
      | some i => match ops[i]? with
        | some o => bsel (Region.free .any ⟨ops⟩ listed i) (guardK ops l o.guard
            (fun l => opq P l o (fun a v => ∀ w1, S w1 → w1.cell? a = some v) fun v => putK l o.dst v fun l' => heldB P ops K E n (listed.setIfInBounds i true) S l' w)
            (fun l => putK l o.dst undef fun l' => heldB P ops K E n (listed.setIfInBounds i true) S l' w)) False
        | none => False
      | none => heldW.allOf (fun i => match ops[i]? with
        | some o => guardK ops l o.guard
            (fun l => opv P l o w (fun v w' => putK l o.dst v fun l' => bsel (barB ops i) (∃ S', S' w' ∧ heldB P ops K E n (listed.setIfInBounds i true) S' l' w')
              (bsel (needB ops i) (S w' ∧ heldB P ops K E n (listed.setIfInBounds i true) S l' w') (heldB P ops K E n (listed.setIfInBounds i true) S l' w'))) E)
            (fun l => putK l o.dst undef fun l' => bsel (barB ops i) (∃ S', S' w ∧ heldB P ops K E n (listed.setIfInBounds i true) S' l' w)
              (bsel (needB ops i) (S w ∧ heldB P ops K E n (listed.setIfInBounds i true) S l' w) (heldB P ops K E n (listed.setIfInBounds i true) S l' w)))
        | none => False) (i :: rs)
theorem heldB_sound {P : Program} {ops : List Oper} {ds : List Deferred} {K : Fr → World → Prop} {E : List PanicEntry → World → Prop} {Q : Exit → Act → World → Prop} {l0 : Fr}
    (hsel : Region.noSelect ⟨ops⟩ = true) (hQ : ∀ o ∈ ops, ∀ c a v w, Q (.panic c) (a.put o.dst v) w → Q (.panic c) a w) (hE : ∀ l' c w', AgreeOff (dsts ops) l0 l' → E c w' → Q (.panic c) (act l' ds) w')
    (hK : ∀ l' w', AgreeOff (dsts ops) l0 l' → K l' w' → Q .normal (act l' ds) w') :
    ∀ (n : Nat) (listed : Array Bool) (S : World → Prop) (l : Fr) (w : World), heldB P ops K E n listed S l w → Closed ops listed → AgreeOff (dsts ops) l0 l → ((∃ i, listed.getD i true = false ∧ loadAtB ops i = true) → S w) →
      wpAnyB P ops Q n listed S (act l ds) w := by
  intro n
  induction n with
  | zero =>
    intro listed S l w h hc ha hS
    obtain ⟨hr, h⟩ := bsel_true_out h
    exact ⟨List.isEmpty_iff.1 hr, hK l w ha h⟩
  | succ n ih =>
    intro listed S l w h hc ha hS
    unfold heldB at h
    split at h
    · rename_i hr
      exact ⟨fun _ => hK l w ha h, by rw [hr]; simp⟩
    · rename_i i0 rs hr
      split at h
      · rename_i i hf
        have hq : quietAtB ops i = true := List.find?_some hf
        have hmem : i ∈ Region.ready .any ⟨ops⟩ listed := by rw [hr]; exact List.mem_of_find?_eq_some hf
        split at h
        · rename_i o ho
          obtain ⟨hfree, h⟩ := bsel_true_out h
          have hoa : (Array.mk ops)[i]? = some o := by simpa using ho
          have hun := (mem_ready.1 hmem).1
          have step : ∀ v, YieldsIf P ⟨ops⟩ (fun w => loadAtB ops i = true → S w) o v (act l ds) → heldB P ops K E n (listed.setIfInBounds i true) S (put l o.dst v) w → wpAnyB P ops Q (n + 1) listed S (act l ds) w := by
            intro v hy hn
            refine wpAnyB_first hq hoa (Region.noSelect_spec hsel) (fun c a w h => hQ o (List.mem_of_getElem? ho) c a _ w h) n listed S _ w hc (Region.free_spec hoa hfree) hmem hy (fun hl => hS ⟨i, hun, hl⟩) ?_
            rw [act_put]
            refine ih _ S _ w hn (closed_set hc hmem) (agree_put ho ha) ?_
            rintro ⟨k, hk, hl⟩
            refine hS ⟨k, ?_, hl⟩
            by_cases hki : i = k
            · subst hki
              exact hun
            · rwa [getD_set_ne true hki] at hk
          rcases guardK_out (ds := ds) h with ⟨hw, h⟩ | ⟨hw, h⟩
          · cases hl : isLoad o.op with
            | false =>
              obtain ⟨v, hk, hrun⟩ := opq_out (ds := ds) (loadQ_only (Rd' := fun _ _ => False) hl h)
              exact step v (.inl ⟨hw, fun w _ => hrun w (fun _ _ h => h.elim)⟩) (putK_out hk)
            | true =>
              obtain ⟨v, hk, hrun⟩ := opq_out (ds := ds) h
              have hlb : loadAtB ops i = true := by unfold loadAtB; rw [ho]; exact hl
              exact step v (.inl ⟨hw, fun w hs => hrun w (fun a u h => h w (hs hlb))⟩) (putK_out hk)
          · exact step undef (.inr ⟨hw, rfl⟩) (putK_out h)
        · exact h.elim
      · rename_i hnone
        have h := allOf_out h
        refine ⟨fun h0 => (by rw [hr] at h0; cases h0), fun i hi => ?_⟩
        have hi' : i ∈ i0 :: rs := by rw [← hr]; exact hi
        have h := h i hi'
        have hq : quietAtB ops i = false := by
          have := List.find?_eq_none.1 hnone i hi'
          simpa using this
        split at h
        · rename_i o ho
          have hoa : (Array.mk ops)[i]? = some o := by simpa using ho
          have next : ∀ v w', bsel (barB ops i) (∃ S', S' w' ∧ heldB P ops K E n (listed.setIfInBounds i true) S' (put l o.dst v) w')
              (bsel (needB ops i) (S w' ∧ heldB P ops K E n (listed.setIfInBounds i true) S (put l o.dst v) w') (heldB P ops K E n (listed.setIfInBounds i true) S (put l o.dst v) w')) →
              ∃ S', KeepsB ops S S' i w w' ∧ wpAnyB P ops Q n (listed.setIfInBounds i true) S' ((act l ds).put o.dst v) w' := by
            intro v w' h
            rw [act_put]
            rw [bsel_iff] at h
            cases hb : barB ops i with
            | true =>
              obtain ⟨S', h1, h2⟩ := h.1 hb
              exact ⟨S', ⟨fun hq' => (by rw [hq] at hq'; cases hq'), fun _ => ⟨fun _ => h1, fun h => by rw [hb] at h; cases h⟩⟩, ih _ S' _ w' h2 (closed_set hc hi) (agree_put ho ha) (fun _ => h1)⟩
            | false =>
              have h := h.2 hb
              have rest : heldB P ops K E n (listed.setIfInBounds i true) S (put l o.dst v) w' := by
                rw [bsel_iff] at h
                cases hb : needB ops i with
                | true => exact (h.1 hb).2
                | false => exact h.2 hb
              have need : needB ops i = true → S w' := fun hb => by
                rw [bsel_iff] at h
                exact (h.1 hb).1
              refine ⟨S, ⟨fun hq' => (by rw [hq] at hq'; cases hq'), fun _ => ⟨fun h => (by rw [hb] at h; cases h), fun _ => ⟨rfl, need⟩⟩⟩, ih _ S _ w' rest (closed_set hc hi) (agree_put ho ha) ?_⟩
              rintro ⟨k, hk, hl⟩
              by_cases hki : i = k
              · subst hki
                unfold loadAtB at hl
                unfold quietAtB at hq
                rw [ho] at hl hq
                have h1 : isLoad o.op = true := hl
                have h2 : isQuiet o.op = false := hq
                rw [quiet_load h1] at h2
                cases h2
              · rw [getD_set_ne true hki] at hk
                exact need (need_of hc hk hki hl hi)
          unfold wpOp
          simp only [hoa]
          rcases guardK_out (ds := ds) h with ⟨hw, h⟩ | ⟨hw, h⟩
          · rw [if_pos hw]
            exact .inl (opv_sound h (fun v w' hk => next v w' (putK_out hk)) (fun c w' he => hE l c w' ha he))
          · rw [if_neg (by simp [hw])]
            exact next undef w (putK_out h)
        · exact h.elim
inductive DMode where
  | still
  | tail (n : Nat)
  | cls
  | held
  | heldB
def Cls (P : Program) (C : World → Prop) (g : FuncId) (args : List Value) (v : Value) : Prop := ∀ w, C w → Calls P g ⟨args⟩ w fun e w' => e = .returned v ∧ C w'
def drawn (P : Program) (m : DMode) (ops : List Oper) (K : Fr → World → Prop) (E : List PanicEntry → World → Prop) (l : Fr) (w : World) : Prop := match m with
  | .still => bsel (P.follows .mixedOrders && Region.lexB .any ⟨ops⟩) (qOps P ops (fun a v => w.cell? a = some v) (fun g args v => Calls P g ⟨args⟩ w.drew fun e w' => e = .returned v ∧ w' = w.drew) (fun l' => K l' w.drew) ops l) False
  | .tail n => bsel (P.follows .mixedOrders && Region.lexTailB .any ⟨ops⟩ n) (qOps P ops (fun a v => w.cell? a = some v) (fun g args v => Calls P g ⟨args⟩ w.drew fun e w' => e = .returned v ∧ w' = w.drew)
      (fun l' => vcOps P ops K E (ops.drop n) l' w.drew) (ops.take n) l) False
  | .cls => bsel (P.follows .mixedOrders && Region.lexB .any ⟨ops⟩) (∃ C : World → Prop, C w.drew ∧ qOps P ops (fun a v => ∀ w1, C w1 → w1.cell? a = some v) (Cls P C) (fun l' => ∀ w1, C w1 → K l' w1) ops l) False
  | .held => bsel (P.follows .mixedOrders && Region.noSelect ⟨ops⟩) (∃ S : World → Prop, S w.drew ∧ heldW P ops S K E ops.length (Array.replicate ops.length false) l w.drew) False
  | .heldB => bsel (P.follows .mixedOrders && Region.noSelect ⟨ops⟩) (∃ S : World → Prop, S w.drew ∧ Vc.heldB P ops K E ops.length (Array.replicate ops.length false) S l w.drew) False
theorem dsts_append (a b : List Oper) : dsts (a ++ b) = dsts a ++ dsts b := by simp [dsts]
theorem drawn_sound {P : Program} {m : DMode} {id : Nat} {ops : List Oper} {ds : List Deferred} {K : Fr → World → Prop} {E : List PanicEntry → World → Prop} {Q : Exit → Act → World → Prop} {l : Fr} {w : World}
    (h : drawn P m ops K E l w) (hK : ∀ l' w', AgreeOff (dsts ops) l l' → K l' w' → Q .normal (act l' ds) w') (hE : ∀ l' c w', AgreeOff (dsts ops) l l' → E c w' → Q (.panic c) (act l' ds) w') :
    (Code.region id ⟨ops⟩ true).wp P Q (act l ds) w := by
  cases m with
  | still =>
    obtain ⟨hb, h⟩ := bsel_true_out h
    rw [Bool.and_eq_true] at hb
    refine wp_region_quiet (C := fun w' => w' = w.drew) hb.1 hb.2 rfl ?_
    exact qOps_quiet (fun w1 e => by subst e; exact fun a u h => h) (fun g args v hc w1 e => by subst e; exact hc) h fun l' ha hk w1 e => by subst e; exact hK l' _ ha hk
  | tail n =>
    obtain ⟨hb, h⟩ := bsel_true_out h
    rw [Bool.and_eq_true] at hb
    refine wp_region_still_tail n hb.1 hb.2 ?_
    refine qOps_still (w := w.drew) (fun a u h => h) (fun g args v hc => hc) h fun l' ha hk => ?_
    have e : dsts ops = dsts (ops.take n) ++ dsts (ops.drop n) := by rw [← dsts_append, List.take_append_drop]
    have step : ∀ {l2 : Fr}, AgreeOff (dsts (ops.drop n)) l' l2 → AgreeOff (dsts ops) l l2 := by
      intro l2 ha2
      rw [e]
      exact ha.trans ha2 (fun t ht => List.mem_append_left _ ht) (fun t ht => List.mem_append_right _ ht)
    exact vcOps_sound (fun l2 c w2 ha2 he => hE l2 c w2 (step ha2) he) hk fun l2 w2 ha2 hk2 => hK l2 w2 (step ha2) hk2
  | cls =>
    obtain ⟨hb, C, hc, h⟩ := bsel_true_out h
    rw [Bool.and_eq_true] at hb
    refine wp_region_quiet (C := C) hb.1 hb.2 hc ?_
    exact qOps_quiet (fun w1 e => fun a u h => h w1 e) (fun g args v hc => hc) h fun l' ha hk w1 e => hK l' w1 ha (hk w1 e)
  | held =>
    obtain ⟨hb, S, hs, h⟩ := bsel_true_out h
    rw [Bool.and_eq_true] at hb
    let Q' : Exit → Act → World → Prop := fun e a w => match e with
      | .normal => Q .normal a w
      | .panic c => a.defers = ds ∧ AgreeOff (dsts ops) l a.tmps.toList ∧ E c w
      | _ => False
    have h1 : (Code.region id ⟨ops⟩ true).wp P Q' (act l ds) w := by
      refine wp_region_any hb.1 (wpAny_of_G (S := S) _ _ _ _ ?_)
      refine heldW_sound (Q := Q') (l0 := l) hb.2 (fun o ho c a v w h => ?_) (fun l' c w' ha he => ⟨rfl, ha, he⟩) (fun l' w' ha hk => hK l' w' ha hk) _ _ _ _ h ?_ (AgreeOff.refl _ _) (fun _ => hs)
      · refine ⟨?_, ?_, h.2.2⟩
        · have := h.1
          cases hd : o.dst with
          | none => rw [hd] at this; exact this
          | some d => rw [hd] at this; exact this
        · have h2 := h.2.1
          cases hd : o.dst with
          | none => rw [hd] at h2; exact h2
          | some d =>
            rw [hd] at h2
            have hmem : d ∈ dsts ops := by
              simp only [dsts, List.mem_flatMap]
              exact ⟨o, ho, by rw [hd]; simp⟩
            refine ⟨?_, fun t ht => ?_⟩
            · have := h2.1
              simpa [Act.put] using this
            · have := h2.2 t ht
              have hne : d ≠ t := fun e => ht (e ▸ hmem)
              simpa [Act.put, List.getElem?_set_ne hne] using this
      · intro j o _ hl
        exfalso
        simp only [Array.getD_eq_getD_getElem?, Array.getElem?_replicate] at hl
        split at hl <;> cases hl
    refine Go.wp_mono h1 fun e a w' hq => ?_
    cases e <;> simp only [Q'] at hq <;> first | exact hq | exact hq.elim | skip
    obtain ⟨hd, ha, he⟩ := hq
    have := hE a.tmps.toList _ w' ha he
    have e : act a.tmps.toList ds = a := by cases a; cases hd; rfl
    rwa [e] at this
  | heldB =>
    obtain ⟨hb, S, hs, h⟩ := bsel_true_out h
    rw [Bool.and_eq_true] at hb
    let Q' : Exit → Act → World → Prop := fun e a w => match e with
      | .normal => Q .normal a w
      | .panic c => a.defers = ds ∧ AgreeOff (dsts ops) l a.tmps.toList ∧ E c w
      | _ => False
    have h1 : (Code.region id ⟨ops⟩ true).wp P Q' (act l ds) w := by
      refine wp_region_any hb.1 (wpAny_of_B _ _ S _ _ ?_)
      refine heldB_sound (Q := Q') (l0 := l) hb.2 (fun o ho c a v w h => ?_) (fun l' c w' ha he => ⟨rfl, ha, he⟩) (fun l' w' ha hk => hK l' w' ha hk) _ _ _ _ _ h ?_ (AgreeOff.refl _ _) (fun _ => hs)
      · refine ⟨?_, ?_, h.2.2⟩
        · have := h.1
          cases hd : o.dst with
          | none => rw [hd] at this; exact this
          | some d => rw [hd] at this; exact this
        · have h2 := h.2.1
          cases hd : o.dst with
          | none => rw [hd] at h2; exact h2
          | some d =>
            rw [hd] at h2
            have hmem : d ∈ dsts ops := by
              simp only [dsts, List.mem_flatMap]
              exact ⟨o, ho, by rw [hd]; simp⟩
            refine ⟨?_, fun t ht => ?_⟩
            · have := h2.1
              simpa [Act.put] using this
            · have := h2.2 t ht
              have hne : d ≠ t := fun e => ht (e ▸ hmem)
              simpa [Act.put, List.getElem?_set_ne hne] using this
      · intro j o _ hl
        exfalso
        simp only [Array.getD_eq_getD_getElem?, Array.getElem?_replicate] at hl
        split at hl <;> cases hl
    refine Go.wp_mono h1 fun e a w' hq => ?_
    cases e <;> simp only [Q'] at hq <;> first | exact hq | exact hq.elim | skip
    obtain ⟨hd, ha, he⟩ := hq
    have := hE a.tmps.toList _ w' ha he
    have e : act a.tmps.toList ds = a := by cases a; cases hd; rfl
    rwa [e] at this
structure Conts where
  normal : Fr → World → Prop
  exit : Nat → Fr → World → Prop
  ret : Fr → World → Prop
  panic : List PanicEntry → World → Prop
def written : Code → List Nat
  | .region _ ⟨ops⟩ _ => dsts ops
  | .seq a b => written a ++ written b
  | .cond _ a b => written a ++ written b
  | .block _ c => written c
  | .loop c => written c
  | _ => []
def getsK (l : Fr) : List (Nat × Ty) → (List Value → Prop) → Prop
  | [], K => K []
  | (t, _) :: r, K => getK l t fun v => getsK l r fun vs => K (v :: vs)
def setsK : List (Nat × Ty) → List Value → Fr → (Fr → Prop) → Prop
  | (t, _) :: r, v :: vs, l, K => setK l t v fun l' => setsK r vs l' K
  | _, _, l, K => K l
def havocK (us : Nat → Value) : List Nat → Fr → (Fr → Prop) → Prop
  | [], l, K => K l
  | t :: r, l, K => setK l t (us t) fun l' => havocK us r l' K
structure Plan where
  live : List (Nat × List (Nat × Ty)) := []
  draws : List (Nat × DMode) := []
def lookup {α : Type} : List (Nat × α) → Nat → Option α
  | [], _ => none
  | (k, v) :: r, n => bif Nat.beq k n then some v else lookup r n
def tysOf : List (Nat × Ty) → List Ty
  | [] => []
  | (_, x) :: r => x :: tysOf r
def vc (P : Program) (pl : Plan) : Code → Nat → Conts → Fr → World → Prop
  | .skip, _, C, l, w => C.normal l w
  | .region _ ⟨ops⟩ false, _, C, l, w => vcOps P ops C.normal C.panic ops l w
  | .region id ⟨ops⟩ true, _, C, l, w => match lookup pl.draws id with
    | some m => drawn P m ops C.normal C.panic l w
    | none => drawn P .still ops C.normal C.panic l w
  | .seq a b, p, C, l, w => match lookup pl.live p with
    | none => vc P pl a (2 * p) { C with normal := fun l' w' => vc P pl b (2 * p + 1) C l' w' } l w
    | some sp => ∃ J : TysT (tysOf sp) (World → Prop),
        vc P pl a (2 * p) { C with normal := fun l' w' => getsK l' sp fun vs => TysT.app (tysOf sp) J vs fun q => q w' } l w ∧
        allTys (tysOf sp) fun vs => ∀ (us : Nat → Value) (w' : World), (TysT.app (tysOf sp) J vs fun q => q w') → havocK us (written a) l fun l1 => setsK sp vs l1 fun l2 => vc P pl b (2 * p + 1) C l2 w'
  | .cond c a b, p, C, l, w => opK l c fun v => match v with
    | .bool t => bsel t (vc P pl a (2 * p) C l w) (vc P pl b (2 * p + 1) C l w)
    | _ => False
  | .block id c, p, C, l, w => vc P pl c (2 * p) { C with exit := fun i l' w' => bsel (Nat.beq i id) (C.normal l' w') (C.exit i l' w') } l w
  | .loop c, p, C, l, w => match lookup pl.live p with
    | none => False
    | some sp => ∃ (I : TysT (tysOf sp) (World → Prop)) (m : TysT (tysOf sp) (World → Nat)),
        (getsK l sp fun vs => TysT.app (tysOf sp) I vs fun q => q w) ∧
        allTys (tysOf sp) fun vs => ∀ (us : Nat → Value) (w' : World), (TysT.app (tysOf sp) I vs fun q => q w') → havocK us (written c) l fun l1 => setsK sp vs l1 fun l2 =>
          vc P pl c (2 * p) { C with normal := fun l3 w3 => getsK l3 sp fun vs' => (TysT.app (tysOf sp) I vs' fun q => q w3) ∧ TysT.app (tysOf sp) m vs' fun m1 => TysT.app (tysOf sp) m vs fun m0 => m1 w3 < m0 w' } l2 w'
  | .exit i, _, C, l, w => C.exit i l w
  | .ret, _, C, l, w => C.ret l w
  | _, _, _, _, _ => False
def havoc (us : Nat → Value) : List Nat → Fr → Fr
  | [], l => l
  | t :: r, l => havoc us r (l.set t (us t))
theorem havocK_out {us : Nat → Value} {ws : List Nat} : ∀ {l : Fr} {K : Fr → Prop}, havocK us ws l K → K (havoc us ws l) := by
  induction ws with
  | nil => intro l K h; exact h
  | cons t r ih => intro l K h; exact ih (setK_out h)
def sets : List (Nat × Ty) → List Value → Fr → Fr
  | (t, _) :: r, v :: vs, l => sets r vs (l.set t v)
  | _, _, l => l
theorem setsK_out {sp : List (Nat × Ty)} : ∀ {vs : List Value} {l : Fr} {K : Fr → Prop}, setsK sp vs l K → K (sets sp vs l) := by
  induction sp with
  | nil => intro vs l K h; exact h
  | cons x r ih => intro vs l K h; cases vs with
    | nil => exact h
    | cons v vs => exact ih (setK_out h)
def Reads (l : Fr) : List (Nat × Ty) → List Value → Prop
  | [], [] => True
  | (t, _) :: r, v :: vs => l[t]? = some v ∧ Reads l r vs
  | _, _ => False
theorem getsK_out {l : Fr} {sp : List (Nat × Ty)} : ∀ {K : List Value → Prop}, getsK l sp K → ∃ vs, Reads l sp vs ∧ K vs := by
  induction sp with
  | nil => intro K h; exact ⟨[], trivial, h⟩
  | cons x r ih =>
    intro K h
    obtain ⟨v, hv, h⟩ := getK_out h
    obtain ⟨vs, h1, h2⟩ := ih h
    exact ⟨v :: vs, ⟨hv, h1⟩, h2⟩
theorem sets_same {l : Fr} {sp : List (Nat × Ty)} : ∀ {vs : List Value}, Reads l sp vs → sets sp vs l = l := by
  induction sp with
  | nil => intro vs h; cases vs <;> rfl
  | cons x r ih =>
    intro vs h
    cases vs with
    | nil => exact h.elim
    | cons v vs =>
      simp only [sets]
      rw [set_same h.1]
      exact ih h.2
theorem havoc_get (us : Nat → Value) (ws : List Nat) (t : Nat) : ∀ l : Fr, (havoc us ws l)[t]? = if t ∈ ws ∧ t < l.length then some (us t) else l[t]? := by
  induction ws with
  | nil => intro l; simp [havoc]
  | cons x r ih =>
    intro l
    simp only [havoc, ih, List.length_set, List.mem_cons]
    by_cases ht : t < l.length
    · by_cases hx : x = t
      · subst hx
        by_cases hr : x ∈ r <;> simp [hr, ht]
      · by_cases hr : t ∈ r
        · simp [hr, ht]
        · simp [hr, Ne.symm hx, List.getElem?_set_ne hx]
    · simp [ht]
theorem havoc_eq {ws : List Nat} {l l' : Fr} (h : AgreeOff ws l l') : havoc (fun t => l'.getD t undef) ws l = l' := by
  apply List.ext_getElem?
  intro t
  rw [havoc_get]
  by_cases ht : t < l.length
  · by_cases hw : t ∈ ws
    · have ht' : t < l'.length := by rw [h.1]; exact ht
      simp [hw, ht, List.getD, List.getElem?_eq_getElem ht']
    · simp [hw, h.2 t hw]
  · have ht' : ¬ t < l'.length := by rw [h.1]; exact ht
    simp [ht, List.getElem?_eq_none (Nat.le_of_not_lt ht')]
theorem LeafT.app_det {X : Type} {x : Leaf} {f : LeafT x X} {v : Value} {K K' : X → Prop} (h : LeafT.app x f v K) (h' : LeafT.app x f v K') : LeafT.app x f v fun y => K y ∧ K' y := by
  cases x <;> cases v <;> simp only [LeafT.app] at h h' ⊢ <;> first | exact h.elim | exact ⟨h, h'⟩ | skip
  rename_i k k' n
  cases hd : decide (k = k') <;> simp [hd] at h h' ⊢
  exact ⟨h, h'⟩
theorem LeavesT.app_det {X : Type} {l : List Leaf} {f : LeavesT l X} {vs : List Value} {K K' : X → Prop} (h : LeavesT.app l f vs K) (h' : LeavesT.app l f vs K') : LeavesT.app l f vs fun y => K y ∧ K' y := by
  induction l generalizing vs with
  | nil => cases vs with
    | nil => exact ⟨h, h'⟩
    | cons v vs => exact h.elim
  | cons x r ih => cases vs with
    | nil => exact h.elim
    | cons v vs => exact LeafT.app_mono (LeafT.app_det h h') fun g hg => ih hg.1 hg.2
theorem TyT.app_det {X : Type} {x : Ty} {f : TyT x X} {v : Value} {K K' : X → Prop} (h : TyT.app x f v K) (h' : TyT.app x f v K') : TyT.app x f v fun y => K y ∧ K' y := by
  cases x with
  | leaf x => exact LeafT.app_det h h'
  | agg l => cases v <;> first | exact h.elim | exact LeavesT.app_det h h'
  | big n => cases v <;> first | exact h.elim | exact ⟨h.1, h.2, h'.2⟩
theorem TysT.app_det {X : Type} {l : List Ty} {f : TysT l X} {vs : List Value} {K K' : X → Prop} (h : TysT.app l f vs K) (h' : TysT.app l f vs K') : ∃ y, K y ∧ K' y := by
  induction l generalizing vs with
  | nil => cases vs with
    | nil => exact ⟨_, h, h'⟩
    | cons v vs => exact h.elim
  | cons x r ih => cases vs with
    | nil => exact h.elim
    | cons v vs =>
      obtain ⟨g, hg1, hg2⟩ := TyT.app_some (TyT.app_det h h')
      exact ih hg1 hg2
theorem reads_det {l : Fr} {sp : List (Nat × Ty)} : ∀ {vs vs' : List Value}, Reads l sp vs → Reads l sp vs' → vs = vs' := by
  induction sp with
  | nil => intro vs vs' h h'; cases vs <;> cases vs' <;> first | rfl | exact h.elim | exact h'.elim
  | cons x r ih =>
    intro vs vs' h h'
    cases vs with
    | nil => exact h.elim
    | cons v vs => cases vs' with
      | nil => exact h'.elim
      | cons v' vs' =>
        have := h.1.symm.trans h'.1
        obtain rfl := Option.some.inj this
        rw [ih h.2 h'.2]
theorem LeafT.app_val {X : Type} {x : Leaf} {f : LeafT x X} {v : Value} {K : X → Prop} (h : LeafT.app x f v K) : ∃ y, K y ∧ ∀ K' : X → Prop, K' y → LeafT.app x f v K' := by
  cases x <;> cases v <;> simp only [LeafT.app] at h ⊢ <;> first | exact h.elim | exact ⟨_, h, fun _ h' => h'⟩ | skip
  rename_i k k' n
  cases hd : decide (k = k') <;> simp only [hd, bsel_true, bsel_false] at h ⊢
  exact ⟨_, h, fun _ h' => h'⟩
theorem LeavesT.app_val {X : Type} {l : List Leaf} {f : LeavesT l X} {vs : List Value} {K : X → Prop} (h : LeavesT.app l f vs K) : ∃ y, K y ∧ ∀ K' : X → Prop, K' y → LeavesT.app l f vs K' := by
  induction l generalizing vs with
  | nil => cases vs with
    | nil => exact ⟨_, h, fun _ h' => h'⟩
    | cons v vs => exact h.elim
  | cons x r ih => cases vs with
    | nil => exact h.elim
    | cons v vs =>
      obtain ⟨g, hg, hall⟩ := LeafT.app_val h
      obtain ⟨y, hy, hall2⟩ := ih hg
      exact ⟨y, hy, fun K' hk => hall _ (hall2 K' hk)⟩
theorem TyT.app_val {X : Type} {x : Ty} {f : TyT x X} {v : Value} {K : X → Prop} (h : TyT.app x f v K) : ∃ y, K y ∧ ∀ K' : X → Prop, K' y → TyT.app x f v K' := by
  cases x with
  | leaf x => exact LeafT.app_val h
  | agg l => cases v <;> first | exact h.elim | exact LeavesT.app_val h
  | big n => cases v <;> first | exact h.elim | exact ⟨_, h.2, fun _ h' => ⟨h.1, h'⟩⟩
theorem TysT.app_val {X : Type} {l : List Ty} {f : TysT l X} {vs : List Value} {K : X → Prop} (h : TysT.app l f vs K) : ∃ y, K y ∧ ∀ K' : X → Prop, K' y → TysT.app l f vs K' := by
  induction l generalizing vs with
  | nil => cases vs with
    | nil => exact ⟨_, h, fun _ h' => h'⟩
    | cons v vs => exact h.elim
  | cons x r ih => cases vs with
    | nil => exact h.elim
    | cons v vs =>
      obtain ⟨g, hg, hall⟩ := TyT.app_val h
      obtain ⟨y, hy, hall2⟩ := ih hg
      exact ⟨y, hy, fun K' hk => hall _ (hall2 K' hk)⟩
def MeasIs (sp : List (Nat × Ty)) (m : TysT (tysOf sp) (World → Nat)) (a : Act) (w : World) (n : Nat) : Prop :=
  ∃ vs, Reads a.tmps.toList sp vs ∧ TysT.app (tysOf sp) m vs fun z => z w = n
open Classical in
noncomputable def meas (sp : List (Nat × Ty)) (m : TysT (tysOf sp) (World → Nat)) (a : Act) (w : World) : Nat :=
  if h : ∃ n, MeasIs sp m a w n then Classical.choose h else 0
theorem meas_eq {sp : List (Nat × Ty)} {m : TysT (tysOf sp) (World → Nat)} {a : Act} {w : World} {vs : List Value} {K : (World → Nat) → Prop} (hr : Reads a.tmps.toList sp vs) (h : TysT.app (tysOf sp) m vs K) :
    ∃ y, K y ∧ meas sp m a w = y w := by
  obtain ⟨y, hy, hall⟩ := TysT.app_val h
  refine ⟨y, hy, ?_⟩
  have hex : ∃ n, MeasIs sp m a w n := ⟨y w, vs, hr, hall _ rfl⟩
  unfold meas
  rw [dif_pos hex]
  obtain ⟨vs', hr', h'⟩ := Classical.choose_spec hex
  rw [reads_det hr' hr] at h'
  obtain ⟨z, h1, h2⟩ := TysT.app_det h' (hall (fun z => z = y) rfl)
  rw [← h1, h2]
theorem frame_back {ws : List Nat} {l l' : Fr} {sp : List (Nat × Ty)} {vs : List Value} {K : Fr → Prop} (ha : AgreeOff ws l l') (hr : Reads l' sp vs)
    (h : ∀ us : Nat → Value, havocK us ws l fun l1 => setsK sp vs l1 K) : K l' := by
  have h1 := setsK_out (havocK_out (h fun t => l'.getD t undef))
  rw [havoc_eq ha, sets_same hr] at h1
  exact h1
theorem vc_sound {P : Program} {pl : Plan} {ds : List Deferred} : ∀ (c : Code) (p : Nat) (C : Conts) (l : Fr) (w : World) (Q : Exit → Act → World → Prop), vc P pl c p C l w →
    (∀ l' w', AgreeOff (written c) l l' → C.normal l' w' → Q .normal (act l' ds) w') → (∀ i l' w', AgreeOff (written c) l l' → C.exit i l' w' → Q (.exit i) (act l' ds) w') →
    (∀ l' w', C.ret l' w' → Q .ret (act l' ds) w') → (∀ l' ch w', AgreeOff (written c) l l' → C.panic ch w' → Q (.panic ch) (act l' ds) w') → c.wp P Q (act l ds) w
  | .skip, p, C, l, w, Q, h, hn, _, _, _ => wp_skip (hn l w (AgreeOff.refl _ _) h)
  | .region id ⟨ops⟩ false, p, C, l, w, Q, h, hn, _, _, hp => wp_region_list (vcOps_sound hp h fun l' w' ha hk => hn l' w' ha hk)
  | .region id ⟨ops⟩ true, p, C, l, w, Q, h, hn, _, _, hp => by
    simp only [vc] at h
    split at h
    · exact drawn_sound h (fun l' w' ha hk => hn l' w' ha hk) hp
    · exact drawn_sound h (fun l' w' ha hk => hn l' w' ha hk) hp
  | .seq a b, p, C, l, w, Q, h, hn, he, hr, hp => by
    simp only [vc] at h
    have left : ∀ {l' : Fr}, AgreeOff (written a) l l' → AgreeOff (written (.seq a b)) l l' := fun ha => ha.mono fun t ht => List.mem_append_left _ ht
    have both : ∀ {l' l2 : Fr}, AgreeOff (written a) l l' → AgreeOff (written b) l' l2 → AgreeOff (written (.seq a b)) l l2 := fun ha hb => ha.trans hb (fun t ht => List.mem_append_left _ ht) (fun t ht => List.mem_append_right _ ht)
    refine wp_seq ?_
    split at h
    · refine vc_sound a (2 * p) _ l w _ h (fun l' w' ha hk => ?_) (fun i l' w' ha hk => he i l' w' (left ha) hk) (fun l' w' hk => hr l' w' hk) (fun l' ch w' ha hk => hp l' ch w' (left ha) hk)
      exact vc_sound b (2 * p + 1) C l' w' Q hk (fun l2 w2 hb hk => hn l2 w2 (both ha hb) hk) (fun i l2 w2 hb hk => he i l2 w2 (both ha hb) hk) hr (fun l2 ch w2 hb hk => hp l2 ch w2 (both ha hb) hk)
    · rename_i sp _
      obtain ⟨J, h1, h2⟩ := h
      refine vc_sound a (2 * p) _ l w _ h1 (fun l' w' ha hk => ?_) (fun i l' w' ha hk => he i l' w' (left ha) hk) (fun l' w' hk => hr l' w' hk) (fun l' ch w' ha hk => hp l' ch w' (left ha) hk)
      obtain ⟨vs, hrd, hj⟩ := getsK_out hk
      have h3 := TysT.app_all hj h2
      have h4 := frame_back ha hrd fun us => h3 us w' hj
      exact vc_sound b (2 * p + 1) C l' w' Q h4 (fun l2 w2 hb hk => hn l2 w2 (both ha hb) hk) (fun i l2 w2 hb hk => he i l2 w2 (both ha hb) hk) hr (fun l2 ch w2 hb hk => hp l2 ch w2 (both ha hb) hk)
  | .cond c a b, p, C, l, w, Q, h, hn, he, hr, hp => by
    simp only [vc] at h
    have h := opK_out (ds := ds) h
    split at h
    · rename_i v t hv
      rw [bsel_iff] at h
      refine wp_cond_split hv (fun ht => ?_) (fun hf => ?_)
      · exact vc_sound a (2 * p) C l w Q (h.1 ht) (fun l' w' ha hk => hn l' w' (ha.mono fun t ht => List.mem_append_left _ ht) hk) (fun i l' w' ha hk => he i l' w' (ha.mono fun t ht => List.mem_append_left _ ht) hk) hr (fun l' ch w' ha hk => hp l' ch w' (ha.mono fun t ht => List.mem_append_left _ ht) hk)
      · exact vc_sound b (2 * p + 1) C l w Q (h.2 hf) (fun l' w' ha hk => hn l' w' (ha.mono fun t ht => List.mem_append_right _ ht) hk) (fun i l' w' ha hk => he i l' w' (ha.mono fun t ht => List.mem_append_right _ ht) hk) hr (fun l' ch w' ha hk => hp l' ch w' (ha.mono fun t ht => List.mem_append_right _ ht) hk)
    · exact h.elim
  | .block id c, p, C, l, w, Q, h, hn, he, hr, hp => by
    simp only [vc] at h
    refine wp_block (vc_sound c (2 * p) _ l w _ h (fun l' w' ha hk => hn l' w' ha hk) (fun i l' w' ha hk => ?_) (fun l' w' hk => hr l' w' hk) (fun l' ch w' ha hk => hp l' ch w' ha hk))
    replace hk : bsel (Nat.beq i id) (C.normal l' w') (C.exit i l' w') := hk
    rw [bsel_iff] at hk
    simp only [Exit.inBlock]
    by_cases hi : i = id
    · rw [if_pos hi]
      exact hn l' w' ha (hk.1 (by rw [hi]; exact Nat.beq_refl id))
    · rw [if_neg hi]
      refine he i l' w' ha (hk.2 ?_)
      cases hb : Nat.beq i id with
      | false => rfl
      | true => exact (hi (Nat.eq_of_beq_eq_true hb)).elim
  | .loop c, p, C, l, w, Q, h, hn, he, hr, hp => by
    simp only [vc] at h
    split at h
    · exact h.elim
    · rename_i sp _
      obtain ⟨I, m, h0, h1⟩ := h
      refine wp_loop (fun a w' => ∃ l' vs, a = act l' ds ∧ AgreeOff (written c) l l' ∧ Reads l' sp vs ∧ TysT.app (tysOf sp) I vs fun q => q w') (meas sp m) ?_ ?_
      · obtain ⟨vs, hrd, hi⟩ := getsK_out h0
        exact ⟨l, vs, rfl, AgreeOff.refl _ _, hrd, hi⟩
      · rintro a w' ⟨l', vs, rfl, ha, hrd, hi⟩
        have h3 := TysT.app_all hi h1
        have h4 := frame_back ha hrd fun us => h3 us w' hi
        refine vc_sound c (2 * p) _ l' w' _ h4 (fun l2 w2 hb hk => ?_) (fun i l2 w2 hb hk => he i l2 w2 (ha.trans hb (fun _ h => h) (fun _ h => h)) hk) (fun l2 w2 hk => hr l2 w2 hk) (fun l2 ch w2 hb hk => hp l2 ch w2 (ha.trans hb (fun _ h => h) (fun _ h => h)) hk)
        obtain ⟨vs', hrd', hi', hm⟩ := getsK_out hk
        refine ⟨⟨l2, vs', rfl, ha.trans hb (fun _ h => h) (fun _ h => h), hrd', hi'⟩, ?_⟩
        obtain ⟨m1, hm1, e1⟩ := meas_eq (a := act l2 ds) (w := w2) hrd' hm
        obtain ⟨m0, hm0, e0⟩ := meas_eq (a := act l' ds) (w := w') hrd hm1
        rw [e1, e0]
        exact hm0
  | .exit i, p, C, l, w, Q, h, _, he, _, _ => wp_exit (he i l w (AgreeOff.refl _ _) h)
  | .ret, p, C, l, w, Q, h, _, _, hr, _ => wp_ret (hr l w h)
  | .label _, _, _, _, _, _, h, _, _, _, _ => h.elim
  | .goto _, _, _, _, _, _, h, _, _, _, _ => h.elim
  | .scope _, _, _, _, _, _, h, _, _, _, _ => h.elim
  | .rangeFunc .., _, _, _, _, _, h, _, _, _, _ => h.elim
  | .refuse _, _, _, _, _, _, h, _, _, _, _ => h.elim
def resK (P : Program) (w : World) : List ResultVar → Fr → (List Value → Prop) → Prop
  | [], _, K => K []
  | .tmp t :: r, l, K => getK l t fun v => resK P w r l fun vs => K (v :: vs)
  | .cell a t :: r, l, K => getK l a fun v => ptrK v fun a => loadQ P t a (fun a v => w.cell? a = some v) fun v => resK P w r l fun vs => K (v :: vs)
def retV : List Value → Value
  | [v] => v
  | vs => .tuple ⟨vs⟩
def fnConts (P : Program) (rs : List ResultVar) (R : Ending → World → Prop) : Conts where
  normal := fun l w => resK P w rs l fun vs => R (.returned (retV vs)) w
  exit := fun _ _ _ => False
  ret := fun l w => resK P w rs l fun vs => R (.returned (retV vs)) w
  panic := fun c w => R (.panicked c) w
def resF (tmps : Array Value) : ResultVar → Sem Value
  | .tmp t => pure (tmps.getD t undef)
  | .cell a t => do loadVar t (← asAddr (tmps.getD a undef))
theorem resK_out {P : Program} {w : World} {l : Fr} {ds : List Deferred} {rs : List ResultVar} : ∀ {K : List Value → Prop}, resK P w rs l K →
    ∃ vs, (rs.mapM (resF (act l ds).tmps)).run P w = .ok vs w ∧ K vs := by
  induction rs with
  | nil => intro K h; exact ⟨[], rfl, h⟩
  | cons r rs ih =>
    intro K h
    cases r with
    | tmp t =>
      obtain ⟨v, hv, h⟩ := getK_out h
      obtain ⟨vs, h1, h2⟩ := ih h
      refine ⟨v :: vs, ?_, h2⟩
      have hg : (act l ds).tmps.getD t undef = v := by simp [act, hv]
      simp only [List.mapM_cons, Sem.run_bind, resF, hg, Sem.run_pure, Result.andThen_ok, h1]
    | cell a t =>
      obtain ⟨v, hv, h⟩ := getK_out h
      obtain ⟨ad, rfl, h3⟩ := ptrK_out h
      obtain ⟨u, h4, hl⟩ := loadQ_out h3
      obtain ⟨vs, h1, h2⟩ := ih h4
      refine ⟨u :: vs, ?_, h2⟩
      have hg : (act l ds).tmps.getD a undef = .pointer (some ad) := by simp [act, hv]
      simp only [List.mapM_cons, Sem.run_bind, resF, hg, asAddr, Sem.run_pure, Result.andThen_ok, hl w (fun _ _ h => h), h1]
theorem results_run {P : Program} {fn : Func} {w : World} {l : Fr} {ds : List Deferred} {K : List Value → Prop} (h : resK P w fn.results.toList l K) :
    ∃ vs, (results fn (act l ds).tmps).run P w = .ok (retV vs) w ∧ K vs := by
  obtain ⟨vs, h1, h2⟩ := resK_out (ds := ds) h
  refine ⟨vs, ?_, h2⟩
  have e : results fn (act l ds).tmps = (do
      let vs ← fn.results.mapM (resF (act l ds).tmps)
      pure (if h : vs.size = 1 then vs[0] else .tuple vs)) := by
    unfold results
    congr 2
  rw [e, Sem.run_bind, Array.mapM_eq_mapM_toList]
  simp only [Sem.run_map, h1, Result.andThen_ok, Sem.run_pure]
  match vs with
  | [] => rfl
  | [v] => rfl
  | v :: u :: r => simp [retV]
def frame0 (n : Nat) : List Value → Fr
  | [] => List.replicate n undef
  | v :: r => v :: frame0 (n - 1) r
theorem frame0_eq (args : List Value) : ∀ n, frame0 n args = args ++ List.replicate (n - args.length) undef := by
  induction args with
  | nil => intro n; simp [frame0]
  | cons v r ih => intro n; simp only [frame0, ih, List.cons_append, List.length_cons]; congr 3; omega
theorem calls_vc {P : Program} {f : FuncId} {fn : Func} {c : Code} {args : List Value} {w : World} {R : Ending → World → Prop} (pl : Plan) (hf : P.funcs[f]? = some fn) (hb : fn.body = some c)
    (h : vc P pl c 1 (fnConts P fn.results.toList R) (frame0 fn.ntmps args) w) : Calls P f ⟨args⟩ w R := by
  refine calls_of_wp hf hb ?_
  have e : (Array.mk args) ++ Array.replicate (fn.ntmps - (Array.mk args).size) undef = ⟨frame0 fn.ntmps args⟩ := by
    apply Array.ext'
    simp [frame0_eq]
  rw [e]
  refine vc_sound (ds := []) c 1 _ _ w _ h (fun l' w' _ hk => ?_) (fun i l' w' _ hk => hk.elim) (fun l' w' hk => ?_) (fun l' ch w' _ hk => ⟨rfl, hk⟩)
  · obtain ⟨vs, h1, h2⟩ := results_run (ds := []) hk
    exact ⟨rfl, _, h1, h2⟩
  · obtain ⟨vs, h1, h2⟩ := results_run (ds := []) hk
    exact ⟨rfl, _, h1, h2⟩
end Go.Proofs.YtkdlmkbpfdogcaaGreatDoor.Vc
namespace Go.Proofs.YtkdlmkbpfdogcaaGreatDoor
open Go.RowKit Vc
theorem wrap_i64 {n : Int} (h0 : -9223372036854775808 ≤ n) (h1 : n < 9223372036854775808) : IntKind.i64.wrap n = n := by
  simp only [IntKind.wrap, IntKind.signed, IntKind.bits]
  simp
  omega
theorem wrap_u64 {n : Int} (h0 : 0 ≤ n) (h1 : n < 18446744073709551616) : IntKind.u64.wrap n = n := by
  simp only [IntKind.wrap, IntKind.signed, IntKind.bits]
  simp
  omega
def bit (m : Int) (i : Nat) : Bool := m.toNat.testBit i
theorem bit_zero (i : Nat) : bit 0 i = false := by simp [bit]
theorem bits_and_u64 {a b : Int} (ha0 : 0 ≤ a) (ha : a < 18446744073709551616) (hb0 : 0 ≤ b) (hb : b < 18446744073709551616) : bits .and .u64 a b = ((a.toNat &&& b.toNat : Nat) : Int) := by
  have h1 : (BitVec.ofInt IntKind.u64.bits a).toNat = a.toNat := by
    simp [BitVec.toNat_ofInt, IntKind.bits]; omega
  have h2 : (BitVec.ofInt IntKind.u64.bits b).toNat = b.toNat := by
    simp [BitVec.toNat_ofInt, IntKind.bits]; omega
  have h3 : a.toNat &&& b.toNat ≤ a.toNat := Nat.and_le_left
  simp only [bits, BitVec.toNat_and, h1, h2]
  exact wrap_u64 (by omega) (by omega)
theorem pow_u64 {x : Nat} (h : x < 64) : IntKind.u64.wrap (1 * 2 ^ (min x IntKind.u64.bits)) = ((2 ^ x : Nat) : Int) ∧ 2 ^ x < 18446744073709551616 := by
  have hm : min x IntKind.u64.bits = x := by simp [IntKind.bits]; omega
  have h2 : 2 ^ x < 2 ^ 64 := Nat.pow_lt_pow_right (by decide) h
  rw [hm]
  refine ⟨?_, by omega⟩
  have : (1 * 2 ^ x : Int) = ((2 ^ x : Nat) : Int) := by push_cast; omega
  rw [this]
  exact wrap_u64 (Int.natCast_nonneg _) (Int.ofNat_lt.2 (by omega))
theorem bit_mask {m : Int} (h0 : 0 ≤ m) (h1 : m < 18446744073709551616) {x : Int} (hx0 : 0 ≤ x) (hx : x < 64) :
    decide (bits .and .u64 m (IntKind.u64.wrap (1 * 2 ^ (min x.toNat IntKind.u64.bits))) = 0) = !bit m x.toNat := by
  obtain ⟨hp, hq⟩ := pow_u64 (x := x.toNat) (by omega)
  rw [hp, bits_and_u64 h0 h1 (Int.natCast_nonneg _) (Int.ofNat_lt.2 hq)]
  simp only [Int.toNat_natCast, bit]
  cases hb : m.toNat.testBit x.toNat with
  | false =>
    have : m.toNat &&& 2 ^ x.toNat = 0 := by
      apply Nat.eq_of_testBit_eq
      intro j
      rw [Nat.testBit_and, Nat.testBit_two_pow, Nat.zero_testBit]
      by_cases h : x.toNat = j
      · subst h; simp [hb]
      · simp [h]
    simp [this]
  | true =>
    have : m.toNat &&& 2 ^ x.toNat ≠ 0 := by
      intro h
      have h2 : (m.toNat &&& 2 ^ x.toNat).testBit x.toNat = true := by
        rw [Nat.testBit_and, Nat.testBit_two_pow]; simp [hb]
      rw [h] at h2
      simp at h2
    have h3 : ((m.toNat &&& 2 ^ x.toNat : Nat) : Int) ≠ 0 := by
      intro h; exact this (Int.ofNat_inj.1 h)
    rw [decide_eq_false h3]
    rfl
theorem bit_shift {m : Int} (h0 : 0 ≤ m) (h1 : m < 18446744073709551616) {x : Int} (hx0 : 0 ≤ x) (hx : x < 64) :
    bits .and .u64 (Int.fdiv m (2 ^ (min x.toNat IntKind.u64.bits))) 1 = ((bit m x.toNat).toNat : Int) := by
  have hm : min x.toNat IntKind.u64.bits = x.toNat := by simp [IntKind.bits]; omega
  obtain ⟨k, rfl⟩ := Int.eq_ofNat_of_zero_le h0
  have hd : Int.fdiv (k : Int) (2 ^ x.toNat) = ((k / 2 ^ x.toNat : Nat) : Int) := by
    rw [Int.fdiv_eq_ediv_of_nonneg _ (Int.pow_nonneg (by decide))]
    push_cast
    rfl
  have hle : k / 2 ^ x.toNat ≤ k := Nat.div_le_self _ _
  have h1' : k < 18446744073709551616 := Int.ofNat_lt.1 h1
  rw [hm, hd, bits_and_u64 (Int.natCast_nonneg _) (Int.lt_of_le_of_lt (Int.ofNat_le.2 hle) h1) (by decide) (by decide)]
  simp only [Int.toNat_natCast, bit, Nat.testBit, Nat.shiftRight_eq_div_pow]
  have e1 : (1 : Int).toNat = 1 := rfl
  rw [e1, Nat.and_comm 1]
  rw [Nat.and_one_is_mod]
  rcases Nat.mod_two_eq_zero_or_one (k / 2 ^ x.toNat) with h | h <;> simp [h]
theorem bit_shift1 {m : Int} (h0 : 0 ≤ m) (h1 : m < 18446744073709551616) {x : Int} (hx0 : 0 ≤ x) (hx : x < 64) :
    decide (bits .and .u64 (Int.fdiv m (2 ^ (min x.toNat IntKind.u64.bits))) 1 = 1) = bit m x.toNat := by
  rw [bit_shift h0 h1 hx0 hx]; cases bit m x.toNat <;> simp
theorem add_row (g o i : Nat) : (Addr.mk g o none).add i = ⟨g, o + i, none⟩ := by
  unfold Addr.add
  split
  · next h => subst h; rfl
  · rfl
theorem Row.wr {w : World} {g : Nat} {t : TypeId} {cs : Array Value} (h : Row w g t cs) (i : Nat) (hi : i < cs.size) : Wr w ⟨g, i, none⟩ :=
  ⟨by rw [h.cell]; simp [hi], h.frozen hi⟩
theorem Row.setl {w : World} {g : Nat} {t : TypeId} {l : List Value} (h : Row w g t ⟨l⟩) (i : Nat) (u : Value) : Row (w.setCell ⟨g, i, none⟩ u) g t ⟨l.set i u⟩ := by
  have := h.set i u
  have e : (Array.mk l).setIfInBounds i u = ⟨l.set i u⟩ := by
    apply Array.ext'
    simp
  rwa [e] at this
def cellsF (F : Nat → UInt8) (N : Nat) : List Value := (List.range N).map fun i => .int .u8 (F i).toNat
def rowF (F : Nat → UInt8) (o N : Nat) : List UInt8 := (List.range N).map fun j => F (o + j)
@[simp] theorem cellsF_length (F : Nat → UInt8) (N : Nat) : (cellsF F N).length = N := by simp [cellsF]
@[simp] theorem rowF_length (F : Nat → UInt8) (o N : Nat) : (rowF F o N).length = N := by simp [rowF]
theorem cellsF_get {F : Nat → UInt8} {N i : Nat} (h : i < N) : (cellsF F N)[i]? = some (.int .u8 (F i).toNat) := by simp [cellsF, h]
theorem cellsF_one (F : Nat → UInt8) (N : Nat) : ∀ v ∈ cellsF F N, v.oneCell' = true := by
  intro v hv
  simp only [cellsF, List.mem_map] at hv
  obtain ⟨i, _, rfl⟩ := hv
  rfl
theorem rowF_get {F : Nat → UInt8} {o N i : Nat} (h : i < N) : (rowF F o N)[i]? = some (F (o + i)) := by simp [rowF, h]
theorem rowF_congr {F G : Nat → UInt8} {o N : Nat} (h : ∀ i, i < N → F (o + i) = G (o + i)) : rowF F o N = rowF G o N := by
  apply List.map_congr_left
  intro i hi
  exact h i (List.mem_range.1 hi)
theorem cellsF_congr {F G : Nat → UInt8} {N : Nat} (h : ∀ i, i < N → F i = G i) : cellsF F N = cellsF G N := by
  apply List.map_congr_left
  intro i hi
  rw [h i (List.mem_range.1 hi)]
theorem cellsF_set {F : Nat → UInt8} {N i : Nat} (b : UInt8) : (Array.mk (cellsF F N)).setIfInBounds i (.int .u8 b.toNat) = ⟨cellsF (fun j => if j = i then b else F j) N⟩ := by
  apply Array.ext'
  apply List.ext_getElem?
  intro j
  simp only [Array.toList_setIfInBounds, List.getElem?_set, cellsF, List.getElem?_map, List.length_map, List.length_range]
  by_cases hj : j < N
  · by_cases h : i = j
    · subst h; simp [hj]
    · have : ¬ j = i := fun e => h e.symm
      simp [h, hj, this]
  · have : (List.range N)[j]? = none := List.getElem?_eq_none (by simpa using hj)
    rw [this]
    by_cases h : i = j
    · subst h; simp [hj]
    · simp [h]
theorem cellsF_splice {F G : Nat → UInt8} {N o M : Nat} (h : o + M ≤ N) :
    (cellsF F N).take o ++ (cellsF G M ++ (cellsF F N).drop (o + M)) = cellsF (fun j => if o ≤ j ∧ j < o + M then G (j - o) else F j) N := by
  apply List.ext_getElem?
  intro j
  rcases Nat.lt_or_ge j o with h1 | h1
  · rw [List.getElem?_append_left (by simp; omega), List.getElem?_take_of_lt h1, cellsF_get (by omega), cellsF_get (by omega)]
    simp [Nat.not_le.2 h1]
  · rw [List.getElem?_append_right (by simp; omega)]
    have hl : ((cellsF F N).take o).length = o := by simp; omega
    rw [hl]
    rcases Nat.lt_or_ge j (o + M) with h2 | h2
    · rw [List.getElem?_append_left (by simp; omega), cellsF_get (by omega), cellsF_get (by omega)]
      simp [h1, h2]
    · rw [List.getElem?_append_right (by simp; omega), cellsF_length, List.getElem?_drop]
      have he : o + M + (j - o - M) = j := by omega
      rw [he]
      rcases Nat.lt_or_ge j N with h3 | h3
      · rw [cellsF_get h3, cellsF_get h3]
        simp [Nat.not_lt.2 h2]
      · rw [List.getElem?_eq_none (by simpa using h3), List.getElem?_eq_none (by simpa using h3)]
theorem cellsF_replicate (N : Nat) : List.replicate N (Value.int .u8 0) = cellsF (fun _ => 0) N := by
  apply List.ext_getElem?
  intro j
  rcases Nat.lt_or_ge j N with h | h
  · rw [cellsF_get h]; simp [h]
  · rw [List.getElem?_eq_none (by simpa using h), List.getElem?_eq_none (by simpa using h)]
theorem cellsF_map (s : List UInt8) : s.map (fun b => Value.int .u8 b.toNat) = cellsF (fun j => s.getD j 0) s.length := by
  apply List.ext_getElem?
  intro j
  rcases Nat.lt_or_ge j s.length with h | h
  · rw [cellsF_get h]; simp [h]
  · rw [List.getElem?_eq_none (by simpa using h), List.getElem?_eq_none (by simpa using h)]
theorem rowF_bytes {w : World} {g : Nat} {t : TypeId} {F : Nat → UInt8} {N : Nat} (h : Row w g t ⟨cellsF F N⟩) {o M : Nat} (hM : o + M ≤ N) :
    BytesAt (fun a v => w.cell? a = some v) (some ⟨g, o, none⟩) M (rowF F o M) := by
  refine ⟨by simp, fun _ => ⟨_, rfl, fun j b hb => ?_⟩⟩
  have hj : j < M := by
    have := (List.getElem?_eq_some_iff.1 hb).1
    simpa using this
  rw [rowF_get hj] at hb
  obtain rfl := Option.some.inj hb
  rw [add_row]
  exact h.cellv (by simpa using cellsF_get (by omega))
def bc (l : List UInt8) : List Value := l.map fun b => .int .u8 b.toNat
@[simp] theorem bc_length (l : List UInt8) : (bc l).length = l.length := by simp [bc]
theorem bc_set (l : List UInt8) (i : Nat) (b : UInt8) : (bc l).set i (.int .u8 (b.toNat : Int)) = bc (l.set i b) := by simp [bc, List.map_set]
theorem bc_append (l m : List UInt8) : bc (l ++ m) = bc l ++ bc m := by simp [bc]
theorem bc_get {l : List UInt8} {i : Nat} {b : UInt8} (h : l[i]? = some b) : (bc l)[i]? = some (.int .u8 (b.toNat : Int)) := by simp [bc, h]
theorem bc_one (l : List UInt8) : ∀ v ∈ bc l, v.oneCell' = true := by
  intro v hv
  simp only [bc, List.mem_map] at hv
  obtain ⟨x, _, rfl⟩ := hv
  rfl
theorem Row.bytes {w : World} {g : Nat} {t : TypeId} {l : List UInt8} (h : Row w g t ⟨bc l⟩) {n : Nat} (hn : l.length = n) : BytesAt (fun a v => w.cell? a = some v) (some ⟨g, 0, none⟩) n l := by
  refine ⟨hn, fun _ => ⟨_, rfl, fun j b hb => ?_⟩⟩
  rw [add_row, Nat.zero_add]
  exact h.cellv (by simpa using bc_get hb)
theorem Owns.ownAddr {w : World} {B : Nat} {e : TypeId} {size : Nat} {v : Value} {n : Nat} {xs : List Value} (h : Owns w B e size v n xs) (hn : 0 < n) : ∃ g cap, v = .slice (some ⟨g, 0, none⟩) n cap ∧ B ≤ g ∧ g < w.heap.size ∧ n ≤ cap ∧ ∀ j u, xs[j]? = some u → w.cell? ⟨g, j, none⟩ = some u := by
  obtain ⟨g, cap, cur, rfl, hb, hr, hc, _, _⟩ := h.row hn
  exact ⟨g, cap, rfl, hb, hr.lt, hc, h.cells rfl⟩
theorem Owns.bytes {w : World} {B : Nat} {e : TypeId} {p : Option Addr} {n c : Nat} {l : List UInt8} (h : Owns w B e 1 (.slice p n c) n (bc l)) : BytesAt (fun a v => w.cell? a = some v) p n l := by
  have hl := h.length
  rw [bc_length] at hl
  refine ⟨by omega, fun hn => ?_⟩
  obtain ⟨g, cap, he, _, _, _, hx⟩ := h.ownAddr hn
  injection he with e1 e2 e3
  subst e1
  refine ⟨_, rfl, fun j b hb => ?_⟩
  rw [add_row, Nat.zero_add]
  exact hx j _ (bc_get hb)
theorem one_one {x : Value} (h : x.oneCell' = true) : ∀ u ∈ [x], u.oneCell' = true := by simpa using h
theorem one_src (w : World) (t : TypeId) (x : Value) : 0 < 1 → ∃ a : Addr, (some (Addr.mk w.heap.size 0 none)) = some a ∧ ∀ (j : Nat) (u : Value), [x][j]? = some u → (w.alloc (.cells #[x] t)).cell? (a.add j) = some u := by
  refine fun _ => ⟨_, rfl, fun j u hu => ?_⟩
  have hj : j = 0 := by
    have := (List.getElem?_eq_some_iff.1 hu).1
    simpa using this
  subst hj
  obtain rfl := Option.some.inj hu
  exact (Row.new w t _).cellv rfl
section
variable {w w2 w7 : World} {B L L' : Nat} {e : TypeId} {v v' : Value} {xs ys : List Value} {size : Nat} {row : Option Nat}
theorem Owns.pushed {p p' : Option Addr} {n n' c c' : Nat} (ho : Owns w2 B e size (.slice p n c) L xs) (hB : B ≤ w2.heap.size) {o : Obj} (ho7 : Owns w7 0 e size (.slice p' n' c') L' ys)
    (hblk : Blk p p' n' c c' (w2.alloc o).heap.size) : Owns w7 B e size (.slice p' n' c') L' ys := by
  refine ho7.base fun k hk => ?_
  rcases hblk.own (n := n) with h | h
  · exact (ho.lt k (by rw [← h, hk])).1
  · rw [hk] at h
    obtain rfl := Option.some.inj h
    simp
    omega
theorem Mod.pushed {S : Nat → Prop} (hm : Mod S w w2) (ho : Owns w2 B e size v L xs) (hwB : w.heap.size ≤ B) {o : Obj} (hg : (w2.alloc o).grownBy w7 v.ownBlock) : Mod S w w7 :=
  (hm.alloc o).grown hg fun g hk => .inr (Nat.le_trans hwB (ho.lt g hk).1)
theorem Row.pushed {g : Nat} {t : TypeId} {cs : Array Value} (h : Row w2 g t cs) (ho : Owns w2 B e size v L xs) (hgB : g < B) {o : Obj} (hg : (w2.alloc o).grownBy w7 v.ownBlock) : Row w7 g t cs :=
  (h.alloc o).grown hg fun hk => by have := (ho.lt g hk.symm).1; omega
end
end Go.Proofs.YtkdlmkbpfdogcaaGreatDoor
namespace Go.Proofs.YtkdlmkbpfdogcaaGreatDoor
abbrev Txt := List UInt8
end Go.Proofs.YtkdlmkbpfdogcaaGreatDoor
namespace Go.Proofs.YtkdlmkbpfdogcaaGreatDoor.Vc
open Go.RowKit
abbrev wideAt (ro : Option Nat) : Fence := { Fence.wide with round := ro }
theorem callsIn_at {ro : Option Nat} {n : Nat} {P : Program} {f : FuncId} {args : Array Value} {w : World} {R : Ending → World → Prop} (h : Calls P f args w R) : CallsIn (wideAt ro) n P f args w R := (callsIn_wide (n := n)).2 h
theorem rowsIn_at {ro : Option Nat} {n : Nat} {P : Program} {row : String} {args : Array Value} {w : World} {R : Value → World → Prop} (h : Rows P row args w R) : RowsIn (wideAt ro) n P row args w R := fun c cs _ =>
  let ⟨v, w', r, s⟩ := h c cs
  ⟨v, w', r, stepsIn_wide.2 s⟩
def noDefer : Op → Bool
  | .defer _ => false
  | _ => true
theorem noDefer_out {op : Op} (h : noDefer op = true) : ∀ c, op ≠ .defer c := by
  intro c e
  rw [e] at h
  cases h
theorem opIn_of_wp {ro : Option Nat} {n : Nat} {P : Program} {o : Oper} {a : Act} {w : World} {next : Act → World → Prop} {Q : Exit → Act → World → Prop} (hd : noDefer o.op = true) (h : o.wp P a w next Q) : o.wpIn (wideAt ro) n P a w next Q := by
  refine ⟨fun _ _ => trivial, ?_⟩
  rw [Oper.semAt_eq _ _ _ (noDefer_out hd)]
  unfold Oper.wp at h
  generalize (execOp a.eval o).run P w = r at h
  cases r with
  | ok x w' =>
    cases x <;> simp only [Oper.upon, Oper.uponIn] at h ⊢ <;> first | exact h | exact h.elim | skip
    · exact ⟨fun e => (by cases e), callsIn_at h⟩
    · exact ⟨fun e => (by cases e), rowsIn_at h⟩
  | halt x w' => cases x <;> simp only [Oper.upon, Oper.uponIn] at h ⊢ <;> first | exact h | exact h.elim
def YieldsTo (P : Program) (k : Nat) (args : List Value) (w : World) (R : Ending → World → Prop) : Prop :=
  ∃ fn tmps assign body, (Instr.yield k ⟨args⟩).run P w = .ok (.round k fn tmps assign body) w ∧ RoundIn Fence.wide 0 P k fn tmps assign body w R
theorem YieldsTo.mono {P : Program} {k : Nat} {args : List Value} {w : World} {R R' : Ending → World → Prop} (h : YieldsTo P k args w R) (hr : ∀ e w', R e w' → R' e w') : YieldsTo P k args w R' := by
  obtain ⟨fn, tmps, a, b, h1, h2⟩ := h
  exact ⟨fn, tmps, a, b, h1, h2.mono hr⟩
theorem roundIn_at {ro : Option Nat} {n l : Nat} {P : Program} {f : FuncId} {tmps : Array Value} {assign body : Code} {w : World} {R : Ending → World → Prop} (h : RoundIn Fence.wide 0 P l f tmps assign body w R) : RoundIn (wideAt ro) n P l f tmps assign body w R :=
  ⟨h.1, fun c cs _ => h.2 c cs (room_wide _)⟩
abbrev yieldV (k : Nat) : Value := .func (.yield k) #[] #[]
def yieldK (f : Value) (Y : Nat → Prop) : Prop := match f with
  | .func (.yield k) ⟨[]⟩ ⟨[]⟩ => Y k
  | _ => False
def slice3Q (P : Program) (t : TypeId) (x lo hi mx : Value) (K : Value → Prop) : Prop := match x, lo, hi, mx with
  | .slice p _ c, .int _ i, .int _ j, .int _ m => match P.underlying t with
    | some (.slice e) => bsel (hasInfo P e) (0 ≤ i ∧ i ≤ j ∧ j ≤ m ∧ m ≤ c ∧ K (.slice (if m.toNat = i.toNat then p else p.map (·.add (i.toNat * szOf P e))) (j.toNat - i.toNat) (m.toNat - i.toNat))) False
    | _ => False
  | _, _, _, _ => False
theorem slice3Q_out {P : Program} {t : TypeId} {x lo hi mx : Value} {K : Value → Prop} (h : slice3Q P t x lo hi mx K) : ∃ v, K v ∧ ∀ w, (Instr.sliceAt t x (some lo) (some hi) (some mx)).run P w = .ok v w := by
  unfold slice3Q at h
  split at h
  · rename_i p n c k i k' j k2 m
    split at h
    · rename_i e ht
      obtain ⟨hi', h0, h1, h2, h3, hk⟩ := bsel_true_out h
      refine ⟨_, hk, fun w => ?_⟩
      have b : ∀ w, (Instr.sliceBounds true n c (some (.int k i)) (some (.int k' j)) (some (.int k2 m))).run P w = .ok (i.toNat, j.toNat, m.toNat) w := fun w => by
        simp [Instr.sliceBounds, bound_run (show 0 ≤ m by omega) h3, bound_run (show 0 ≤ j by omega) (show j ≤ ((m.toNat : Nat) : Int) by omega), bound_run h0 (show i ≤ ((j.toNat : Nat) : Int) by omega)]
      simp only [Instr.sliceAt, Instr.slice, Sem.run_bind, run_underlying ht, Result.andThen_ok, b, run_size hi', Sem.run_pure]
    · exact h.elim
  · exact h.elim
def opv5 (P : Program) (l : Fr) (o : Oper) (w : World) (K : KW) : Prop := match o.op with
  | .call ⟨.value (.func _), _, _⟩ => opv P l o w K fun _ _ => False
  | .call ⟨.value f0, ⟨xs⟩, _⟩ => opK l f0 fun f => yieldK f fun k => opsK l xs fun vs => YieldsTo P k vs w fun e w' => ∃ b, e = .returned (.bool b) ∧ K (.bool b) w'
  | .slice t x (some lo) (some hi) (some mx) => opK l x fun x => opK l lo fun lo => opK l hi fun hi => opK l mx fun mx => slice3Q P t x lo hi mx fun v => K v w
  | _ => opv P l o w K fun _ _ => False
theorem opv5_sound {ro : Option Nat} {n : Nat} {P : Program} {l : Fr} {ds : List Deferred} {o : Oper} {w : World} {K : KW} {next : Act → World → Prop} {Q : Exit → Act → World → Prop}
    (hd : noDefer o.op = true) (h : opv5 P l o w K) (hK : ∀ v w', K v w' → next ((act l ds).put o.dst v) w') : o.wpIn (wideAt ro) n P (act l ds) w next Q := by
  have plain : opv P l o w K (fun _ _ => False) → o.wpIn (wideAt ro) n P (act l ds) w next Q := fun h => opIn_of_wp hd (opv_sound h hK fun _ _ h => h.elim)
  unfold opv5 at h
  split at h
  · exact plain h
  · rename_i f0 xs ts _ ho
    have h := opK_out (ds := ds) h
    unfold yieldK at h
    split at h
    · rename_i k hf
      obtain ⟨fn, tmps, as', body, hy, hr⟩ := opsK_out (ds := ds) h
      refine ⟨fun _ _ => trivial, ?_⟩
      rw [Oper.semAt_eq _ _ _ (noDefer_out hd)]
      have e : ({ toList := [] } : Array Value) ++ Array.map (act l ds).eval { toList := xs } = ⟨xs.map (act l ds).eval⟩ := by
        apply Array.ext'
        simp
      have hrun : (execOp (act l ds).eval o).run P w = .ok (.round k fn tmps as' body) w := by
        simp only [execOp, ho, resolve, hf, Deferred.ofValue, invoke, Sem.run_bind, Sem.run_pure, Result.andThen_ok]
        rw [e]
        exact hy
      rw [hrun, Oper.uponIn_round]
      refine ⟨fun e => (by cases e), (roundIn_at hr).mono ?_⟩
      rintro _ w' ⟨b, rfl, hk⟩
      exact hK _ _ hk
    · exact h.elim
  · rename_i t x lo hi mx ho
    obtain ⟨v, hk, hr⟩ := slice3Q_out (opK_out (ds := ds) (opK_out (ds := ds) (opK_out (ds := ds) (opK_out (ds := ds) h))))
    refine opIn_of_wp hd ?_
    unfold Oper.wp
    have : (execOp (act l ds).eval o).run P w = .ok (.value v) w := by
      simp only [execOp, ho, Option.map_some]
      exact execV' (hr w)
    rw [this]
    exact hK v w hk
  · exact plain h
def vcOps5 (P : Program) (ops : List Oper) (K : Fr → World → Prop) : List Oper → Fr → World → Prop
  | [], l, w => K l w
  | o :: r, l, w => guardK ops l o.guard (fun l => bsel (noDefer o.op) (opv5 P l o w fun v w' => putK l o.dst v fun l' => vcOps5 P ops K r l' w') False) (fun l => putK l o.dst undef fun l' => vcOps5 P ops K r l' w)
theorem vcOps5_sound {ro : Option Nat} {n : Nat} {P : Program} {ops : List Oper} {ds : List Deferred} {K : Fr → World → Prop} {Q : Exit → Act → World → Prop} :
    ∀ {rest : List Oper} {l : Fr} {w : World}, vcOps5 P ops K rest l w → (∀ l' w', AgreeOff (dsts rest) l l' → K l' w' → Q .normal (act l' ds) w') → wpListIn (wideAt ro) n P ⟨ops⟩ Q rest (act l ds) w := by
  intro rest
  induction rest with
  | nil => intro l w h hK; exact hK l w (AgreeOff.refl _ _) h
  | cons o r ih =>
    intro l w h hK
    have next : ∀ v w', vcOps5 P ops K r (put l o.dst v) w' → wpListIn (wideAt ro) n P ⟨ops⟩ Q r ((act l ds).put o.dst v) w' := by
      intro v w' h
      rw [act_put]
      exact ih h fun l' w' ha hk => hK l' w' (dsts_step ha) hk
    unfold wpListIn
    rcases guardK_out (ds := ds) h with ⟨hw, h⟩ | ⟨hw, h⟩
    · rw [if_pos hw]
      obtain ⟨hd, h⟩ := bsel_true_out h
      exact opv5_sound hd h fun v w' hk => next v w' (putK_out hk)
    · rw [if_neg (by simp [hw])]
      exact ⟨fun _ _ => trivial, next undef w (putK_out h)⟩
section
variable {ro : Option Nat} {n : Nat} {P : Program} {ops : List Oper} {Q : Exit → Act → World → Prop} {S : World → Prop}
theorem yieldsIf_at {i : Nat} {o : Oper} {v : Value} {a : Act} (hd : noDefer o.op = true) (hi : (Array.mk ops)[i]? = some o) (hy : YieldsIf P ⟨ops⟩ S o v a) {K : Act → World → Prop} {w : World} (hS : S w) (h : K (a.put o.dst v) w) : wpOpIn (wideAt ro) n P ⟨ops⟩ Q i K a w := by
  unfold Go.wpOpIn
  simp only [hi]
  rcases hy with ⟨hw, hv⟩ | ⟨hw, rfl⟩
  · simp only [hw, if_true, Oper.wpIn, Oper.semAt_eq _ _ _ (noDefer_out hd), hv w hS, Oper.uponIn]
    exact ⟨fun _ _ => trivial, h⟩
  · simp only [hw, Bool.false_eq_true, if_false]
    exact ⟨fun _ _ => trivial, h⟩
theorem putIf_at {j : Nat} {oi oj : Oper} {v : Value} (hj : (Array.mk ops)[j]? = some oj) (hd : noDefer oj.op = true) (hap : oi.apart ⟨ops⟩ oj = true) (hsi : ∀ cs b, oi.op ≠ .select cs b) (hsj : ∀ cs b, oj.op ≠ .select cs b)
    (hQ : ∀ c a w, Q (.panic c) (a.put oi.dst v) w → Q (.panic c) a w) {K : Act → World → Prop} {a : Act} {w : World} (hy : YieldsIf P ⟨ops⟩ S oi v a) (h : wpOpIn (wideAt ro) n P ⟨ops⟩ Q j K (a.put oi.dst v) w) :
    wpOpIn (wideAt ro) n P ⟨ops⟩ Q j (fun a' w' => YieldsIf P ⟨ops⟩ S oi v a' ∧ K (a'.put oi.dst v) w') a w := by
  obtain ⟨h1, h2, h3⟩ := Oper.apart_spec hap
  have keep : ∀ u, YieldsIf P ⟨ops⟩ S oi v (a.put oj.dst u) := fun u => hy.of_same (execOp_put oi hsi a oj.dst u h3) (wanted_put oi a oj.dst u h3)
  unfold wpOpIn at *
  simp only [hj] at *
  rw [wanted_put oj a oi.dst v h1] at h
  split
  · rename_i hw
    simp only [hw, if_true, Oper.wpIn, Oper.semAt_eq _ _ _ (noDefer_out hd)] at h ⊢
    refine ⟨fun _ _ => trivial, ?_⟩
    have h := h.2
    rw [execOp_put oj hsj a oi.dst v h1] at h
    generalize (execOp a.eval oj).run P w = r at *
    cases r with
    | ok x w' =>
      cases x <;> simp only [Oper.uponIn] at h ⊢
      case value u => exact ⟨keep u, by rw [← Act.put_comm a v u h2]; exact h⟩
      case skip => exact ⟨keep _, by rw [← Act.put_comm a v undef h2]; exact h⟩
      case defer d =>
        refine ⟨(show YieldsIf P ⟨ops⟩ S oi v { a with defers := d :: a.defers } from hy.of_same rfl rfl).of_same (execOp_put oi hsi _ oj.dst undef h3) (wanted_put oi _ oj.dst undef h3), ?_⟩
        rw [← Act.put_comm _ v undef h2, ← Act.put_defers]
        exact h
      case enter f args =>
        refine ⟨h.1, CallsIn.mono h.2 fun e w'' he => ?_⟩
        cases e with
        | returned u => exact ⟨keep u, by rw [← Act.put_comm a v u h2]; exact he⟩
        | panicked c => exact hQ _ _ _ he
        | outgrown => exact he
      case row row args => exact ⟨h.1, RowsIn.mono h.2 fun u w'' he => ⟨keep u, by rw [← Act.put_comm a v u h2]; exact he⟩⟩
      case round l f tmps assign body =>
        refine ⟨h.1, RoundIn.mono h.2 fun e w'' he => ?_⟩
        cases e with
        | returned u => exact ⟨keep u, by rw [← Act.put_comm a v u h2]; exact he⟩
        | panicked c => exact hQ _ _ _ he
        | outgrown => exact he
    | halt x w' =>
      cases x <;> simp only [Oper.uponIn] at h ⊢
      case panic u => exact hQ _ _ _ h
  · rename_i hw
    simp only [hw] at h
    exact ⟨fun _ _ => trivial, keep _, by rw [← Act.put_comm a v undef h2]; exact h.2⟩
def wpAny5 (ro : Option Nat) (n : Nat) (P : Program) (ops : List Oper) (Q : Exit → Act → World → Prop) (S : World → Prop) : Nat → Array Bool → Act → World → Prop
  | 0, listed, a, w => Region.ready .any ⟨ops⟩ listed = [] ∧ Q .normal a w
  | fuel + 1, listed, a, w =>
    (Region.ready .any ⟨ops⟩ listed = [] → Q .normal a w) ∧
    ∀ i ∈ Region.ready .any ⟨ops⟩ listed, wpOpIn (wideAt ro) n P ⟨ops⟩ Q i (fun a' w' => Keeps ops S i w w' ∧ wpAny5 ro n P ops Q S fuel (listed.setIfInBounds i true) a' w') a w
theorem wpAny_of_5 : ∀ (fuel : Nat) (listed : Array Bool) (a : Act) (w : World), wpAny5 ro n P ops Q S fuel listed a w → wpAnyIn (wideAt ro) n P .any ⟨ops⟩ Q fuel listed a w
  | 0, _, _, _, h => h
  | fuel + 1, _, _, _, h => ⟨h.1, fun i hi => Go.wpOpIn_mono (fun a' w' h' => wpAny_of_5 fuel _ a' w' h'.2) (h.2 i hi)⟩
theorem wpAny5_first {i : Nat} {oi : Oper} {v : Value} (hq : quietAtB ops i = true) (hi : (Array.mk ops)[i]? = some oi) (hsel : ∀ (j : Nat) (o : Oper) cs b, (Array.mk ops)[j]? = some o → o.op ≠ .select cs b) (hdef : ∀ o ∈ ops, noDefer o.op = true)
    (hQ : ∀ c a w, Q (.panic c) (a.put oi.dst v) w → Q (.panic c) a w) :
    ∀ (fuel : Nat) (listed : Array Bool) (a : Act) (w : World), Closed ops listed →
      (∀ j oj, (Array.mk ops)[j]? = some oj → j ≠ i → listed.getD j true = false → (∀ e ∈ oj.after, Region.binds .any e = true → e.on ≠ i) → oi.apart ⟨ops⟩ oj = true) →
      i ∈ Region.ready .any ⟨ops⟩ listed → YieldsIf P ⟨ops⟩ (fun w => loadAtB ops i = true → S w) oi v a → (loadAtB ops i = true → S w) →
      wpAny5 ro n P ops Q S fuel (listed.setIfInBounds i true) (a.put oi.dst v) w → wpAny5 ro n P ops Q S (fuel + 1) listed a w := by
  have hmem : ∀ {j : Nat} {o : Oper}, (Array.mk ops)[j]? = some o → noDefer o.op = true := fun h => hdef _ (List.mem_of_getElem? (by simpa using h))
  intro fuel
  induction fuel with
  | zero =>
    intro listed a w hcl _ hr hy hS H
    refine ⟨fun h => (by rw [h] at hr; cases hr), fun j hj => ?_⟩
    by_cases hji : j = i
    · subst hji; exact yieldsIf_at (hmem hi) hi hy hS ⟨⟨fun _ => rfl, fun h => by rw [hq] at h; cases h⟩, H⟩
    · have := ready_mono hj hji
      rw [H.1] at this
      cases this
  | succ fuel ih =>
    intro listed a w hcl hfree hr hy hS H
    refine ⟨fun h => (by rw [h] at hr; cases hr), fun j hj => ?_⟩
    by_cases hji : j = i
    · subst hji; exact yieldsIf_at (hmem hi) hi hy hS ⟨⟨fun _ => rfl, fun h => by rw [hq] at h; cases h⟩, H⟩
    · have h1 := H.2 j (ready_mono hj hji)
      obtain ⟨hjun, oj, hoj, hall⟩ := mem_ready.1 hj
      have hnot : ∀ e ∈ oj.after, Region.binds .any e = true → e.on ≠ i := fun e he hb heq => by
        have h1 := hall e he hb
        have h0 := (mem_ready.1 hr).1
        rw [heq] at h1
        rcases Nat.lt_or_ge i listed.size with h' | h'
        · simp [h'] at h0 h1; rw [h0] at h1; cases h1
        · simp [Array.getElem?_eq_none h'] at h1
      have h2 := putIf_at hoj (hmem hoj) (hfree j oj hoj hji hjun hnot) (fun cs b => hsel i oi cs b hi) (fun cs b => hsel j oj cs b hoj) hQ hy h1
      have hfree' : ∀ k ok, (Array.mk ops)[k]? = some ok → k ≠ i → (listed.setIfInBounds j true).getD k true = false →
          (∀ e ∈ ok.after, Region.binds .any e = true → e.on ≠ i) → oi.apart ⟨ops⟩ ok = true := fun k ok hk hki hun hno => by
        refine hfree k ok hk hki ?_ hno
        by_cases hjk : j = k
        · subst hjk; exact hjun
        · rw [getD_set_ne true hjk] at hun; exact hun
      refine Go.wpOpIn_mono (fun a' w' h3 => ⟨h3.2.1, ih (listed.setIfInBounds j true) a' w' (closed_set hcl hj) hfree' (ready_mono hr (Ne.symm hji)) h3.1 (fun hl => ?_) ?_⟩) h2
      · cases hqj : quietAtB ops j with
        | true => rw [h3.2.1.1 hqj]; exact hS hl
        | false => exact h3.2.1.2 hqj (need_of hcl (mem_ready.1 hr).1 hji hl hj)
      · rw [Array.setIfInBounds_comm _ _ hji]
        exact h3.2.2
end
def held5 (P : Program) (ops : List Oper) (S : World → Prop) (K : Fr → World → Prop) : Nat → Array Bool → Fr → World → Prop
  | 0, listed, l, w => bsel (Region.ready .any ⟨ops⟩ listed).isEmpty (K l w) False
  | n + 1, listed, l, w => match Region.ready .any ⟨ops⟩ listed with
    | [] => K l w
    | i :: rs => match (i :: rs).find? (quietAtB ops) with
      | some i => match ops[i]? with
        | some o => bsel (Region.free .any ⟨ops⟩ listed i) (guardK ops l o.guard
            (fun l => opq P l o (fun a v => ∀ w1, S w1 → w1.cell? a = some v) fun v => putK l o.dst v fun l' => held5 P ops S K n (listed.setIfInBounds i true) l' w)
            (fun l => putK l o.dst undef fun l' => held5 P ops S K n (listed.setIfInBounds i true) l' w)) False
        | none => False
      | none => heldW.allOf (fun i => match ops[i]? with
        | some o => guardK ops l o.guard
            (fun l => opv5 P l o w fun v w' => putK l o.dst v fun l' => bsel (needB ops i) (S w' ∧ held5 P ops S K n (listed.setIfInBounds i true) l' w') (held5 P ops S K n (listed.setIfInBounds i true) l' w'))
            (fun l => putK l o.dst undef fun l' => bsel (needB ops i) (S w ∧ held5 P ops S K n (listed.setIfInBounds i true) l' w) (held5 P ops S K n (listed.setIfInBounds i true) l' w))
        | none => False) (i :: rs)
theorem held5_sound {ro : Option Nat} {m : Nat} {P : Program} {ops : List Oper} {ds : List Deferred} {S : World → Prop} {K : Fr → World → Prop} {Q : Exit → Act → World → Prop} {l0 : Fr}
    (hsel : Region.noSelect ⟨ops⟩ = true) (hdef : ∀ o ∈ ops, noDefer o.op = true) (hQ : ∀ c a w, ¬ Q (.panic c) a w) (hK : ∀ l' w', AgreeOff (dsts ops) l0 l' → K l' w' → Q .normal (act l' ds) w') :
    ∀ (n : Nat) (listed : Array Bool) (l : Fr) (w : World), held5 P ops S K n listed l w → Closed ops listed → AgreeOff (dsts ops) l0 l → ((∃ i, listed.getD i true = false ∧ loadAtB ops i = true) → S w) →
      wpAny5 ro m P ops Q S n listed (act l ds) w := by
  intro n
  induction n with
  | zero =>
    intro listed l w h hc ha hS
    obtain ⟨hr, h⟩ := bsel_true_out h
    exact ⟨List.isEmpty_iff.1 hr, hK l w ha h⟩
  | succ n ih =>
    intro listed l w h hc ha hS
    unfold held5 at h
    split at h
    · rename_i hr
      exact ⟨fun _ => hK l w ha h, by rw [hr]; simp⟩
    · rename_i i0 rs hr
      split at h
      · rename_i i hf
        have hq : quietAtB ops i = true := List.find?_some hf
        have hmem : i ∈ Region.ready .any ⟨ops⟩ listed := by rw [hr]; exact List.mem_of_find?_eq_some hf
        split at h
        · rename_i o ho
          obtain ⟨hfree, h⟩ := bsel_true_out h
          have hoa : (Array.mk ops)[i]? = some o := by simpa using ho
          have hun := (mem_ready.1 hmem).1
          have step : ∀ v, YieldsIf P ⟨ops⟩ (fun w => loadAtB ops i = true → S w) o v (act l ds) → held5 P ops S K n (listed.setIfInBounds i true) (put l o.dst v) w → wpAny5 ro m P ops Q S (n + 1) listed (act l ds) w := by
            intro v hy hn
            refine wpAny5_first hq hoa (Region.noSelect_spec hsel) hdef (fun c a w h => (hQ c _ w h).elim) n listed _ w hc (Region.free_spec hoa hfree) hmem hy (fun hl => hS ⟨i, hun, hl⟩) ?_
            rw [act_put]
            refine ih _ _ w hn (closed_set hc hmem) (agree_put ho ha) ?_
            rintro ⟨k, hk, hl⟩
            refine hS ⟨k, ?_, hl⟩
            by_cases hki : i = k
            · subst hki
              exact hun
            · rwa [getD_set_ne true hki] at hk
          rcases guardK_out (ds := ds) h with ⟨hw, h⟩ | ⟨hw, h⟩
          · cases hl : isLoad o.op with
            | false =>
              obtain ⟨v, hk, hrun⟩ := opq_out (ds := ds) (loadQ_only (Rd' := fun _ _ => False) hl h)
              exact step v (.inl ⟨hw, fun w _ => hrun w (fun _ _ h => h.elim)⟩) (putK_out hk)
            | true =>
              obtain ⟨v, hk, hrun⟩ := opq_out (ds := ds) h
              have hlb : loadAtB ops i = true := by unfold loadAtB; rw [ho]; exact hl
              exact step v (.inl ⟨hw, fun w hs => hrun w (fun a u h => h w (hs hlb))⟩) (putK_out hk)
          · exact step undef (.inr ⟨hw, rfl⟩) (putK_out h)
        · exact h.elim
      · rename_i hnone
        have h := allOf_out h
        refine ⟨fun h0 => (by rw [hr] at h0; cases h0), fun i hi => ?_⟩
        have hi' : i ∈ i0 :: rs := by rw [← hr]; exact hi
        have h := h i hi'
        have hq : quietAtB ops i = false := by
          have := List.find?_eq_none.1 hnone i hi'
          simpa using this
        split at h
        · rename_i o ho
          have hoa : (Array.mk ops)[i]? = some o := by simpa using ho
          have next : ∀ v w', bsel (needB ops i) (S w' ∧ held5 P ops S K n (listed.setIfInBounds i true) (put l o.dst v) w') (held5 P ops S K n (listed.setIfInBounds i true) (put l o.dst v) w') →
              Keeps ops S i w w' ∧ wpAny5 ro m P ops Q S n (listed.setIfInBounds i true) ((act l ds).put o.dst v) w' := by
            intro v w' h
            rw [act_put]
            have rest : held5 P ops S K n (listed.setIfInBounds i true) (put l o.dst v) w' := by
              rw [bsel_iff] at h
              cases hb : needB ops i with
              | true => exact (h.1 hb).2
              | false => exact h.2 hb
            have need : needB ops i = true → S w' := fun hb => by
              rw [bsel_iff] at h
              exact (h.1 hb).1
            refine ⟨⟨fun hq' => (by rw [hq] at hq'; cases hq'), fun _ => need⟩, ih _ _ w' rest (closed_set hc hi) (agree_put ho ha) ?_⟩
            rintro ⟨k, hk, hl⟩
            by_cases hki : i = k
            · subst hki
              unfold loadAtB at hl
              unfold quietAtB at hq
              rw [ho] at hl hq
              have h1 : isLoad o.op = true := hl
              have h2 : isQuiet o.op = false := hq
              rw [quiet_load h1] at h2
              cases h2
            · rw [getD_set_ne true hki] at hk
              exact need (need_of hc hk hki hl hi)
          unfold wpOpIn
          simp only [hoa]
          rcases guardK_out (ds := ds) h with ⟨hw, h⟩ | ⟨hw, h⟩
          · rw [if_pos hw]
            exact opv5_sound (hdef _ (List.mem_of_getElem? ho)) h fun v w' hk => next v w' (putK_out hk)
          · rw [if_neg (by simp [hw])]
            exact ⟨fun _ _ => trivial, next undef w (putK_out h)⟩
        · exact h.elim
def drawn5 (P : Program) (ops : List Oper) (K : Fr → World → Prop) (l : Fr) (w : World) : Prop :=
  bsel (P.follows .mixedOrders && Region.noSelect ⟨ops⟩ && ops.all fun o => noDefer o.op) (∃ S : World → Prop, S w.drew ∧ held5 P ops S K ops.length (Array.replicate ops.length false) l w.drew) False
theorem drawn5_sound {ro : Option Nat} {n : Nat} {P : Program} {id : Nat} {ops : List Oper} {ds : List Deferred} {K : Fr → World → Prop} {Q : Exit → Act → World → Prop} {l : Fr} {w : World}
    (h : drawn5 P ops K l w) (hK : ∀ l' w', AgreeOff (dsts ops) l l' → K l' w' → Q .normal (act l' ds) w') : (Code.region id ⟨ops⟩ true).wpIn (wideAt ro) n P Q (act l ds) w := by
  obtain ⟨hb, S, hs, h⟩ := bsel_true_out h
  rw [Bool.and_eq_true, Bool.and_eq_true, List.all_eq_true] at hb
  let Q' : Exit → Act → World → Prop := fun e a w => match e with
    | .normal => Q .normal a w
    | _ => False
  have h1 : (Code.region id ⟨ops⟩ true).wpIn (wideAt ro) n P Q' (act l ds) w := by
    refine wpIn_region_any hb.1.1 (wpAny_of_5 (S := S) _ _ _ _ ?_)
    refine held5_sound (Q := Q') (l0 := l) hb.1.2 hb.2 (fun c a w h => h) (fun l' w' ha hk => hK l' w' ha hk) _ _ _ _ h ?_ (AgreeOff.refl _ _) (fun _ => hs)
    intro j o _ hl
    exfalso
    simp only [Array.getD_eq_getD_getElem?, Array.getElem?_replicate] at hl
    split at hl <;> cases hl
  refine Go.wpIn_mono h1 fun e a w' hq => ?_
  cases e <;> simp only [Q'] at hq <;> first | exact hq | exact hq.elim
structure Conts5 where
  normal : List Nat → Fr → World → Prop
  exit : Nat → List Nat → Fr → World → Prop
  ret : List Nat → Fr → World → Prop
def marks (ms : List Nat) : List Deferred := ms.map fun r => { target := .collected r, args := #[] }
def written5 : Code → List Nat
  | .region _ ⟨ops⟩ _ => dsts ops
  | .seq a b => written5 a ++ written5 b
  | .cond _ a b => written5 a ++ written5 b
  | .block _ c => written5 c
  | .loop c => written5 c
  | _ => []
def busyL (r : Loop) : Obj := .loop { r with state := .busy }
def doneL (r : Loop) (j : Code) : Obj := .loop { r with state := .done, pending := some j }
def roundConts (k : Nat) (rec : Loop) (R : Ending → World → Prop) : Conts5 where
  normal := fun _ _ w => w.heap[k]? = some (busyL rec) ∧ R (.returned (.bool true)) (w.putObj k (.loop rec))
  exit := fun i _ _ w => w.heap[k]? = some (busyL rec) ∧ R (.returned (.bool false)) (w.putObj k (doneL rec (.exit i)))
  ret := fun _ _ w => w.heap[k]? = some (busyL rec) ∧ R (.returned (.bool false)) (w.putObj k (doneL rec .ret))
def overK (k : Nat) (rec : Loop) (C : Conts5) (ms : List Nat) (l : Fr) (w : World) : Prop :=
  (w.heap[k]? = some (.loop rec) ∧ C.normal ms l (w.putObj k (.loop { rec with state := .exhausted }))) ∨
  (w.heap[k]? = some (doneL rec .ret) ∧ C.ret ms l (w.putObj k (.loop { rec with state := .exhausted, pending := some .ret }))) ∨
  (∃ i, w.heap[k]? = some (doneL rec (.exit i)) ∧ C.exit i ms l (w.putObj k (.loop { rec with state := .exhausted, pending := some (.exit i) })))
def vc5 (P : Program) (pl : Plan) (out : Bool) : Code → Nat → Conts5 → List Nat → Fr → World → Prop
  | .skip, _, C, ms, l, w => C.normal ms l w
  | .region _ ⟨ops⟩ false, _, C, ms, l, w => vcOps5 P ops (C.normal ms) ops l w
  | .region _ ⟨ops⟩ true, _, C, ms, l, w => drawn5 P ops (C.normal ms) l w
  | .seq a b, p, C, ms, l, w => match lookup pl.live p with
    | none => vc5 P pl out a (2 * p) { C with normal := fun ms' l' w' => vc5 P pl out b (2 * p + 1) C ms' l' w' } ms l w
    | some sp => ∃ J : TysT (tysOf sp) (World → Prop),
        vc5 P pl out a (2 * p) { C with normal := fun ms' l' w' => ms' = ms ∧ getsK l' sp fun vs => TysT.app (tysOf sp) J vs fun q => q w' } ms l w ∧
        allTys (tysOf sp) fun vs => ∀ (us : Nat → Value) (w' : World), (TysT.app (tysOf sp) J vs fun q => q w') → havocK us (written5 a) l fun l1 => setsK sp vs l1 fun l2 => vc5 P pl out b (2 * p + 1) C ms l2 w'
  | .cond c a b, p, C, ms, l, w => opK l c fun v => match v with
    | .bool t => bsel t (vc5 P pl out a (2 * p) C ms l w) (vc5 P pl out b (2 * p + 1) C ms l w)
    | _ => False
  | .block id c, p, C, ms, l, w => vc5 P pl out c (2 * p) { C with exit := fun i ms' l' w' => bsel (Nat.beq i id) (C.normal ms' l' w') (C.exit i ms' l' w') } ms l w
  | .loop c, p, C, ms, l, w => match lookup pl.live p with
    | none => False
    | some sp => ∃ (I : TysT (tysOf sp) (World → Prop)) (m : TysT (tysOf sp) (World → Nat)),
        (getsK l sp fun vs => TysT.app (tysOf sp) I vs fun q => q w) ∧
        allTys (tysOf sp) fun vs => ∀ (us : Nat → Value) (w' : World), (TysT.app (tysOf sp) I vs fun q => q w') → havocK us (written5 c) l fun l1 => setsK sp vs l1 fun l2 =>
          vc5 P pl out c (2 * p) { C with normal := fun ms3 l3 w3 => ms3 = ms ∧ getsK l3 sp fun vs' => (TysT.app (tysOf sp) I vs' fun q => q w3) ∧ TysT.app (tysOf sp) m vs' fun m1 => TysT.app (tysOf sp) m vs fun m0 => m1 w3 < m0 w' } ms l2 w'
  | .rangeFunc g ⟨ps⟩ as' body, p, C, ms, l, w => opK l g fun gv => calleeK gv fun f first cap => match lookup pl.live p with
    | none => False
    | some sp => bsel (out && decide (sp.map (·.1) = ps) && callable P f)
      (∀ rec : Loop, rec.state = .ready → rec.pending = none →
        (allTys (tysOf sp) fun vs => ∀ (w1 : World) (R : Ending → World → Prop), w1.heap[w.heap.size + 1]? = some (.loop rec) →
          (setsK sp vs l fun l1 => vc5 P pl false as' (2 * p) { normal := fun m2 l2 w2 => m2 = [] ∧ w2.heap[w.heap.size + 1]? = some (.loop rec) ∧ letW (w2.putObj (w.heap.size + 1) (busyL rec)) fun w3 => vc5 P pl false body (2 * p + 1) (roundConts (w.heap.size + 1) rec R) [] l2 w3, exit := fun _ _ _ _ => False, ret := fun _ _ _ => False } [] l1 w1) →
          YieldsTo P (w.heap.size + 1) vs w1 R) →
        Calls P f ⟨first ++ (yieldV (w.heap.size + 1) :: cap)⟩ ((w.alloc (.deferred (some []))).alloc (.loop rec)) fun e w3 => (∃ v, e = .returned v) ∧ overK (w.heap.size + 1) rec C (w.heap.size :: ms) l w3) False
  | .exit i, _, C, ms, l, w => C.exit i ms l w
  | .ret, _, C, ms, l, w => C.ret ms l w
  | _, _, _, _, _, _ => False
theorem allLeaf_intro {x : Leaf} {K : Value → Prop} (h : ∀ v, K v) : allLeaf x K := by
  cases x <;> simp only [allLeaf] <;> intros <;> exact h _
theorem allLeaves_intro {l : List Leaf} : ∀ {K : List Value → Prop}, (∀ vs : List Value, vs.length = l.length → K vs) → allLeaves l K := by
  induction l with
  | nil => intro K h; exact h [] rfl
  | cons x r ih => intro K h; exact allLeaf_intro fun v => ih fun vs hl => h (v :: vs) (by simp [hl])
theorem allTy_intro {x : Ty} {K : Value → Prop} (h : ∀ v, K v) : allTy x K := by
  cases x with
  | leaf x => exact allLeaf_intro h
  | agg l => exact allLeaves_intro fun vs _ => h _
  | big n => exact fun cs _ => h _
theorem allTys_intro {l : List Ty} : ∀ {K : List Value → Prop}, (∀ vs : List Value, vs.length = l.length → K vs) → allTys l K := by
  induction l with
  | nil => intro K h; exact h [] rfl
  | cons x r ih => intro K h; exact allTy_intro fun v => ih fun vs hl => h (v :: vs) (by simp [hl])
theorem tysOf_length : ∀ sp : List (Nat × Ty), (tysOf sp).length = sp.length
  | [] => rfl
  | _ :: r => by simp [tysOf, tysOf_length r]
theorem sets_fold : ∀ {sp : List (Nat × Ty)} {vs : List Value} {l : Fr}, vs.length = sp.length → sets sp vs l = ((sp.map (·.1)).zip vs).foldl (fun l x => l.set x.1 x.2) l
  | [], [], _, _ => rfl
  | [], _ :: _, _, h => by simp at h
  | _ :: _, [], _, h => by simp at h
  | x :: r, v :: vs, l, h => by
    simp only [sets, List.map_cons, List.zip_cons_cons, List.foldl_cons]
    exact sets_fold (by simpa using h)
theorem fold_arr (zs : List (Nat × Value)) : ∀ l : Fr, zs.foldl (fun (tmps : Array Value) (x : Nat × Value) => tmps.setIfInBounds x.1 x.2) ⟨l⟩ = ⟨zs.foldl (fun l x => l.set x.1 x.2) l⟩ := by
  induction zs with
  | nil => intro l; rfl
  | cons x r ih => intro l; simp only [List.foldl_cons, List.setIfInBounds_toArray, ih]
theorem rangeCall_res {P : Program} {a : Act} {w : World} {g : Operand} {k : Nat} {f : FuncId} {first cap : List Value} (hg : a.eval g = .func (.func f) ⟨first⟩ ⟨cap⟩) :
    (resolve a.eval (rangeCall g k) 0).run P w = .ok { target := .fn (.func f) ⟨cap⟩, args := ⟨first ++ [yieldV k]⟩ } w := by
  simp only [resolve, hg, Deferred.ofValue, Sem.run_pure]
  congr 2
  apply Array.ext'
  simp [Act.eval]
theorem round_out {P : Program} {k : Nat} {rec : Loop} {R : Ending → World → Prop} (hst : rec.state = .ready) (hp : rec.pending = none) {c : Code} {l : Fr} {w : World} {n : Nat}
    (h : ∀ Q : Exit → Act → World → Prop, (∀ ms' l' w', AgreeOff (written5 c) l l' → (roundConts k rec R).normal ms' l' w' → Q .normal (act l' (marks ms')) w') → (∀ i ms' l' w', AgreeOff (written5 c) l l' → (roundConts k rec R).exit i ms' l' w' → Q (.exit i) (act l' (marks ms')) w') →
      (∀ ms' l' w', (roundConts k rec R).ret ms' l' w' → Q .ret (act l' (marks ms')) w') → c.wpIn (wideAt (some k)) n P Q (act l []) w) : c.wpIn (wideAt (some k)) n P (roundPost P k R) (act l []) w := by
  refine h _ (fun ms' l' w' _ hk => ?_) (fun i ms' l' w' _ hk => ?_) (fun ms' l' w' hk => ?_)
  · refine ⟨_, _, run_endRound none hk.1, ?_⟩
    have e : (Obj.loop { ({ rec with state := .busy } : Loop) with state := if (none : Option Code).isNone = true then .ready else .done, pending := none }) = .loop rec := by
      cases rec
      simp only at hst hp
      subst hst hp
      rfl
    have h2 := hk.2
    rw [← e] at h2
    exact h2
  · exact ⟨_, _, run_endRound (some (.exit i)) hk.1, hk.2⟩
  · exact ⟨_, _, run_endRound (some .ret) hk.1, hk.2⟩
theorem vc5_sound {P : Program} {pl : Plan} {n : Nat} : ∀ (c : Code) (out : Bool) (ro : Option Nat) (p : Nat) (C : Conts5) (ms : List Nat) (l : Fr) (w : World) (Q : Exit → Act → World → Prop), (out = true → ro = none) → vc5 P pl out c p C ms l w →
    (∀ ms' l' w', AgreeOff (written5 c) l l' → C.normal ms' l' w' → Q .normal (act l' (marks ms')) w') → (∀ i ms' l' w', AgreeOff (written5 c) l l' → C.exit i ms' l' w' → Q (.exit i) (act l' (marks ms')) w') →
    (∀ ms' l' w', C.ret ms' l' w' → Q .ret (act l' (marks ms')) w') → c.wpIn (wideAt ro) n P Q (act l (marks ms)) w
  | .skip, out, ro, p, C, ms, l, w, Q, ho, h, hn, _, _ => wpIn_skip (hn ms l w (AgreeOff.refl _ _) h)
  | .region id ⟨ops⟩ false, out, ro, p, C, ms, l, w, Q, ho, h, hn, _, _ => wpIn_region_list (vcOps5_sound h fun l' w' ha hk => hn ms l' w' ha hk)
  | .region id ⟨ops⟩ true, out, ro, p, C, ms, l, w, Q, ho, h, hn, _, _ => drawn5_sound h fun l' w' ha hk => hn ms l' w' ha hk
  | .seq a b, out, ro, p, C, ms, l, w, Q, ho, h, hn, he, hr => by
    simp only [vc5] at h
    have left : ∀ {l' : Fr}, AgreeOff (written5 a) l l' → AgreeOff (written5 (.seq a b)) l l' := fun ha => ha.mono fun t ht => List.mem_append_left _ ht
    have both : ∀ {l' l2 : Fr}, AgreeOff (written5 a) l l' → AgreeOff (written5 b) l' l2 → AgreeOff (written5 (.seq a b)) l l2 := fun ha hb => ha.trans hb (fun t ht => List.mem_append_left _ ht) (fun t ht => List.mem_append_right _ ht)
    refine wpIn_seq ?_
    split at h
    · refine vc5_sound a out ro (2 * p) _ ms l w _ ho h (fun ms' l' w' ha hk => ?_) (fun i ms' l' w' ha hk => he i ms' l' w' (left ha) hk) (fun ms' l' w' hk => hr ms' l' w' hk)
      exact vc5_sound b out ro (2 * p + 1) C ms' l' w' Q ho hk (fun m2 l2 w2 hb hk => hn m2 l2 w2 (both ha hb) hk) (fun i m2 l2 w2 hb hk => he i m2 l2 w2 (both ha hb) hk) hr
    · rename_i sp _
      obtain ⟨J, h1, h2⟩ := h
      refine vc5_sound a out ro (2 * p) _ ms l w _ ho h1 (fun ms' l' w' ha hk => ?_) (fun i ms' l' w' ha hk => he i ms' l' w' (left ha) hk) (fun ms' l' w' hk => hr ms' l' w' hk)
      obtain ⟨rfl, hk⟩ := hk
      obtain ⟨vs, hrd, hj⟩ := getsK_out hk
      have h3 := TysT.app_all hj h2
      have h4 := frame_back ha hrd fun us => h3 us w' hj
      exact vc5_sound b out ro (2 * p + 1) C ms' l' w' Q ho h4 (fun m2 l2 w2 hb hk => hn m2 l2 w2 (both ha hb) hk) (fun i m2 l2 w2 hb hk => he i m2 l2 w2 (both ha hb) hk) hr
  | .cond c a b, out, ro, p, C, ms, l, w, Q, ho, h, hn, he, hr => by
    simp only [vc5] at h
    have h := opK_out (ds := marks ms) h
    split at h
    · rename_i v t hv
      rw [bsel_iff] at h
      refine wpIn_cond_split hv (fun ht => ?_) (fun hf => ?_)
      · exact vc5_sound a out ro (2 * p) C ms l w Q ho (h.1 ht) (fun ms' l' w' ha hk => hn ms' l' w' (ha.mono fun t ht => List.mem_append_left _ ht) hk) (fun i ms' l' w' ha hk => he i ms' l' w' (ha.mono fun t ht => List.mem_append_left _ ht) hk) hr
      · exact vc5_sound b out ro (2 * p + 1) C ms l w Q ho (h.2 hf) (fun ms' l' w' ha hk => hn ms' l' w' (ha.mono fun t ht => List.mem_append_right _ ht) hk) (fun i ms' l' w' ha hk => he i ms' l' w' (ha.mono fun t ht => List.mem_append_right _ ht) hk) hr
    · exact h.elim
  | .block id c, out, ro, p, C, ms, l, w, Q, ho, h, hn, he, hr => by
    simp only [vc5] at h
    refine wpIn_block (vc5_sound c out ro (2 * p) _ ms l w _ ho h (fun ms' l' w' ha hk => hn ms' l' w' ha hk) (fun i ms' l' w' ha hk => ?_) (fun ms' l' w' hk => hr ms' l' w' hk))
    replace hk : bsel (Nat.beq i id) (C.normal ms' l' w') (C.exit i ms' l' w') := hk
    rw [bsel_iff] at hk
    simp only [Exit.inBlock]
    by_cases hi : i = id
    · rw [if_pos hi]
      exact hn ms' l' w' ha (hk.1 (by rw [hi]; exact Nat.beq_refl id))
    · rw [if_neg hi]
      refine he i ms' l' w' ha (hk.2 ?_)
      cases hb : Nat.beq i id with
      | false => rfl
      | true => exact (hi (Nat.eq_of_beq_eq_true hb)).elim
  | .loop c, out, ro, p, C, ms, l, w, Q, ho, h, hn, he, hr => by
    simp only [vc5] at h
    split at h
    · exact h.elim
    · rename_i sp _
      obtain ⟨I, m, h0, h1⟩ := h
      refine wpIn_loop (fun a w' => ∃ l' vs, a = act l' (marks ms) ∧ AgreeOff (written5 c) l l' ∧ Reads l' sp vs ∧ TysT.app (tysOf sp) I vs fun q => q w') (meas sp m) ?_ ?_
      · obtain ⟨vs, hrd, hi⟩ := getsK_out h0
        exact ⟨l, vs, rfl, AgreeOff.refl _ _, hrd, hi⟩
      · rintro a w' ⟨l', vs, rfl, ha, hrd, hi⟩
        have h3 := TysT.app_all hi h1
        have h4 := frame_back ha hrd fun us => h3 us w' hi
        refine vc5_sound c out ro (2 * p) _ ms l' w' _ ho h4 (fun m2 l2 w2 hb hk => ?_) (fun i m2 l2 w2 hb hk => he i m2 l2 w2 (ha.trans hb (fun _ h => h) (fun _ h => h)) hk) (fun m2 l2 w2 hk => hr m2 l2 w2 hk)
        obtain ⟨rfl, hk⟩ := hk
        obtain ⟨vs', hrd', hi', hm⟩ := getsK_out hk
        refine ⟨⟨l2, vs', rfl, ha.trans hb (fun _ h => h) (fun _ h => h), hrd', hi'⟩, ?_⟩
        obtain ⟨m1, hm1, e1⟩ := meas_eq (a := act l2 (marks m2)) (w := w2) hrd' hm
        obtain ⟨m0, hm0, e0⟩ := meas_eq (a := act l' (marks m2)) (w := w') hrd hm1
        rw [e1, e0]
        exact hm0
  | .rangeFunc g ⟨ps⟩ as' body, out, ro, p, C, ms, l, w, Q, ho, h, hn, he, hr => by
    simp only [vc5] at h
    obtain ⟨f, first, cap, hf, h⟩ := calleeK_out (opK_out (ds := marks ms) h)
    split at h
    · exact h.elim
    rename_i sp _
    obtain ⟨hb, h2⟩ := bsel_true_out h
    rw [Bool.and_eq_true, Bool.and_eq_true] at hb
    obtain rfl := ho hb.1.1
    obtain rfl := of_decide_eq_true hb.1.2
    refine wpIn_rangeFunc fun fn _ => ?_
    refine ⟨w.heap.size + 1, [{ target := .collected w.heap.size, args := #[] }], _, { target := .fn (.func f) ⟨cap⟩, args := ⟨first ++ [yieldV (w.heap.size + 1)]⟩ }, _, f, ⟨first ++ (yieldV (w.heap.size + 1) :: cap)⟩, (w.alloc (.deferred (some []))).alloc (.loop { state := .ready, pending := none, fn, tmps := (act l (marks ms)).tmps, params := ⟨sp.map (·.1)⟩, assign := as', body, defers := w.heap.size }), run_enterLoop_outer fn (act l (marks ms)).tmps ⟨sp.map (·.1)⟩ as' body, rangeCall_res hf, fun _ _ => trivial, ?_, fun e => (by cases e), ?_⟩
    · simp only [invoke]
      rw [callFunc_run hb.2]
      congr 2
      apply Array.ext'
      simp
    · refine callsIn_at ((h2 { state := .ready, pending := none, fn, tmps := (act l (marks ms)).tmps, params := ⟨sp.map (·.1)⟩, assign := as', body, defers := w.heap.size } rfl rfl ?_).mono ?_)
      · refine allTys_intro fun vs hlen w1 R h1 hv => ?_
        rw [tysOf_length] at hlen
        have hv := setsK_out hv
        rw [sets_fold hlen] at hv
        refine ⟨fn, _, as', body, run_yield h1 (by simp [hlen]), ?_⟩
        have e : ((⟨sp.map (·.1)⟩ : Array Nat).zip (⟨vs⟩ : Array Value)).foldl (fun (tmps : Array Value) (x : Nat × Value) => tmps.setIfInBounds x.1 x.2) (act l (marks ms)).tmps = ⟨((sp.map (·.1)).zip vs).foldl (fun l x => l.set x.1 x.2) l⟩ := by
          rw [← fold_arr]
          simp [act]
        refine roundIn_of_wpIn trivial ?_
        have e2 : ({ tmps := ((⟨sp.map (·.1)⟩ : Array Nat).zip (⟨vs⟩ : Array Value)).foldl (fun (tmps : Array Value) (x : Nat × Value) => tmps.setIfInBounds x.1 x.2) (act l (marks ms)).tmps, defers := [] } : Act) = act (((sp.map (·.1)).zip vs).foldl (fun l x => l.set x.1 x.2) l) (marks []) := by
          rw [e]
          rfl
        have go := vc5_sound (n := 0) as' false (some (w.heap.size + 1)) (2 * p) _ [] _ w1 (Exit.then (fun a₁ w₁ => ∃ w₂, (Instr.beginRound (w.heap.size + 1)).run P w₁ = .ok () w₂ ∧ body.wpIn (wideAt (some (w.heap.size + 1))) 0 P (roundPost P (w.heap.size + 1) R) a₁ w₂) (fun _ _ _ => False)) (fun e => by cases e) hv (fun ms' l' w' _ hk => ?_) (fun _ _ _ _ _ hk => hk.elim) (fun _ _ _ hk => hk.elim)
        · rw [← e2] at go
          exact go
        · obtain ⟨rfl, h5, h6⟩ := hk
          refine ⟨_, run_beginRound h5 rfl, ?_⟩
          refine round_out (rec := { state := .ready, pending := none, fn, tmps := (act l (marks ms)).tmps, params := ⟨sp.map (·.1)⟩, assign := as', body, defers := w.heap.size }) rfl rfl fun Q hn he hr => ?_
          exact vc5_sound body false (some (w.heap.size + 1)) (2 * p + 1) _ [] l' _ Q (fun e => by cases e) h6 hn he hr
      · rintro _ w3 ⟨⟨v, rfl⟩, hk⟩
        have eact : ({ act l (marks ms) with defers := [{ target := .collected w.heap.size, args := #[] }] ++ (act l (marks ms)).defers } : Act) = act l (marks (w.heap.size :: ms)) := rfl
        rw [eact]
        rcases hk with ⟨h1, h2⟩ | ⟨h1, h2⟩ | ⟨i, h1, h2⟩
        · exact ⟨_, _, run_endLoop h1 (by simp), hn _ l _ (AgreeOff.refl _ _) h2⟩
        · exact ⟨_, _, run_endLoop h1 (by simp), wpIn_ret (hr _ l _ h2)⟩
        · exact ⟨_, _, run_endLoop h1 (by simp), wpIn_exit (he i _ l _ (AgreeOff.refl _ _) h2)⟩
  | .exit i, out, ro, p, C, ms, l, w, Q, ho, h, _, he, _ => wpIn_exit (he i ms l w (AgreeOff.refl _ _) h)
  | .ret, out, ro, p, C, ms, l, w, Q, ho, h, _, _, hr => wpIn_ret (hr ms l w h)
  | .label _, _, _, _, _, _, _, _, _, _, h, _, _, _ => h.elim
  | .goto _, _, _, _, _, _, _, _, _, _, h, _, _, _ => h.elim
  | .scope _, _, _, _, _, _, _, _, _, _, h, _, _, _ => h.elim
  | .refuse _, _, _, _, _, _, _, _, _, _, h, _, _, _ => h.elim
def marksK : List Nat → World → (World → Prop) → Prop
  | [], w, K => K w
  | r :: ms, w, K => w.heap[r]? = some (.deferred (some [])) ∧ marksK ms (w.putObj r (.deferred none)) K
def fnConts5 (P : Program) (rs : List ResultVar) (R : Ending → World → Prop) : Conts5 where
  normal := fun ms l w => marksK ms w fun w' => resK P w' rs l fun vs => R (.returned (retV vs)) w'
  exit := fun _ _ _ _ => False
  ret := fun ms l w => marksK ms w fun w' => resK P w' rs l fun vs => R (.returned (retV vs)) w'
theorem leaves_marks {P : Program} {n : Nat} {fn : Func} {l : Fr} {ds : List Deferred} {R : Ending → World → Prop} : ∀ {ms : List Nat} {w : World}, marksK ms w (fun w' => resK P w' fn.results.toList l fun vs => R (.returned (retV vs)) w') →
    LeavesInM Fence.wide n P fn (act l ds).tmps R (marks ms) .returning w
  | [], w, h => by
    obtain ⟨vs, h1, h2⟩ := results_run (ds := ds) (show resK P w fn.results.toList l _ from h)
    exact ⟨_, h1, h2⟩
  | r :: ms, w, h => ⟨by simp, .inl ⟨r, _, rfl, run_takeDeferred h.1, leaves_marks h.2⟩⟩
theorem calls_vc5 {P : Program} {f : FuncId} {fn : Func} {c : Code} {args : List Value} {w : World} {R : Ending → World → Prop} (pl : Plan) (hf : P.funcs[f]? = some fn) (hb : fn.body = some c)
    (h : vc5 P pl true c 1 (fnConts5 P fn.results.toList R) [] (frame0 fn.ntmps args) w) : Calls P f ⟨args⟩ w R := by
  refine (callsIn_wide (n := 0)).1 (callsIn_of_wp_marks hf hb trivial ?_)
  have e : (Array.mk args) ++ Array.replicate (fn.ntmps - (Array.mk args).size) undef = ⟨frame0 fn.ntmps args⟩ := by
    apply Array.ext'
    simp [frame0_eq]
  rw [e]
  exact vc5_sound c true none 1 _ [] _ w _ (fun _ => rfl) h (fun ms' l' w' _ hk => leaves_marks (ds := marks ms') hk) (fun i ms' l' w' _ hk => hk.elim) (fun ms' l' w' hk => leaves_marks (ds := marks ms') hk)
end Go.Proofs.YtkdlmkbpfdogcaaGreatDoor.Vc
