/- Texts of one proof, one behind the other. Conditions: as each theorem names them. -/
import Derived.Test.YtcoeiiihmpnagaaGreatDoorQ1
import Derived.OrdersHeld
namespace Go.Proofs.YtcoeiiihmpnagaaGreatDoor.Vc
open Go.RowKit
def letW (w : World) (C : World → Prop) : Prop := C w
def appK (w : World) (e : TypeId) (sz bytes : Nat) (p : Option Addr) (n c : Nat) (q : Option Addr) (m : Nat) (K : Option Addr → Nat → World → Prop) : Prop :=
  ∃ xs news : List Value, Owns w 0 e sz (.slice p n c) n xs ∧ news.length = m * sz ∧ (∀ u ∈ news, u.oneCell' = true) ∧
    (0 < m → ∃ a, q = some a ∧ ∀ j u, news[j]? = some u → w.cell? (a.add j) = some u) ∧ n + m ≤ 9223372036854775807 ∧ (n + m) * bytes ≤ 140737488355328 ∧
    ∀ (p' : Option Addr) (c' : Nat) (w' : World), Owns w' 0 e sz (.slice p' (n + m) c') (n + m) (xs ++ news) → w.grownBy w' (Value.slice p n c).ownBlock →
      Blk p p' (n + m) c c' w.heap.size → K p' c' w'
def AgreeOff (ws : List Nat) (l l' : Fr) : Prop := l'.length = l.length ∧ ∀ t, t ∉ ws → l'[t]? = l[t]?
theorem AgreeOff.refl (ws : List Nat) (l : Fr) : AgreeOff ws l l := ⟨rfl, fun _ _ => rfl⟩
theorem AgreeOff.trans {ws vs us : List Nat} {a b c : Fr} (h : AgreeOff ws a b) (k : AgreeOff vs b c) (hw : ∀ t ∈ ws, t ∈ us) (hv : ∀ t ∈ vs, t ∈ us) : AgreeOff us a c :=
  ⟨k.1.trans h.1, fun t ht => (k.2 t fun e => ht (hv t e)).trans (h.2 t fun e => ht (hw t e))⟩
theorem AgreeOff.mono {ws us : List Nat} {a b : Fr} (h : AgreeOff ws a b) (hw : ∀ t ∈ ws, t ∈ us) : AgreeOff us a b := ⟨h.1, fun t ht => h.2 t fun e => ht (hw t e)⟩
theorem AgreeOff.put (l : Fr) (d : Option Nat) (v : Value) : AgreeOff d.toList l (put l d v) := by
  cases d with
  | none => exact AgreeOff.refl _ _
  | some d =>
    refine ⟨by simp [Vc.put], fun t ht => ?_⟩
    have : d ≠ t := fun e => ht (by simp [e])
    simp [Vc.put, List.getElem?_set_ne this]
def dsts (ops : List Oper) : List Nat := ops.flatMap fun o => o.dst.toList
def guardK (ops : List Oper) (l : Fr) (g : Option (Nat × Bool)) (A B : Fr → Prop) : Prop := match g with
  | none => A l
  | some (j, want) => match ops[j]? with
    | some o => match o.dst with
      | some d => getK l d fun v => match v with
        | .bool b => bsel b (setK l d (.bool true) fun l' => bsel want (A l') (B l')) (setK l d (.bool false) fun l' => bsel want (B l') (A l'))
        | .tuple _ => B l
        | _ => False
      | none => False
    | none => False
theorem set_same {l : Fr} {d : Nat} {v : Value} (h : l[d]? = some v) : l.set d v = l := by
  apply List.ext_getElem?
  intro i
  by_cases hi : d = i
  · subst hi
    have hd := (List.getElem?_eq_some_iff.1 h).1
    rw [List.getElem?_set_self hd, h]
  · rw [List.getElem?_set_ne hi]
theorem guardK_out {ops : List Oper} {l : Fr} {ds : List Deferred} {o : Oper} {A B : Fr → Prop} (h : guardK ops l o.guard A B) :
    (Region.wanted o (yielded ⟨ops⟩ (act l ds).tmps) = true ∧ A l) ∨ (Region.wanted o (yielded ⟨ops⟩ (act l ds).tmps) = false ∧ B l) := by
  unfold guardK at h
  split at h
  · rename_i hg
    exact .inl ⟨by simp [Region.wanted, hg], h⟩
  · rename_i j want hg
    split at h
    · rename_i oj hj
      split at h
      · rename_i d hd
        obtain ⟨v, hv, h⟩ := getK_out h
        split at h
        · rename_i b
          have hy : yielded ⟨ops⟩ (act l ds).tmps j = some b := by
            simp [yielded, hj, hd, act, hv]
          rw [bsel_iff] at h
          cases b with
          | true =>
            have h2 := setK_out (h.1 rfl)
            rw [set_same hv] at h2
            rw [bsel_iff] at h2
            cases want with
            | true => exact .inl ⟨by simp [Region.wanted, hg, hy], h2.1 rfl⟩
            | false => exact .inr ⟨by simp [Region.wanted, hg, hy], h2.2 rfl⟩
          | false =>
            have h2 := setK_out (h.2 rfl)
            rw [set_same hv] at h2
            rw [bsel_iff] at h2
            cases want with
            | true => exact .inr ⟨by simp [Region.wanted, hg, hy], h2.1 rfl⟩
            | false => exact .inl ⟨by simp [Region.wanted, hg, hy], h2.2 rfl⟩
        · have hy : yielded ⟨ops⟩ (act l ds).tmps j = none := by
            simp [yielded, hj, hd, act, hv]
          exact .inr ⟨by simp [Region.wanted, hg, hy], h⟩
        · exact h.elim
      · exact h.elim
    · exact h.elim
def vcOps (P : Program) (ops : List Oper) (K : Fr → World → Prop) (E : List PanicEntry → World → Prop) : List Oper → Fr → World → Prop
  | [], l, w => K l w
  | o :: r, l, w => guardK ops l o.guard (fun l => opv P l o w (fun v w' => putK l o.dst v fun l' => vcOps P ops K E r l' w') E) (fun l => putK l o.dst undef fun l' => vcOps P ops K E r l' w)
theorem vcOps_sound {P : Program} {ops : List Oper} {ds : List Deferred} {K : Fr → World → Prop} {E : List PanicEntry → World → Prop} {Q : Exit → Act → World → Prop}
    : ∀ {rest : List Oper} {l : Fr} {w : World}, (∀ l' c w', AgreeOff (dsts rest) l l' → E c w' → Q (.panic c) (act l' ds) w') → vcOps P ops K E rest l w →
      (∀ l' w', AgreeOff (dsts rest) l l' → K l' w' → Q .normal (act l' ds) w') → wpList P ⟨ops⟩ Q rest (act l ds) w := by
  intro rest
  induction rest with
  | nil => intro l w hE h hK; exact hK l w (AgreeOff.refl _ _) h
  | cons o r ih =>
    intro l w hE h hK
    have next : ∀ v w', vcOps P ops K E r (put l o.dst v) w' → wpList P ⟨ops⟩ Q r ((act l ds).put o.dst v) w' := by
      intro v w' h
      rw [act_put]
      have step : ∀ {l' : Fr}, AgreeOff (dsts r) (put l o.dst v) l' → AgreeOff (dsts (o :: r)) l l' := by
        intro l' ha
        exact (AgreeOff.put l o.dst v).trans ha (fun t ht => by simp only [dsts, List.flatMap_cons, List.mem_append]; exact .inl ht) (fun t ht => by simp only [dsts, List.flatMap_cons, List.mem_append]; exact .inr ht)
      refine ih (fun l' c w' ha he => hE l' c w' (step ha) he) h fun l' w' ha hk => hK l' w' ?_ hk
      exact (AgreeOff.put l o.dst v).trans ha (fun t ht => by simp only [dsts, List.flatMap_cons, List.mem_append]; exact .inl ht) (fun t ht => by simp only [dsts, List.flatMap_cons, List.mem_append]; exact .inr ht)
    unfold wpList
    rcases guardK_out (ds := ds) h with ⟨hw, h⟩ | ⟨hw, h⟩
    · rw [if_pos hw]
      exact .inl (opv_sound h (fun v w' hk => next v w' (putK_out hk)) (fun c w' he => hE l c w' (AgreeOff.refl _ _) he))
    · rw [if_neg (by simp [hw])]
      exact next undef w (putK_out h)
def qOp (P : Program) (Rd : Addr → Value → Prop) (Cl : FuncId → List Value → Value → Prop) (l : Fr) (o : Oper) (K : Value → Prop) : Prop := match o.op with
  | .call ⟨.value f, ⟨xs⟩, _⟩ => opK l f fun f => calleeK f fun g first cap => opsK l xs fun vs => bsel (callable P g) (exRet P o.type fun v => Cl g (first ++ (vs ++ cap)) v ∧ K v) False
  | _ => opq P l o Rd K
theorem qOp_out {P : Program} {Rd : Addr → Value → Prop} {Cl : FuncId → List Value → Value → Prop} {l : Fr} {ds : List Deferred} {o : Oper} {K : Value → Prop} (h : qOp P Rd Cl l o K) :
    ∃ v, K v ∧ ((∀ w, RdOk Rd w → (execOp (act l ds).eval o).run P w = .ok (.value v) w) ∨ ∃ g args, Cl g args v ∧ ∀ w, (execOp (act l ds).eval o).run P w = .ok (.enter g ⟨args⟩) w) := by
  unfold qOp at h
  split at h
  · rename_i f xs ts ho
    obtain ⟨g, first, cap, hf, h⟩ := calleeK_out (opK_out (ds := ds) h)
    obtain ⟨hc, h⟩ := bsel_true_out (opsK_out (ds := ds) h)
    obtain ⟨v, h1, h2⟩ := exRet_out h
    exact ⟨v, h2, .inr ⟨_, _, h1, fun w => call_run ho hf hc w⟩⟩
  · obtain ⟨v, hk, hr⟩ := opq_out (ds := ds) h
    exact ⟨v, hk, .inl hr⟩
def qOps (P : Program) (ops : List Oper) (Rd : Addr → Value → Prop) (Cl : FuncId → List Value → Value → Prop) (K : Fr → Prop) : List Oper → Fr → Prop
  | [], l => K l
  | o :: r, l => guardK ops l o.guard (fun l => qOp P Rd Cl l o fun v => putK l o.dst v fun l' => qOps P ops Rd Cl K r l') (fun l => putK l o.dst undef fun l' => qOps P ops Rd Cl K r l')
theorem dsts_step {l l' : Fr} {o : Oper} {r : List Oper} {v : Value} (ha : AgreeOff (dsts r) (put l o.dst v) l') : AgreeOff (dsts (o :: r)) l l' :=
  (AgreeOff.put l o.dst v).trans ha (fun t ht => by simp only [dsts, List.flatMap_cons, List.mem_append]; exact .inl ht) (fun t ht => by simp only [dsts, List.flatMap_cons, List.mem_append]; exact .inr ht)
theorem qOps_quiet {P : Program} {ops : List Oper} {ds : List Deferred} {Rd : Addr → Value → Prop} {Cl : FuncId → List Value → Value → Prop} {C : World → Prop} {K : Fr → Prop} {Q : Act → Prop}
    (hR : ∀ w, C w → RdOk Rd w) (hC : ∀ g args v, Cl g args v → ∀ w, C w → Calls P g ⟨args⟩ w fun e w' => e = .returned v ∧ C w') :
    ∀ {rest : List Oper} {l : Fr}, qOps P ops Rd Cl K rest l → (∀ l', AgreeOff (dsts rest) l l' → K l' → Q (act l' ds)) → wpQuiet P ⟨ops⟩ C Q rest (act l ds) := by
  intro rest
  induction rest with
  | nil => intro l h hK; exact hK l (AgreeOff.refl _ _) h
  | cons o r ih =>
    intro l h hK
    have next : ∀ v, qOps P ops Rd Cl K r (put l o.dst v) → wpQuiet P ⟨ops⟩ C Q r ((act l ds).put o.dst v) := by
      intro v h
      rw [act_put]
      exact ih h fun l' ha hk => hK l' (dsts_step ha) hk
    unfold wpQuiet
    rcases guardK_out (ds := ds) h with ⟨hw, h⟩ | ⟨hw, h⟩
    · rw [if_pos hw]
      obtain ⟨v, hk, hr⟩ := qOp_out (ds := ds) h
      refine ⟨v, fun w hw => ?_, next v (putK_out hk)⟩
      unfold Oper.quietAt
      rcases hr with hr | ⟨g, args, hcl, hr⟩
      · rw [hr w (hR w hw)]; exact ⟨rfl, rfl⟩
      · rw [hr w]; exact ⟨rfl, hC g args v hcl w hw⟩
    · rw [if_neg (by simp [hw])]
      exact next undef (putK_out h)
theorem qOps_still {P : Program} {ops : List Oper} {ds : List Deferred} {Rd : Addr → Value → Prop} {Cl : FuncId → List Value → Value → Prop} {w : World} {K : Fr → Prop} {Q : Act → Prop}
    (hR : RdOk Rd w) (hC : ∀ g args v, Cl g args v → Calls P g ⟨args⟩ w fun e w' => e = .returned v ∧ w' = w) :
    ∀ {rest : List Oper} {l : Fr}, qOps P ops Rd Cl K rest l → (∀ l', AgreeOff (dsts rest) l l' → K l' → Q (act l' ds)) → wpStill P ⟨ops⟩ w Q rest (act l ds) := by
  intro rest
  induction rest with
  | nil => intro l h hK; exact hK l (AgreeOff.refl _ _) h
  | cons o r ih =>
    intro l h hK
    have next : ∀ v, qOps P ops Rd Cl K r (put l o.dst v) → wpStill P ⟨ops⟩ w Q r ((act l ds).put o.dst v) := by
      intro v h
      rw [act_put]
      exact ih h fun l' ha hk => hK l' (dsts_step ha) hk
    unfold wpStill
    rcases guardK_out (ds := ds) h with ⟨hw, h⟩ | ⟨hw, h⟩
    · rw [if_pos hw]
      obtain ⟨v, hk, hr⟩ := qOp_out (ds := ds) h
      unfold Oper.still
      rcases hr with hr | ⟨g, args, hcl, hr⟩
      · rw [hr w hR]; exact ⟨rfl, next v (putK_out hk)⟩
      · rw [hr w]; exact ⟨rfl, v, hC g args v hcl, next v (putK_out hk)⟩
    · rw [if_neg (by simp [hw])]
      exact next undef (putK_out h)
def isLoad : Op → Bool
  | .load .. | .convert .. => true
  | _ => false
def isQuiet : Op → Bool
  | .move _ | .assign _ | .pick .. | .load .. | .nilCheck _ | .binOp .. | .unOp .. | .convert .. | .slice .. | .fieldAddr .. | .field .. | .indexAddr .. | .index .. | .extract .. | .makeInterface .. | .makeFunc .. | .build .. => true
  | .call ⟨.builtin .len, _, _⟩ | .call ⟨.builtin .cap, _, _⟩ | .call ⟨.builtin .max, _, _⟩ | .call ⟨.builtin .min, _, _⟩ => true
  | _ => false
def loadAtB (ops : List Oper) (i : Nat) : Bool := match ops[i]? with
  | some o => isLoad o.op
  | none => false
def ancB (ops : List Oper) : Nat → Nat → Nat → Bool
  | 0, _, _ => false
  | n + 1, j, i => match ops[j]? with
    | some o => o.after.toList.any fun e => Region.binds .any e && (Nat.beq e.on i || ancB ops n e.on i)
    | none => false
def needB (ops : List Oper) (j : Nat) : Bool := (List.range ops.length).any fun i => loadAtB ops i && !Nat.beq i j && !ancB ops ops.length j i
def Closed (ops : List Oper) (listed : Array Bool) : Prop := ∀ j o, ops[j]? = some o → listed.getD j false = true → ∀ e ∈ o.after, Region.binds .any e = true → listed.getD e.on false = true
theorem anc_closed {ops : List Oper} {listed : Array Bool} {i : Nat} (hc : Closed ops listed) (hi : listed.getD i false = false) : ∀ (n j : Nat), (listed.getD j false = true ∨ j ∈ Region.ready .any ⟨ops⟩ listed) → ancB ops n j i = false := by
  intro n
  induction n with
  | zero => intro j _; rfl
  | succ n ih =>
    intro j hj
    unfold ancB
    cases ho : ops[j]? with
    | none => rfl
    | some o =>
      have hall : ∀ e ∈ o.after, Region.binds .any e = true → listed.getD e.on false = true := by
        rcases hj with hj | hj
        · exact hc j o ho hj
        · obtain ⟨_, o', ho', hall⟩ := mem_ready.1 hj
          have : o' = o := by
            have h2 : ops[j]? = some o' := by simpa using ho'
            rw [ho] at h2
            exact (Option.some.inj h2).symm
          subst this
          exact hall
      simp only
      rw [List.any_eq_false]
      intro e he hb
      rw [Bool.and_eq_true] at hb
      have hl := hall e (by simpa using he) hb.1
      rw [Bool.or_eq_true] at hb
      rcases hb.2 with hb | hb
      · have := Nat.eq_of_beq_eq_true hb
        rw [this, hi] at hl
        cases hl
      · rw [ih e.on (.inl hl)] at hb
        cases hb
theorem closed_set {ops : List Oper} {listed : Array Bool} {j : Nat} (hc : Closed ops listed) (hj : j ∈ Region.ready .any ⟨ops⟩ listed) : Closed ops (listed.setIfInBounds j true) := by
  intro k o hk hl e he hb
  by_cases hkj : k = j
  · subst hkj
    obtain ⟨_, o', ho', hall⟩ := mem_ready.1 hj
    have : o' = o := by
      have h2 : ops[k]? = some o' := by simpa using ho'
      rw [hk] at h2
      exact (Option.some.inj h2).symm
    subst this
    exact getD_set_true (hall e he hb)
  · rw [getD_set_ne false (Ne.symm hkj)] at hl
    exact getD_set_true (hc k o hk hl e he hb)
theorem unlisted {listed : Array Bool} {i : Nat} (h : listed.getD i true = false) : listed.getD i false = false := by
  rcases Nat.lt_or_ge i listed.size with h' | h'
  · simp [h'] at h ⊢; exact h
  · simp [Array.getElem?_eq_none h'] at h
theorem need_of {ops : List Oper} {listed : Array Bool} {i j : Nat} (hc : Closed ops listed) (hi : listed.getD i true = false) (hne : j ≠ i) (hl : loadAtB ops i = true) (hj : j ∈ Region.ready .any ⟨ops⟩ listed) : needB ops j = true := by
  unfold needB
  rw [List.any_eq_true]
  have hlt : i < ops.length := by
    unfold loadAtB at hl
    split at hl
    · rename_i o ho; exact (List.getElem?_eq_some_iff.1 ho).1
    · cases hl
  refine ⟨i, List.mem_range.2 hlt, ?_⟩
  rw [Bool.and_eq_true, Bool.and_eq_true]
  refine ⟨⟨hl, ?_⟩, ?_⟩
  · cases hb : Nat.beq i j with
    | false => rfl
    | true => exact (hne (Nat.eq_of_beq_eq_true hb).symm).elim
  · rw [anc_closed hc (unlisted hi) _ j (.inr hj)]; rfl
def quietAtB (ops : List Oper) (i : Nat) : Bool := match ops[i]? with
  | some o => isQuiet o.op
  | none => false
def Keeps (ops : List Oper) (S : World → Prop) (i : Nat) (w w' : World) : Prop := (quietAtB ops i = true → w' = w) ∧ (quietAtB ops i = false → needB ops i = true → S w')
def wpAnyG (P : Program) (ops : List Oper) (Q : Exit → Act → World → Prop) (S : World → Prop) : Nat → Array Bool → Act → World → Prop
  | 0, listed, a, w => Region.ready .any ⟨ops⟩ listed = [] ∧ Q .normal a w
  | fuel + 1, listed, a, w =>
    (Region.ready .any ⟨ops⟩ listed = [] → Q .normal a w) ∧
    ∀ i ∈ Region.ready .any ⟨ops⟩ listed, wpOp P ⟨ops⟩ Q i (fun a' w' => Keeps ops S i w w' ∧ wpAnyG P ops Q S fuel (listed.setIfInBounds i true) a' w') a w
section
variable {P : Program} {ops : List Oper} {Q : Exit → Act → World → Prop} {S : World → Prop}
theorem wpAny_of_G : ∀ (fuel : Nat) (listed : Array Bool) (a : Act) (w : World), wpAnyG P ops Q S fuel listed a w → wpAny P .any ⟨ops⟩ Q fuel listed a w
  | 0, _, _, _, h => h
  | fuel + 1, _, _, _, h => ⟨h.1, fun i hi => wpOp_mono (fun a' w' h' => wpAny_of_G fuel _ a' w' h'.2) (h.2 i hi)⟩
theorem wpAnyG_first {i : Nat} {oi : Oper} {v : Value} (hq : quietAtB ops i = true) (hi : (Array.mk ops)[i]? = some oi) (hsel : ∀ (j : Nat) (o : Oper) cs b, (Array.mk ops)[j]? = some o → o.op ≠ .select cs b)
    (hQ : ∀ c a w, Q (.panic c) (a.put oi.dst v) w → Q (.panic c) a w) :
    ∀ (fuel : Nat) (listed : Array Bool) (a : Act) (w : World), Closed ops listed →
      (∀ j oj, (Array.mk ops)[j]? = some oj → j ≠ i → listed.getD j true = false → (∀ e ∈ oj.after, Region.binds .any e = true → e.on ≠ i) → oi.apart ⟨ops⟩ oj = true) →
      i ∈ Region.ready .any ⟨ops⟩ listed → YieldsIf P ⟨ops⟩ (fun w => loadAtB ops i = true → S w) oi v a → (loadAtB ops i = true → S w) →
      wpAnyG P ops Q S fuel (listed.setIfInBounds i true) (a.put oi.dst v) w → wpAnyG P ops Q S (fuel + 1) listed a w := by
  intro fuel
  induction fuel with
  | zero =>
    intro listed a w hcl _ hr hy hS H
    refine ⟨fun h => (by rw [h] at hr; cases hr), fun j hj => ?_⟩
    by_cases hji : j = i
    · subst hji; exact hy.wpOp hi hS ⟨⟨fun _ => rfl, fun h => by rw [hq] at h; cases h⟩, H⟩
    · have := ready_mono hj hji
      rw [H.1] at this
      cases this
  | succ fuel ih =>
    intro listed a w hcl hfree hr hy hS H
    refine ⟨fun h => (by rw [h] at hr; cases hr), fun j hj => ?_⟩
    by_cases hji : j = i
    · subst hji; exact hy.wpOp hi hS ⟨⟨fun _ => rfl, fun h => by rw [hq] at h; cases h⟩, H⟩
    · have h1 := H.2 j (ready_mono hj hji)
      obtain ⟨hjun, oj, hoj, hall⟩ := mem_ready.1 hj
      have hnot : ∀ e ∈ oj.after, Region.binds .any e = true → e.on ≠ i := fun e he hb heq => by
        have h1 := hall e he hb
        have h0 := (mem_ready.1 hr).1
        rw [heq] at h1
        rcases Nat.lt_or_ge i listed.size with h' | h'
        · simp [h'] at h0 h1; rw [h0] at h1; cases h1
        · simp [Array.getElem?_eq_none h'] at h1
      have h2 := wpOp_putIf hoj (hfree j oj hoj hji hjun hnot) (fun cs b => hsel i oi cs b hi) (fun cs b => hsel j oj cs b hoj) hQ hy h1
      have hfree' : ∀ k ok, (Array.mk ops)[k]? = some ok → k ≠ i → (listed.setIfInBounds j true).getD k true = false →
          (∀ e ∈ ok.after, Region.binds .any e = true → e.on ≠ i) → oi.apart ⟨ops⟩ ok = true := fun k ok hk hki hun hno => by
        refine hfree k ok hk hki ?_ hno
        by_cases hjk : j = k
        · subst hjk; exact hjun
        · rw [getD_set_ne true hjk] at hun; exact hun
      refine wpOp_mono (fun a' w' h3 => ⟨h3.2.1, ih (listed.setIfInBounds j true) a' w' (closed_set hcl hj) hfree' (ready_mono hr (Ne.symm hji)) h3.1 (fun hl => ?_) ?_⟩) h2
      · cases hqj : quietAtB ops j with
        | true => rw [h3.2.1.1 hqj]; exact hS hl
        | false => exact h3.2.1.2 hqj (need_of hcl (mem_ready.1 hr).1 hji hl hj)
      · rw [Array.setIfInBounds_comm _ _ hji]
        exact h3.2.2
end
def heldW (P : Program) (ops : List Oper) (S : World → Prop) (K : Fr → World → Prop) (E : List PanicEntry → World → Prop) : Nat → Array Bool → Fr → World → Prop
  | 0, listed, l, w => bsel (Region.ready .any ⟨ops⟩ listed).isEmpty (K l w) False
  | n + 1, listed, l, w => match Region.ready .any ⟨ops⟩ listed with
    | [] => K l w
    | i :: rs => match (i :: rs).find? (quietAtB ops) with
      | some i => match ops[i]? with
        | some o => bsel (Region.free .any ⟨ops⟩ listed i) (guardK ops l o.guard
            (fun l => opq P l o (fun a v => ∀ w1, S w1 → w1.cell? a = some v) fun v => putK l o.dst v fun l' => heldW P ops S K E n (listed.setIfInBounds i true) l' w)
            (fun l => putK l o.dst undef fun l' => heldW P ops S K E n (listed.setIfInBounds i true) l' w)) False
        | none => False
      | none => allOf (fun i => match ops[i]? with
        | some o => guardK ops l o.guard
            (fun l => opv P l o w (fun v w' => putK l o.dst v fun l' => bsel (needB ops i) (S w' ∧ heldW P ops S K E n (listed.setIfInBounds i true) l' w') (heldW P ops S K E n (listed.setIfInBounds i true) l' w')) E)
            (fun l => putK l o.dst undef fun l' => bsel (needB ops i) (S w ∧ heldW P ops S K E n (listed.setIfInBounds i true) l' w) (heldW P ops S K E n (listed.setIfInBounds i true) l' w))
        | none => False) (i :: rs)
where
  allOf (f : Nat → Prop) : List Nat → Prop
    | [] => True
    | [i] => f i
    | i :: r => f i ∧ allOf f r
theorem allOf_out {f : Nat → Prop} {l : List Nat} (h : heldW.allOf f l) : ∀ i ∈ l, f i := by
  induction l with
  | nil => intro i hi; cases hi
  | cons x r ih =>
    intro i hi
    cases r with
    | nil =>
      obtain rfl : i = x := by simpa using hi
      exact h
    | cons y r =>
      rcases List.mem_cons.1 hi with rfl | hi
      · exact h.1
      · exact ih h.2 i hi
theorem loadQ_only {P : Program} {o : Oper} {l : Fr} {Rd Rd' : Addr → Value → Prop} {K : Value → Prop} (hl : isLoad o.op = false) (h : opq P l o Rd K) : opq P l o Rd' K := by
  unfold opq at h ⊢
  split at h <;> first | exact h | skip
  · rename_i t x ho
    rw [ho] at hl
    cases hl
  · rename_i s d x ho
    rw [ho] at hl
    cases hl
theorem agree_put {ops : List Oper} {l l' : Fr} {i : Nat} {o : Oper} {v : Value} (hi : ops[i]? = some o) (h : AgreeOff (dsts ops) l l') : AgreeOff (dsts ops) l (put l' o.dst v) := by
  refine h.trans (AgreeOff.put l' o.dst v) (fun t ht => ht) (fun t ht => ?_)
  simp only [dsts, List.mem_flatMap]
  exact ⟨o, List.mem_of_getElem? hi, ht⟩
theorem quiet_load {op : Op} (h : isLoad op = true) : isQuiet op = true := by
  cases op <;> simp [isLoad] at h <;> rfl
theorem heldW_sound {P : Program} {ops : List Oper} {ds : List Deferred} {S : World → Prop} {K : Fr → World → Prop} {E : List PanicEntry → World → Prop} {Q : Exit → Act → World → Prop} {l0 : Fr}
    (hsel : Region.noSelect ⟨ops⟩ = true) (hQ : ∀ o ∈ ops, ∀ c a v w, Q (.panic c) (a.put o.dst v) w → Q (.panic c) a w) (hE : ∀ l' c w', AgreeOff (dsts ops) l0 l' → E c w' → Q (.panic c) (act l' ds) w')
    (hK : ∀ l' w', AgreeOff (dsts ops) l0 l' → K l' w' → Q .normal (act l' ds) w') :
    ∀ (n : Nat) (listed : Array Bool) (l : Fr) (w : World), heldW P ops S K E n listed l w → Closed ops listed → AgreeOff (dsts ops) l0 l → ((∃ i, listed.getD i true = false ∧ loadAtB ops i = true) → S w) →
      wpAnyG P ops Q S n listed (act l ds) w := by
  intro n
  induction n with
  | zero =>
    intro listed l w h hc ha hS
    obtain ⟨hr, h⟩ := bsel_true_out h
    exact ⟨List.isEmpty_iff.1 hr, hK l w ha h⟩
  | succ n ih =>
    intro listed l w h hc ha hS
    unfold heldW at h
    split at h
    · rename_i hr
      exact ⟨fun _ => hK l w ha h, by rw [hr]; simp⟩
    · rename_i i0 rs hr
      split at h
      · rename_i i hf
        have hq : quietAtB ops i = true := List.find?_some hf
        have hmem : i ∈ Region.ready .any ⟨ops⟩ listed := by rw [hr]; exact List.mem_of_find?_eq_some hf
        split at h
        · rename_i o ho
          obtain ⟨hfree, h⟩ := bsel_true_out h
          have hoa : (Array.mk ops)[i]? = some o := by simpa using ho
          have hun := (mem_ready.1 hmem).1
          have step : ∀ v, YieldsIf P ⟨ops⟩ (fun w => loadAtB ops i = true → S w) o v (act l ds) → heldW P ops S K E n (listed.setIfInBounds i true) (put l o.dst v) w → wpAnyG P ops Q S (n + 1) listed (act l ds) w := by
            intro v hy hn
            refine wpAnyG_first hq hoa (Region.noSelect_spec hsel) (fun c a w h => hQ o (List.mem_of_getElem? ho) c a _ w h) n listed _ w hc (Region.free_spec hoa hfree) hmem hy (fun hl => hS ⟨i, hun, hl⟩) ?_
            rw [act_put]
            refine ih _ _ w hn (closed_set hc hmem) (agree_put ho ha) ?_
            rintro ⟨k, hk, hl⟩
            refine hS ⟨k, ?_, hl⟩
            by_cases hki : i = k
            · subst hki
              exact hun
            · rwa [getD_set_ne true hki] at hk
          rcases guardK_out (ds := ds) h with ⟨hw, h⟩ | ⟨hw, h⟩
          · cases hl : isLoad o.op with
            | false =>
              obtain ⟨v, hk, hrun⟩ := opq_out (ds := ds) (loadQ_only (Rd' := fun _ _ => False) hl h)
              exact step v (.inl ⟨hw, fun w _ => hrun w (fun _ _ h => h.elim)⟩) (putK_out hk)
            | true =>
              obtain ⟨v, hk, hrun⟩ := opq_out (ds := ds) h
              have hlb : loadAtB ops i = true := by unfold loadAtB; rw [ho]; exact hl
              exact step v (.inl ⟨hw, fun w hs => hrun w (fun a u h => h w (hs hlb))⟩) (putK_out hk)
          · exact step undef (.inr ⟨hw, rfl⟩) (putK_out h)
        · exact h.elim
      · rename_i hnone
        have h := allOf_out h
        refine ⟨fun h0 => (by rw [hr] at h0; cases h0), fun i hi => ?_⟩
        have hi' : i ∈ i0 :: rs := by rw [← hr]; exact hi
        have h := h i hi'
        have hq : quietAtB ops i = false := by
          have := List.find?_eq_none.1 hnone i hi'
          simpa using this
        split at h
        · rename_i o ho
          have hoa : (Array.mk ops)[i]? = some o := by simpa using ho
          have next : ∀ v w', bsel (needB ops i) (S w' ∧ heldW P ops S K E n (listed.setIfInBounds i true) (put l o.dst v) w') (heldW P ops S K E n (listed.setIfInBounds i true) (put l o.dst v) w') →
              Keeps ops S i w w' ∧ wpAnyG P ops Q S n (listed.setIfInBounds i true) ((act l ds).put o.dst v) w' := by
            intro v w' h
            rw [act_put]
            have rest : heldW P ops S K E n (listed.setIfInBounds i true) (put l o.dst v) w' := by
              rw [bsel_iff] at h
              cases hb : needB ops i with
              | true => exact (h.1 hb).2
              | false => exact h.2 hb
            have need : needB ops i = true → S w' := fun hb => by
              rw [bsel_iff] at h
              exact (h.1 hb).1
            refine ⟨⟨fun hq' => (by rw [hq] at hq'; cases hq'), fun _ => need⟩, ih _ _ w' rest (closed_set hc hi) (agree_put ho ha) ?_⟩
            rintro ⟨k, hk, hl⟩
            by_cases hki : i = k
            · subst hki
              unfold loadAtB at hl
              unfold quietAtB at hq
              rw [ho] at hl hq
              have h1 : isLoad o.op = true := hl
              have h2 : isQuiet o.op = false := hq
              rw [quiet_load h1] at h2
              cases h2
            · rw [getD_set_ne true hki] at hk
              exact need (need_of hc hk hki hl hi)
          unfold wpOp
          simp only [hoa]
          rcases guardK_out (ds := ds) h with ⟨hw, h⟩ | ⟨hw, h⟩
          · rw [if_pos hw]
            exact .inl (opv_sound h (fun v w' hk => next v w' (putK_out hk)) (fun c w' he => hE l c w' ha he))
          · rw [if_neg (by simp [hw])]
            exact next undef w (putK_out h)
        · exact h.elim
inductive DMode where
  | still
  | tail (n : Nat)
  | cls
  | held
def Cls (P : Program) (C : World → Prop) (g : FuncId) (args : List Value) (v : Value) : Prop := ∀ w, C w → Calls P g ⟨args⟩ w fun e w' => e = .returned v ∧ C w'
def drawn (P : Program) (m : DMode) (ops : List Oper) (K : Fr → World → Prop) (E : List PanicEntry → World → Prop) (l : Fr) (w : World) : Prop := match m with
  | .still => bsel (P.follows .mixedOrders && Region.lexB .any ⟨ops⟩) (qOps P ops (fun a v => w.cell? a = some v) (fun g args v => Calls P g ⟨args⟩ w.drew fun e w' => e = .returned v ∧ w' = w.drew) (fun l' => K l' w.drew) ops l) False
  | .tail n => bsel (P.follows .mixedOrders && Region.lexTailB .any ⟨ops⟩ n) (qOps P ops (fun a v => w.cell? a = some v) (fun g args v => Calls P g ⟨args⟩ w.drew fun e w' => e = .returned v ∧ w' = w.drew)
      (fun l' => vcOps P ops K E (ops.drop n) l' w.drew) (ops.take n) l) False
  | .cls => bsel (P.follows .mixedOrders && Region.lexB .any ⟨ops⟩) (∃ C : World → Prop, C w.drew ∧ qOps P ops (fun a v => ∀ w1, C w1 → w1.cell? a = some v) (Cls P C) (fun l' => ∀ w1, C w1 → K l' w1) ops l) False
  | .held => bsel (P.follows .mixedOrders && Region.noSelect ⟨ops⟩) (∃ S : World → Prop, S w.drew ∧ heldW P ops S K E ops.length (Array.replicate ops.length false) l w.drew) False
theorem dsts_append (a b : List Oper) : dsts (a ++ b) = dsts a ++ dsts b := by simp [dsts]
theorem drawn_sound {P : Program} {m : DMode} {id : Nat} {ops : List Oper} {ds : List Deferred} {K : Fr → World → Prop} {E : List PanicEntry → World → Prop} {Q : Exit → Act → World → Prop} {l : Fr} {w : World}
    (h : drawn P m ops K E l w) (hK : ∀ l' w', AgreeOff (dsts ops) l l' → K l' w' → Q .normal (act l' ds) w') (hE : ∀ l' c w', AgreeOff (dsts ops) l l' → E c w' → Q (.panic c) (act l' ds) w') :
    (Code.region id ⟨ops⟩ true).wp P Q (act l ds) w := by
  cases m with
  | still =>
    obtain ⟨hb, h⟩ := bsel_true_out h
    rw [Bool.and_eq_true] at hb
    refine wp_region_quiet (C := fun w' => w' = w.drew) hb.1 hb.2 rfl ?_
    exact qOps_quiet (fun w1 e => by subst e; exact fun a u h => h) (fun g args v hc w1 e => by subst e; exact hc) h fun l' ha hk w1 e => by subst e; exact hK l' _ ha hk
  | tail n =>
    obtain ⟨hb, h⟩ := bsel_true_out h
    rw [Bool.and_eq_true] at hb
    refine wp_region_still_tail n hb.1 hb.2 ?_
    refine qOps_still (w := w.drew) (fun a u h => h) (fun g args v hc => hc) h fun l' ha hk => ?_
    have e : dsts ops = dsts (ops.take n) ++ dsts (ops.drop n) := by rw [← dsts_append, List.take_append_drop]
    have step : ∀ {l2 : Fr}, AgreeOff (dsts (ops.drop n)) l' l2 → AgreeOff (dsts ops) l l2 := by
      intro l2 ha2
      rw [e]
      exact ha.trans ha2 (fun t ht => List.mem_append_left _ ht) (fun t ht => List.mem_append_right _ ht)
    exact vcOps_sound (fun l2 c w2 ha2 he => hE l2 c w2 (step ha2) he) hk fun l2 w2 ha2 hk2 => hK l2 w2 (step ha2) hk2
  | cls =>
    obtain ⟨hb, C, hc, h⟩ := bsel_true_out h
    rw [Bool.and_eq_true] at hb
    refine wp_region_quiet (C := C) hb.1 hb.2 hc ?_
    exact qOps_quiet (fun w1 e => fun a u h => h w1 e) (fun g args v hc => hc) h fun l' ha hk w1 e => hK l' w1 ha (hk w1 e)
  | held =>
    obtain ⟨hb, S, hs, h⟩ := bsel_true_out h
    rw [Bool.and_eq_true] at hb
    let Q' : Exit → Act → World → Prop := fun e a w => match e with
      | .normal => Q .normal a w
      | .panic c => a.defers = ds ∧ AgreeOff (dsts ops) l a.tmps.toList ∧ E c w
      | _ => False
    have h1 : (Code.region id ⟨ops⟩ true).wp P Q' (act l ds) w := by
      refine wp_region_any hb.1 (wpAny_of_G (S := S) _ _ _ _ ?_)
      refine heldW_sound (Q := Q') (l0 := l) hb.2 (fun o ho c a v w h => ?_) (fun l' c w' ha he => ⟨rfl, ha, he⟩) (fun l' w' ha hk => hK l' w' ha hk) _ _ _ _ h ?_ (AgreeOff.refl _ _) (fun _ => hs)
      · refine ⟨?_, ?_, h.2.2⟩
        · have := h.1
          cases hd : o.dst with
          | none => rw [hd] at this; exact this
          | some d => rw [hd] at this; exact this
        · have h2 := h.2.1
          cases hd : o.dst with
          | none => rw [hd] at h2; exact h2
          | some d =>
            rw [hd] at h2
            have hmem : d ∈ dsts ops := by
              simp only [dsts, List.mem_flatMap]
              exact ⟨o, ho, by rw [hd]; simp⟩
            refine ⟨?_, fun t ht => ?_⟩
            · have := h2.1
              simpa [Act.put] using this
            · have := h2.2 t ht
              have hne : d ≠ t := fun e => ht (e ▸ hmem)
              simpa [Act.put, List.getElem?_set_ne hne] using this
      · intro j o _ hl
        exfalso
        simp only [Array.getD_eq_getD_getElem?, Array.getElem?_replicate] at hl
        split at hl <;> cases hl
    refine Go.wp_mono h1 fun e a w' hq => ?_
    cases e <;> simp only [Q'] at hq <;> first | exact hq | exact hq.elim | skip
    obtain ⟨hd, ha, he⟩ := hq
    have := hE a.tmps.toList _ w' ha he
    have e : act a.tmps.toList ds = a := by cases a; cases hd; rfl
    rwa [e] at this
structure Conts where
  normal : Fr → World → Prop
  exit : Nat → Fr → World → Prop
  ret : Fr → World → Prop
  panic : List PanicEntry → World → Prop
def written : Code → List Nat
  | .region _ ⟨ops⟩ _ => dsts ops
  | .seq a b => written a ++ written b
  | .cond _ a b => written a ++ written b
  | .block _ c => written c
  | .loop c => written c
  | _ => []
def getsK (l : Fr) : List (Nat × Ty) → (List Value → Prop) → Prop
  | [], K => K []
  | (t, _) :: r, K => getK l t fun v => getsK l r fun vs => K (v :: vs)
def setsK : List (Nat × Ty) → List Value → Fr → (Fr → Prop) → Prop
  | (t, _) :: r, v :: vs, l, K => setK l t v fun l' => setsK r vs l' K
  | _, _, l, K => K l
def havocK (us : Nat → Value) : List Nat → Fr → (Fr → Prop) → Prop
  | [], l, K => K l
  | t :: r, l, K => setK l t (us t) fun l' => havocK us r l' K
structure Plan where
  live : List (Nat × List (Nat × Ty)) := []
  draws : List (Nat × DMode) := []
def lookup {α : Type} : List (Nat × α) → Nat → Option α
  | [], _ => none
  | (k, v) :: r, n => bif Nat.beq k n then some v else lookup r n
def tysOf : List (Nat × Ty) → List Ty
  | [] => []
  | (_, x) :: r => x :: tysOf r
def vc (P : Program) (pl : Plan) : Code → Nat → Conts → Fr → World → Prop
  | .skip, _, C, l, w => C.normal l w
  | .region _ ⟨ops⟩ false, _, C, l, w => vcOps P ops C.normal C.panic ops l w
  | .region id ⟨ops⟩ true, _, C, l, w => match lookup pl.draws id with
    | some m => drawn P m ops C.normal C.panic l w
    | none => drawn P .still ops C.normal C.panic l w
  | .seq a b, p, C, l, w => match lookup pl.live p with
    | none => vc P pl a (2 * p) { C with normal := fun l' w' => vc P pl b (2 * p + 1) C l' w' } l w
    | some sp => ∃ J : TysT (tysOf sp) (World → Prop),
        vc P pl a (2 * p) { C with normal := fun l' w' => getsK l' sp fun vs => TysT.app (tysOf sp) J vs fun q => q w' } l w ∧
        allTys (tysOf sp) fun vs => ∀ (us : Nat → Value) (w' : World), (TysT.app (tysOf sp) J vs fun q => q w') → havocK us (written a) l fun l1 => setsK sp vs l1 fun l2 => vc P pl b (2 * p + 1) C l2 w'
  | .cond c a b, p, C, l, w => opK l c fun v => match v with
    | .bool t => bsel t (vc P pl a (2 * p) C l w) (vc P pl b (2 * p + 1) C l w)
    | _ => False
  | .block id c, p, C, l, w => vc P pl c (2 * p) { C with exit := fun i l' w' => bsel (Nat.beq i id) (C.normal l' w') (C.exit i l' w') } l w
  | .loop c, p, C, l, w => match lookup pl.live p with
    | none => False
    | some sp => ∃ (I : TysT (tysOf sp) (World → Prop)) (m : TysT (tysOf sp) (World → Nat)),
        (getsK l sp fun vs => TysT.app (tysOf sp) I vs fun q => q w) ∧
        allTys (tysOf sp) fun vs => ∀ (us : Nat → Value) (w' : World), (TysT.app (tysOf sp) I vs fun q => q w') → havocK us (written c) l fun l1 => setsK sp vs l1 fun l2 =>
          vc P pl c (2 * p) { C with normal := fun l3 w3 => getsK l3 sp fun vs' => (TysT.app (tysOf sp) I vs' fun q => q w3) ∧ TysT.app (tysOf sp) m vs' fun m1 => TysT.app (tysOf sp) m vs fun m0 => m1 w3 < m0 w' } l2 w'
  | .exit i, _, C, l, w => C.exit i l w
  | .ret, _, C, l, w => C.ret l w
  | _, _, _, _, _ => False
def havoc (us : Nat → Value) : List Nat → Fr → Fr
  | [], l => l
  | t :: r, l => havoc us r (l.set t (us t))
theorem havocK_out {us : Nat → Value} {ws : List Nat} : ∀ {l : Fr} {K : Fr → Prop}, havocK us ws l K → K (havoc us ws l) := by
  induction ws with
  | nil => intro l K h; exact h
  | cons t r ih => intro l K h; exact ih (setK_out h)
def sets : List (Nat × Ty) → List Value → Fr → Fr
  | (t, _) :: r, v :: vs, l => sets r vs (l.set t v)
  | _, _, l => l
theorem setsK_out {sp : List (Nat × Ty)} : ∀ {vs : List Value} {l : Fr} {K : Fr → Prop}, setsK sp vs l K → K (sets sp vs l) := by
  induction sp with
  | nil => intro vs l K h; exact h
  | cons x r ih => intro vs l K h; cases vs with
    | nil => exact h
    | cons v vs => exact ih (setK_out h)
def Reads (l : Fr) : List (Nat × Ty) → List Value → Prop
  | [], [] => True
  | (t, _) :: r, v :: vs => l[t]? = some v ∧ Reads l r vs
  | _, _ => False
theorem getsK_out {l : Fr} {sp : List (Nat × Ty)} : ∀ {K : List Value → Prop}, getsK l sp K → ∃ vs, Reads l sp vs ∧ K vs := by
  induction sp with
  | nil => intro K h; exact ⟨[], trivial, h⟩
  | cons x r ih =>
    intro K h
    obtain ⟨v, hv, h⟩ := getK_out h
    obtain ⟨vs, h1, h2⟩ := ih h
    exact ⟨v :: vs, ⟨hv, h1⟩, h2⟩
theorem sets_same {l : Fr} {sp : List (Nat × Ty)} : ∀ {vs : List Value}, Reads l sp vs → sets sp vs l = l := by
  induction sp with
  | nil => intro vs h; cases vs <;> rfl
  | cons x r ih =>
    intro vs h
    cases vs with
    | nil => exact h.elim
    | cons v vs =>
      simp only [sets]
      rw [set_same h.1]
      exact ih h.2
theorem havoc_get (us : Nat → Value) (ws : List Nat) (t : Nat) : ∀ l : Fr, (havoc us ws l)[t]? = if t ∈ ws ∧ t < l.length then some (us t) else l[t]? := by
  induction ws with
  | nil => intro l; simp [havoc]
  | cons x r ih =>
    intro l
    simp only [havoc, ih, List.length_set, List.mem_cons]
    by_cases ht : t < l.length
    · by_cases hx : x = t
      · subst hx
        by_cases hr : x ∈ r <;> simp [hr, ht]
      · by_cases hr : t ∈ r
        · simp [hr, ht]
        · simp [hr, Ne.symm hx, List.getElem?_set_ne hx]
    · simp [ht]
theorem havoc_eq {ws : List Nat} {l l' : Fr} (h : AgreeOff ws l l') : havoc (fun t => l'.getD t undef) ws l = l' := by
  apply List.ext_getElem?
  intro t
  rw [havoc_get]
  by_cases ht : t < l.length
  · by_cases hw : t ∈ ws
    · have ht' : t < l'.length := by rw [h.1]; exact ht
      simp [hw, ht, List.getD, List.getElem?_eq_getElem ht']
    · simp [hw, h.2 t hw]
  · have ht' : ¬ t < l'.length := by rw [h.1]; exact ht
    simp [ht, List.getElem?_eq_none (Nat.le_of_not_lt ht')]
theorem LeafT.app_det {X : Type} {x : Leaf} {f : LeafT x X} {v : Value} {K K' : X → Prop} (h : LeafT.app x f v K) (h' : LeafT.app x f v K') : LeafT.app x f v fun y => K y ∧ K' y := by
  cases x <;> cases v <;> simp only [LeafT.app] at h h' ⊢ <;> first | exact h.elim | exact ⟨h, h'⟩ | skip
  rename_i k k' n
  cases hd : decide (k = k') <;> simp [hd] at h h' ⊢
  exact ⟨h, h'⟩
theorem LeavesT.app_det {X : Type} {l : List Leaf} {f : LeavesT l X} {vs : List Value} {K K' : X → Prop} (h : LeavesT.app l f vs K) (h' : LeavesT.app l f vs K') : LeavesT.app l f vs fun y => K y ∧ K' y := by
  induction l generalizing vs with
  | nil => cases vs with
    | nil => exact ⟨h, h'⟩
    | cons v vs => exact h.elim
  | cons x r ih => cases vs with
    | nil => exact h.elim
    | cons v vs => exact LeafT.app_mono (LeafT.app_det h h') fun g hg => ih hg.1 hg.2
theorem TyT.app_det {X : Type} {x : Ty} {f : TyT x X} {v : Value} {K K' : X → Prop} (h : TyT.app x f v K) (h' : TyT.app x f v K') : TyT.app x f v fun y => K y ∧ K' y := by
  cases x with
  | leaf x => exact LeafT.app_det h h'
  | agg l => cases v <;> first | exact h.elim | exact LeavesT.app_det h h'
  | big n => cases v <;> first | exact h.elim | exact ⟨h.1, h.2, h'.2⟩
theorem TysT.app_det {X : Type} {l : List Ty} {f : TysT l X} {vs : List Value} {K K' : X → Prop} (h : TysT.app l f vs K) (h' : TysT.app l f vs K') : ∃ y, K y ∧ K' y := by
  induction l generalizing vs with
  | nil => cases vs with
    | nil => exact ⟨_, h, h'⟩
    | cons v vs => exact h.elim
  | cons x r ih => cases vs with
    | nil => exact h.elim
    | cons v vs =>
      obtain ⟨g, hg1, hg2⟩ := TyT.app_some (TyT.app_det h h')
      exact ih hg1 hg2
theorem reads_det {l : Fr} {sp : List (Nat × Ty)} : ∀ {vs vs' : List Value}, Reads l sp vs → Reads l sp vs' → vs = vs' := by
  induction sp with
  | nil => intro vs vs' h h'; cases vs <;> cases vs' <;> first | rfl | exact h.elim | exact h'.elim
  | cons x r ih =>
    intro vs vs' h h'
    cases vs with
    | nil => exact h.elim
    | cons v vs => cases vs' with
      | nil => exact h'.elim
      | cons v' vs' =>
        have := h.1.symm.trans h'.1
        obtain rfl := Option.some.inj this
        rw [ih h.2 h'.2]
theorem LeafT.app_val {X : Type} {x : Leaf} {f : LeafT x X} {v : Value} {K : X → Prop} (h : LeafT.app x f v K) : ∃ y, K y ∧ ∀ K' : X → Prop, K' y → LeafT.app x f v K' := by
  cases x <;> cases v <;> simp only [LeafT.app] at h ⊢ <;> first | exact h.elim | exact ⟨_, h, fun _ h' => h'⟩ | skip
  rename_i k k' n
  cases hd : decide (k = k') <;> simp only [hd, bsel_true, bsel_false] at h ⊢
  exact ⟨_, h, fun _ h' => h'⟩
theorem LeavesT.app_val {X : Type} {l : List Leaf} {f : LeavesT l X} {vs : List Value} {K : X → Prop} (h : LeavesT.app l f vs K) : ∃ y, K y ∧ ∀ K' : X → Prop, K' y → LeavesT.app l f vs K' := by
  induction l generalizing vs with
  | nil => cases vs with
    | nil => exact ⟨_, h, fun _ h' => h'⟩
    | cons v vs => exact h.elim
  | cons x r ih => cases vs with
    | nil => exact h.elim
    | cons v vs =>
      obtain ⟨g, hg, hall⟩ := LeafT.app_val h
      obtain ⟨y, hy, hall2⟩ := ih hg
      exact ⟨y, hy, fun K' hk => hall _ (hall2 K' hk)⟩
theorem TyT.app_val {X : Type} {x : Ty} {f : TyT x X} {v : Value} {K : X → Prop} (h : TyT.app x f v K) : ∃ y, K y ∧ ∀ K' : X → Prop, K' y → TyT.app x f v K' := by
  cases x with
  | leaf x => exact LeafT.app_val h
  | agg l => cases v <;> first | exact h.elim | exact LeavesT.app_val h
  | big n => cases v <;> first | exact h.elim | exact ⟨_, h.2, fun _ h' => ⟨h.1, h'⟩⟩
theorem TysT.app_val {X : Type} {l : List Ty} {f : TysT l X} {vs : List Value} {K : X → Prop} (h : TysT.app l f vs K) : ∃ y, K y ∧ ∀ K' : X → Prop, K' y → TysT.app l f vs K' := by
  induction l generalizing vs with
  | nil => cases vs with
    | nil => exact ⟨_, h, fun _ h' => h'⟩
    | cons v vs => exact h.elim
  | cons x r ih => cases vs with
    | nil => exact h.elim
    | cons v vs =>
      obtain ⟨g, hg, hall⟩ := TyT.app_val h
      obtain ⟨y, hy, hall2⟩ := ih hg
      exact ⟨y, hy, fun K' hk => hall _ (hall2 K' hk)⟩
def MeasIs (sp : List (Nat × Ty)) (m : TysT (tysOf sp) (World → Nat)) (a : Act) (w : World) (n : Nat) : Prop :=
  ∃ vs, Reads a.tmps.toList sp vs ∧ TysT.app (tysOf sp) m vs fun z => z w = n
open Classical in
noncomputable def meas (sp : List (Nat × Ty)) (m : TysT (tysOf sp) (World → Nat)) (a : Act) (w : World) : Nat :=
  if h : ∃ n, MeasIs sp m a w n then Classical.choose h else 0
theorem meas_eq {sp : List (Nat × Ty)} {m : TysT (tysOf sp) (World → Nat)} {a : Act} {w : World} {vs : List Value} {K : (World → Nat) → Prop} (hr : Reads a.tmps.toList sp vs) (h : TysT.app (tysOf sp) m vs K) :
    ∃ y, K y ∧ meas sp m a w = y w := by
  obtain ⟨y, hy, hall⟩ := TysT.app_val h
  refine ⟨y, hy, ?_⟩
  have hex : ∃ n, MeasIs sp m a w n := ⟨y w, vs, hr, hall _ rfl⟩
  unfold meas
  rw [dif_pos hex]
  obtain ⟨vs', hr', h'⟩ := Classical.choose_spec hex
  rw [reads_det hr' hr] at h'
  obtain ⟨z, h1, h2⟩ := TysT.app_det h' (hall (fun z => z = y) rfl)
  rw [← h1, h2]
theorem frame_back {ws : List Nat} {l l' : Fr} {sp : List (Nat × Ty)} {vs : List Value} {K : Fr → Prop} (ha : AgreeOff ws l l') (hr : Reads l' sp vs)
    (h : ∀ us : Nat → Value, havocK us ws l fun l1 => setsK sp vs l1 K) : K l' := by
  have h1 := setsK_out (havocK_out (h fun t => l'.getD t undef))
  rw [havoc_eq ha, sets_same hr] at h1
  exact h1
theorem vc_sound {P : Program} {pl : Plan} {ds : List Deferred} : ∀ (c : Code) (p : Nat) (C : Conts) (l : Fr) (w : World) (Q : Exit → Act → World → Prop), vc P pl c p C l w →
    (∀ l' w', AgreeOff (written c) l l' → C.normal l' w' → Q .normal (act l' ds) w') → (∀ i l' w', AgreeOff (written c) l l' → C.exit i l' w' → Q (.exit i) (act l' ds) w') →
    (∀ l' w', C.ret l' w' → Q .ret (act l' ds) w') → (∀ l' ch w', AgreeOff (written c) l l' → C.panic ch w' → Q (.panic ch) (act l' ds) w') → c.wp P Q (act l ds) w
  | .skip, p, C, l, w, Q, h, hn, _, _, _ => wp_skip (hn l w (AgreeOff.refl _ _) h)
  | .region id ⟨ops⟩ false, p, C, l, w, Q, h, hn, _, _, hp => wp_region_list (vcOps_sound hp h fun l' w' ha hk => hn l' w' ha hk)
  | .region id ⟨ops⟩ true, p, C, l, w, Q, h, hn, _, _, hp => by
    simp only [vc] at h
    split at h
    · exact drawn_sound h (fun l' w' ha hk => hn l' w' ha hk) hp
    · exact drawn_sound h (fun l' w' ha hk => hn l' w' ha hk) hp
  | .seq a b, p, C, l, w, Q, h, hn, he, hr, hp => by
    simp only [vc] at h
    have left : ∀ {l' : Fr}, AgreeOff (written a) l l' → AgreeOff (written (.seq a b)) l l' := fun ha => ha.mono fun t ht => List.mem_append_left _ ht
    have both : ∀ {l' l2 : Fr}, AgreeOff (written a) l l' → AgreeOff (written b) l' l2 → AgreeOff (written (.seq a b)) l l2 := fun ha hb => ha.trans hb (fun t ht => List.mem_append_left _ ht) (fun t ht => List.mem_append_right _ ht)
    refine wp_seq ?_
    split at h
    · refine vc_sound a (2 * p) _ l w _ h (fun l' w' ha hk => ?_) (fun i l' w' ha hk => he i l' w' (left ha) hk) (fun l' w' hk => hr l' w' hk) (fun l' ch w' ha hk => hp l' ch w' (left ha) hk)
      exact vc_sound b (2 * p + 1) C l' w' Q hk (fun l2 w2 hb hk => hn l2 w2 (both ha hb) hk) (fun i l2 w2 hb hk => he i l2 w2 (both ha hb) hk) hr (fun l2 ch w2 hb hk => hp l2 ch w2 (both ha hb) hk)
    · rename_i sp _
      obtain ⟨J, h1, h2⟩ := h
      refine vc_sound a (2 * p) _ l w _ h1 (fun l' w' ha hk => ?_) (fun i l' w' ha hk => he i l' w' (left ha) hk) (fun l' w' hk => hr l' w' hk) (fun l' ch w' ha hk => hp l' ch w' (left ha) hk)
      obtain ⟨vs, hrd, hj⟩ := getsK_out hk
      have h3 := TysT.app_all hj h2
      have h4 := frame_back ha hrd fun us => h3 us w' hj
      exact vc_sound b (2 * p + 1) C l' w' Q h4 (fun l2 w2 hb hk => hn l2 w2 (both ha hb) hk) (fun i l2 w2 hb hk => he i l2 w2 (both ha hb) hk) hr (fun l2 ch w2 hb hk => hp l2 ch w2 (both ha hb) hk)
  | .cond c a b, p, C, l, w, Q, h, hn, he, hr, hp => by
    simp only [vc] at h
    have h := opK_out (ds := ds) h
    split at h
    · rename_i v t hv
      rw [bsel_iff] at h
      refine wp_cond_split hv (fun ht => ?_) (fun hf => ?_)
      · exact vc_sound a (2 * p) C l w Q (h.1 ht) (fun l' w' ha hk => hn l' w' (ha.mono fun t ht => List.mem_append_left _ ht) hk) (fun i l' w' ha hk => he i l' w' (ha.mono fun t ht => List.mem_append_left _ ht) hk) hr (fun l' ch w' ha hk => hp l' ch w' (ha.mono fun t ht => List.mem_append_left _ ht) hk)
      · exact vc_sound b (2 * p + 1) C l w Q (h.2 hf) (fun l' w' ha hk => hn l' w' (ha.mono fun t ht => List.mem_append_right _ ht) hk) (fun i l' w' ha hk => he i l' w' (ha.mono fun t ht => List.mem_append_right _ ht) hk) hr (fun l' ch w' ha hk => hp l' ch w' (ha.mono fun t ht => List.mem_append_right _ ht) hk)
    · exact h.elim
  | .block id c, p, C, l, w, Q, h, hn, he, hr, hp => by
    simp only [vc] at h
    refine wp_block (vc_sound c (2 * p) _ l w _ h (fun l' w' ha hk => hn l' w' ha hk) (fun i l' w' ha hk => ?_) (fun l' w' hk => hr l' w' hk) (fun l' ch w' ha hk => hp l' ch w' ha hk))
    replace hk : bsel (Nat.beq i id) (C.normal l' w') (C.exit i l' w') := hk
    rw [bsel_iff] at hk
    simp only [Exit.inBlock]
    by_cases hi : i = id
    · rw [if_pos hi]
      exact hn l' w' ha (hk.1 (by rw [hi]; exact Nat.beq_refl id))
    · rw [if_neg hi]
      refine he i l' w' ha (hk.2 ?_)
      cases hb : Nat.beq i id with
      | false => rfl
      | true => exact (hi (Nat.eq_of_beq_eq_true hb)).elim
  | .loop c, p, C, l, w, Q, h, hn, he, hr, hp => by
    simp only [vc] at h
    split at h
    · exact h.elim
    · rename_i sp _
      obtain ⟨I, m, h0, h1⟩ := h
      refine wp_loop (fun a w' => ∃ l' vs, a = act l' ds ∧ AgreeOff (written c) l l' ∧ Reads l' sp vs ∧ TysT.app (tysOf sp) I vs fun q => q w') (meas sp m) ?_ ?_
      · obtain ⟨vs, hrd, hi⟩ := getsK_out h0
        exact ⟨l, vs, rfl, AgreeOff.refl _ _, hrd, hi⟩
      · rintro a w' ⟨l', vs, rfl, ha, hrd, hi⟩
        have h3 := TysT.app_all hi h1
        have h4 := frame_back ha hrd fun us => h3 us w' hi
        refine vc_sound c (2 * p) _ l' w' _ h4 (fun l2 w2 hb hk => ?_) (fun i l2 w2 hb hk => he i l2 w2 (ha.trans hb (fun _ h => h) (fun _ h => h)) hk) (fun l2 w2 hk => hr l2 w2 hk) (fun l2 ch w2 hb hk => hp l2 ch w2 (ha.trans hb (fun _ h => h) (fun _ h => h)) hk)
        obtain ⟨vs', hrd', hi', hm⟩ := getsK_out hk
        refine ⟨⟨l2, vs', rfl, ha.trans hb (fun _ h => h) (fun _ h => h), hrd', hi'⟩, ?_⟩
        obtain ⟨m1, hm1, e1⟩ := meas_eq (a := act l2 ds) (w := w2) hrd' hm
        obtain ⟨m0, hm0, e0⟩ := meas_eq (a := act l' ds) (w := w') hrd hm1
        rw [e1, e0]
        exact hm0
  | .exit i, p, C, l, w, Q, h, _, he, _, _ => wp_exit (he i l w (AgreeOff.refl _ _) h)
  | .ret, p, C, l, w, Q, h, _, _, hr, _ => wp_ret (hr l w h)
  | .label _, _, _, _, _, _, h, _, _, _, _ => h.elim
  | .goto _, _, _, _, _, _, h, _, _, _, _ => h.elim
  | .scope _, _, _, _, _, _, h, _, _, _, _ => h.elim
  | .rangeFunc .., _, _, _, _, _, h, _, _, _, _ => h.elim
  | .refuse _, _, _, _, _, _, h, _, _, _, _ => h.elim
def resK (P : Program) (w : World) : List ResultVar → Fr → (List Value → Prop) → Prop
  | [], _, K => K []
  | .tmp t :: r, l, K => getK l t fun v => resK P w r l fun vs => K (v :: vs)
  | .cell a t :: r, l, K => getK l a fun v => ptrK v fun a => loadQ P t a (fun a v => w.cell? a = some v) fun v => resK P w r l fun vs => K (v :: vs)
def retV : List Value → Value
  | [v] => v
  | vs => .tuple ⟨vs⟩
def fnConts (P : Program) (rs : List ResultVar) (R : Ending → World → Prop) : Conts where
  normal := fun l w => resK P w rs l fun vs => R (.returned (retV vs)) w
  exit := fun _ _ _ => False
  ret := fun l w => resK P w rs l fun vs => R (.returned (retV vs)) w
  panic := fun c w => R (.panicked c) w
def resF (tmps : Array Value) : ResultVar → Sem Value
  | .tmp t => pure (tmps.getD t undef)
  | .cell a t => do loadVar t (← asAddr (tmps.getD a undef))
theorem resK_out {P : Program} {w : World} {l : Fr} {ds : List Deferred} {rs : List ResultVar} : ∀ {K : List Value → Prop}, resK P w rs l K →
    ∃ vs, (rs.mapM (resF (act l ds).tmps)).run P w = .ok vs w ∧ K vs := by
  induction rs with
  | nil => intro K h; exact ⟨[], rfl, h⟩
  | cons r rs ih =>
    intro K h
    cases r with
    | tmp t =>
      obtain ⟨v, hv, h⟩ := getK_out h
      obtain ⟨vs, h1, h2⟩ := ih h
      refine ⟨v :: vs, ?_, h2⟩
      have hg : (act l ds).tmps.getD t undef = v := by simp [act, hv]
      simp only [List.mapM_cons, Sem.run_bind, resF, hg, Sem.run_pure, Result.andThen_ok, h1]
    | cell a t =>
      obtain ⟨v, hv, h⟩ := getK_out h
      obtain ⟨ad, rfl, h3⟩ := ptrK_out h
      obtain ⟨u, h4, hl⟩ := loadQ_out h3
      obtain ⟨vs, h1, h2⟩ := ih h4
      refine ⟨u :: vs, ?_, h2⟩
      have hg : (act l ds).tmps.getD a undef = .pointer (some ad) := by simp [act, hv]
      simp only [List.mapM_cons, Sem.run_bind, resF, hg, asAddr, Sem.run_pure, Result.andThen_ok, hl w (fun _ _ h => h), h1]
theorem results_run {P : Program} {fn : Func} {w : World} {l : Fr} {ds : List Deferred} {K : List Value → Prop} (h : resK P w fn.results.toList l K) :
    ∃ vs, (results fn (act l ds).tmps).run P w = .ok (retV vs) w ∧ K vs := by
  obtain ⟨vs, h1, h2⟩ := resK_out (ds := ds) h
  refine ⟨vs, ?_, h2⟩
  have e : results fn (act l ds).tmps = (do
      let vs ← fn.results.mapM (resF (act l ds).tmps)
      pure (if h : vs.size = 1 then vs[0] else .tuple vs)) := by
    unfold results
    congr 2
  rw [e, Sem.run_bind, Array.mapM_eq_mapM_toList]
  simp only [Sem.run_map, h1, Result.andThen_ok, Sem.run_pure]
  match vs with
  | [] => rfl
  | [v] => rfl
  | v :: u :: r => simp [retV]
def frame0 (n : Nat) : List Value → Fr
  | [] => List.replicate n undef
  | v :: r => v :: frame0 (n - 1) r
theorem frame0_eq (args : List Value) : ∀ n, frame0 n args = args ++ List.replicate (n - args.length) undef := by
  induction args with
  | nil => intro n; simp [frame0]
  | cons v r ih => intro n; simp only [frame0, ih, List.cons_append, List.length_cons]; congr 3; omega
theorem calls_vc {P : Program} {f : FuncId} {fn : Func} {c : Code} {args : List Value} {w : World} {R : Ending → World → Prop} (pl : Plan) (hf : P.funcs[f]? = some fn) (hb : fn.body = some c)
    (h : vc P pl c 1 (fnConts P fn.results.toList R) (frame0 fn.ntmps args) w) : Calls P f ⟨args⟩ w R := by
  refine calls_of_wp hf hb ?_
  have e : (Array.mk args) ++ Array.replicate (fn.ntmps - (Array.mk args).size) undef = ⟨frame0 fn.ntmps args⟩ := by
    apply Array.ext'
    simp [frame0_eq]
  rw [e]
  refine vc_sound (ds := []) c 1 _ _ w _ h (fun l' w' _ hk => ?_) (fun i l' w' _ hk => hk.elim) (fun l' w' hk => ?_) (fun l' ch w' _ hk => ⟨rfl, hk⟩)
  · obtain ⟨vs, h1, h2⟩ := results_run (ds := []) hk
    exact ⟨rfl, _, h1, h2⟩
  · obtain ⟨vs, h1, h2⟩ := results_run (ds := []) hk
    exact ⟨rfl, _, h1, h2⟩
end Go.Proofs.YtcoeiiihmpnagaaGreatDoor.Vc
namespace Go.Proofs.YtcoeiiihmpnagaaGreatDoor
open Go.RowKit Vc
theorem wrap_i64 {n : Int} (h0 : -9223372036854775808 ≤ n) (h1 : n < 9223372036854775808) : IntKind.i64.wrap n = n := by
  simp only [IntKind.wrap, IntKind.signed, IntKind.bits]
  simp
  omega
theorem add_row (g o i : Nat) : (Addr.mk g o none).add i = ⟨g, o + i, none⟩ := by
  unfold Addr.add
  split
  · next h => subst h; rfl
  · rfl
theorem Row.wr {w : World} {g : Nat} {t : TypeId} {cs : Array Value} (h : Row w g t cs) (i : Nat) (hi : i < cs.size) : Wr w ⟨g, i, none⟩ :=
  ⟨by rw [h.cell]; simp [hi], h.frozen hi⟩
theorem Row.setl {w : World} {g : Nat} {t : TypeId} {l : List Value} (h : Row w g t ⟨l⟩) (i : Nat) (u : Value) : Row (w.setCell ⟨g, i, none⟩ u) g t ⟨l.set i u⟩ := by
  have := h.set i u
  have e : (Array.mk l).setIfInBounds i u = ⟨l.set i u⟩ := by
    apply Array.ext'
    simp
  rwa [e] at this
def cellsF (F : Nat → UInt8) (N : Nat) : List Value := (List.range N).map fun i => .int .u8 (F i).toNat
def rowF (F : Nat → UInt8) (o N : Nat) : List UInt8 := (List.range N).map fun j => F (o + j)
@[simp] theorem cellsF_length (F : Nat → UInt8) (N : Nat) : (cellsF F N).length = N := by simp [cellsF]
@[simp] theorem rowF_length (F : Nat → UInt8) (o N : Nat) : (rowF F o N).length = N := by simp [rowF]
theorem cellsF_get {F : Nat → UInt8} {N i : Nat} (h : i < N) : (cellsF F N)[i]? = some (.int .u8 (F i).toNat) := by simp [cellsF, h]
def bc (l : List UInt8) : List Value := l.map fun b => .int .u8 b.toNat
@[simp] theorem bc_length (l : List UInt8) : (bc l).length = l.length := by simp [bc]
theorem bc_set (l : List UInt8) (i : Nat) (b : UInt8) : (bc l).set i (.int .u8 (b.toNat : Int)) = bc (l.set i b) := by simp [bc, List.map_set]
theorem bc_get {l : List UInt8} {i : Nat} {b : UInt8} (h : l[i]? = some b) : (bc l)[i]? = some (.int .u8 (b.toNat : Int)) := by simp [bc, h]
theorem Row.bytes {w : World} {g : Nat} {t : TypeId} {l : List UInt8} (h : Row w g t ⟨bc l⟩) {n : Nat} (hn : l.length = n) : BytesAt (fun a v => w.cell? a = some v) (some ⟨g, 0, none⟩) n l := by
  refine ⟨hn, fun _ => ⟨_, rfl, fun j b hb => ?_⟩⟩
  rw [add_row, Nat.zero_add]
  exact h.cellv (by simpa using bc_get hb)
theorem Owns.ownAddr {w : World} {B : Nat} {e : TypeId} {size : Nat} {v : Value} {n : Nat} {xs : List Value} (h : Owns w B e size v n xs) (hn : 0 < n) : ∃ g cap, v = .slice (some ⟨g, 0, none⟩) n cap ∧ B ≤ g ∧ g < w.heap.size ∧ n ≤ cap ∧ ∀ j u, xs[j]? = some u → w.cell? ⟨g, j, none⟩ = some u := by
  obtain ⟨g, cap, cur, rfl, hb, hr, hc, _, _⟩ := h.row hn
  exact ⟨g, cap, rfl, hb, hr.lt, hc, h.cells rfl⟩
theorem Owns.bytes {w : World} {B : Nat} {e : TypeId} {p : Option Addr} {n c : Nat} {l : List UInt8} (h : Owns w B e 1 (.slice p n c) n (bc l)) : BytesAt (fun a v => w.cell? a = some v) p n l := by
  have hl := h.length
  rw [bc_length] at hl
  refine ⟨by omega, fun hn => ?_⟩
  obtain ⟨g, cap, he, _, _, _, hx⟩ := h.ownAddr hn
  injection he with e1 e2 e3
  subst e1
  refine ⟨_, rfl, fun j b hb => ?_⟩
  rw [add_row, Nat.zero_add]
  exact hx j _ (bc_get hb)
section
variable {w w2 w7 : World} {B L L' : Nat} {e : TypeId} {v v' : Value} {xs ys : List Value} {size : Nat} {row : Option Nat}
theorem Owns.pushed {p p' : Option Addr} {n n' c c' : Nat} (ho : Owns w2 B e size (.slice p n c) L xs) (hB : B ≤ w2.heap.size) {o : Obj} (ho7 : Owns w7 0 e size (.slice p' n' c') L' ys)
    (hblk : Blk p p' n' c c' (w2.alloc o).heap.size) : Owns w7 B e size (.slice p' n' c') L' ys := by
  refine ho7.base fun k hk => ?_
  rcases hblk.own (n := n) with h | h
  · exact (ho.lt k (by rw [← h, hk])).1
  · rw [hk] at h
    obtain rfl := Option.some.inj h
    simp
    omega
theorem Mod.pushed {S : Nat → Prop} (hm : Mod S w w2) (ho : Owns w2 B e size v L xs) (hwB : w.heap.size ≤ B) {o : Obj} (hg : (w2.alloc o).grownBy w7 v.ownBlock) : Mod S w w7 :=
  (hm.alloc o).grown hg fun g hk => .inr (Nat.le_trans hwB (ho.lt g hk).1)
theorem Row.pushed {g : Nat} {t : TypeId} {cs : Array Value} (h : Row w2 g t cs) (ho : Owns w2 B e size v L xs) (hgB : g < B) {o : Obj} (hg : (w2.alloc o).grownBy w7 v.ownBlock) : Row w7 g t cs :=
  (h.alloc o).grown hg fun hk => by have := (ho.lt g hk.symm).1; omega
end
end Go.Proofs.YtcoeiiihmpnagaaGreatDoor
namespace Go.Proofs.YtcoeiiihmpnagaaGreatDoor
abbrev Txt := List UInt8
end Go.Proofs.YtcoeiiihmpnagaaGreatDoor
namespace Go.Proofs.YtcoeiiihmpnagaaGreatDoor
open Go.RowKit Vc
def quoteEnd : Txt → Option Txt
  | [] => none
  | a :: r => if a = 39 then some r else quoteEnd r
def untilL (u : Txt → Option Txt) (q : Txt → Option Txt) (ok : Bool) (e : UInt8) : Nat → Txt → Option Txt
  | 0, _ => none
  | _ + 1, [] => none
  | n + 1, c :: r =>
    if c = e then some r
    else if e = 34 ∧ c = 39 then (if ok = true then untilL u q ok e n r else none)
    else if e = 41 ∧ c = 40 then (if ok = true then (match q r with
      | some t => untilL u q ok e n t
      | none => none) else none)
    else match u (c :: r) with
      | some t => untilL u q ok e n t
      | none => none
def dollar (v : UInt8 → Txt → Option Txt) (a : UInt8) : Txt → Option Txt
  | b :: t => if a = 36 ∧ b = 40 then v 41 t else if a = 36 ∧ b = 123 then v 125 t else some (b :: t)
  | [] => some []
def unitF (v : UInt8 → Txt → Option Txt) : Txt → Option Txt
  | [] => none
  | a :: r =>
    if a = 92 then (match r with
      | [] => none
      | _ :: t => some t)
    else if a = 39 then quoteEnd r
    else if a = 34 then v 34 r
    else dollar v a r
def lev : Nat → (Txt → Option Txt) × (UInt8 → Txt → Option Txt)
  | 0 => (fun _ => none, fun e s => untilL (fun _ => none) (fun _ => none) false e (s.length + 1) s)
  | d + 1 => (unitF (lev d).2, fun e s => untilL (unitF (lev d).2) ((lev d).2 41) true e (s.length + 1) s)
def unitD (d : Nat) : Txt → Option Txt := (lev d).1
def untilD (d : Nat) (e : UInt8) : Txt → Option Txt := (lev d).2 e
theorem quoteEnd_length : ∀ {s t : Txt}, quoteEnd s = some t → t.length < s.length
  | a :: r, t, h => by
    simp only [quoteEnd] at h
    split at h
    · obtain rfl := Option.some.inj h; simp
    · have := quoteEnd_length h; simp; omega
def Takes (f : Txt → Option Txt) : Prop := ∀ s t, f s = some t → t.length < s.length
theorem untilL_takes {u q : Txt → Option Txt} {ok : Bool} {e : UInt8} (hu : Takes u) (hq : Takes q) : ∀ n, Takes (untilL u q ok e n)
  | 0 => fun s t h => by cases h
  | n + 1 => by
    intro s t h
    cases s with
    | nil => cases h
    | cons c r =>
      simp only [untilL] at h
      split at h
      · obtain rfl := Option.some.inj h; simp
      · split at h
        · split at h
          · have := untilL_takes hu hq n _ _ h; simp; omega
          · cases h
        · split at h
          · split at h
            · split at h
              · rename_i t' ht
                have h1 := hq _ _ ht
                have h2 := untilL_takes hu hq n _ _ h
                simp; omega
              · cases h
            · cases h
          · split at h
            · rename_i t' ht
              have h1 := hu _ _ ht
              have h2 := untilL_takes hu hq n _ _ h
              omega
            · cases h
theorem unitF_takes {v : UInt8 → Txt → Option Txt} (hv : ∀ e, Takes (v e)) : Takes (unitF v) := by
  intro s t h
  cases s with
  | nil => cases h
  | cons a r =>
    simp only [unitF] at h
    split at h
    · cases r with
      | nil => cases h
      | cons b r => obtain rfl := Option.some.inj h; simp; omega
    · split at h
      · have := quoteEnd_length h; simp; omega
      · split at h
        · have := hv _ _ _ h; simp; omega
        · cases r with
          | nil => obtain rfl := Option.some.inj h; simp
          | cons b r =>
            simp only [dollar] at h
            split at h
            · have := hv _ _ _ h; simp; omega
            · split at h
              · have := hv _ _ _ h; simp; omega
              · obtain rfl := Option.some.inj h; simp
theorem lev_takes : ∀ d, Takes (lev d).1 ∧ ∀ e, Takes ((lev d).2 e)
  | 0 => by
    refine ⟨fun s t h => (by cases h), fun e s t h => ?_⟩
    exact untilL_takes (fun s t h => by cases h) (fun s t h => by cases h) _ _ _ h
  | d + 1 => by
    have ih := lev_takes d
    have hu : Takes (unitF (lev d).2) := unitF_takes ih.2
    exact ⟨hu, fun e s t h => untilL_takes hu (ih.2 41) _ _ _ h⟩
theorem untilL_more {u q : Txt → Option Txt} {ok : Bool} {e : UInt8} (hu : Takes u) (hq : Takes q) : ∀ (n m : Nat) (s : Txt), s.length < n → s.length < m → untilL u q ok e n s = untilL u q ok e m s
  | 0, _, _, h, _ => by omega
  | _, 0, _, _, h => by omega
  | n + 1, m + 1, [], _, _ => rfl
  | n + 1, m + 1, c :: r, hn, hm => by
    simp only [List.length_cons] at hn hm
    simp only [untilL]
    rw [untilL_more hu hq n m r (by omega) (by omega)]
    have e1 : (match q r with | some t => untilL u q ok e n t | none => none) = (match q r with | some t => untilL u q ok e m t | none => none) := by
      cases hqr : q r with
      | none => rfl
      | some t =>
        have := hq _ _ hqr
        exact untilL_more hu hq n m t (by omega) (by omega)
    have e2 : (match u (c :: r) with | some t => untilL u q ok e n t | none => none) = (match u (c :: r) with | some t => untilL u q ok e m t | none => none) := by
      cases hur : u (c :: r) with
      | none => rfl
      | some t =>
        have := hu _ _ hur
        simp only [List.length_cons] at this
        exact untilL_more hu hq n m t (by omega) (by omega)
    rw [e1, e2]
theorem unitD_takes (d : Nat) : Takes (unitD d) := (lev_takes d).1
theorem untilD_takes (d : Nat) (e : UInt8) : Takes (untilD d e) := (lev_takes d).2 e
theorem unitD_zero (s : Txt) : unitD 0 s = none := rfl
theorem untilD_nil (d : Nat) (e : UInt8) : untilD d e [] = none := by cases d <;> rfl
theorem untilD_cons (d : Nat) (e c : UInt8) (r : Txt) : untilD d e (c :: r) =
    if c = e then some r
    else if e = 34 ∧ c = 39 then (if d = 0 then none else untilD d e r)
    else if e = 41 ∧ c = 40 then (if d = 0 then none else (untilD (d - 1) 41 r).bind (untilD d e))
    else (unitD d (c :: r)).bind (untilD d e) := by
  cases d with
  | zero =>
    show untilL (fun _ => none) (fun _ => none) false e (r.length + 1 + 1) (c :: r) = _
    simp only [untilL, Bool.false_eq_true, if_false, if_true, unitD_zero, Option.bind_none]
  | succ d =>
    have hu := unitF_takes (lev_takes d).2
    have hq := (lev_takes d).2 41
    show untilL (unitF (lev d).2) ((lev d).2 41) true e (r.length + 1 + 1) (c :: r) = _
    have next : ∀ t : Txt, t.length < r.length + 1 → untilL (unitF (lev d).2) ((lev d).2 41) true e (r.length + 1) t = untilD (d + 1) e t := fun t ht => untilL_more hu hq _ _ _ ht (Nat.lt_succ_self _)
    simp only [untilL, if_true, Nat.succ_ne_zero, if_false, Nat.add_sub_cancel]
    rw [next r (Nat.lt_succ_self _)]
    have e1 : (match (lev d).2 41 r with | some t => untilL (unitF (lev d).2) ((lev d).2 41) true e (r.length + 1) t | none => none) = (untilD d 41 r).bind (untilD (d + 1) e) := by
      show (match untilD d 41 r with | some t => untilL (unitF (lev d).2) ((lev d).2 41) true e (r.length + 1) t | none => none) = _
      cases hqr : untilD d 41 r with
      | none => rfl
      | some t =>
        have := untilD_takes d 41 _ _ hqr
        exact next t (by omega)
    have e2 : (match unitF (lev d).2 (c :: r) with | some t => untilL (unitF (lev d).2) ((lev d).2 41) true e (r.length + 1) t | none => none) = (unitD (d + 1) (c :: r)).bind (untilD (d + 1) e) := by
      show (match unitD (d + 1) (c :: r) with | some t => untilL (unitF (lev d).2) ((lev d).2 41) true e (r.length + 1) t | none => none) = _
      cases hur : unitD (d + 1) (c :: r) with
      | none => rfl
      | some t =>
        have := unitD_takes (d + 1) _ _ hur
        simp only [List.length_cons] at this
        exact next t (by omega)
    rw [e1, e2]
def Ends (f : Txt → Option Txt) : Prop := ∀ s t, f s = some t → t <:+ s
theorem suf_cons {a : UInt8} {t r : Txt} (h : t <:+ r) : t <:+ a :: r := h.trans (List.suffix_cons a r)
theorem quoteEnd_ends : Ends quoteEnd
  | a :: r, t, h => by
    simp only [quoteEnd] at h
    split at h
    · obtain rfl := Option.some.inj h; exact List.suffix_cons _ _
    · exact suf_cons (quoteEnd_ends r t h)
theorem untilL_ends {u q : Txt → Option Txt} {ok : Bool} {e : UInt8} (hu : Ends u) (hq : Ends q) : ∀ n, Ends (untilL u q ok e n)
  | 0 => fun s t h => by cases h
  | n + 1 => by
    intro s t h
    cases s with
    | nil => cases h
    | cons c r =>
      simp only [untilL] at h
      split at h
      · obtain rfl := Option.some.inj h; exact List.suffix_cons _ _
      · split at h
        · split at h
          · exact suf_cons (untilL_ends hu hq n _ _ h)
          · cases h
        · split at h
          · split at h
            · split at h
              · rename_i t' ht
                exact suf_cons ((untilL_ends hu hq n _ _ h).trans (hq _ _ ht))
              · cases h
            · cases h
          · split at h
            · rename_i t' ht
              exact (untilL_ends hu hq n _ _ h).trans (hu _ _ ht)
            · cases h
theorem unitF_ends {v : UInt8 → Txt → Option Txt} (hv : ∀ e, Ends (v e)) : Ends (unitF v) := by
  intro s t h
  cases s with
  | nil => cases h
  | cons a r =>
    simp only [unitF] at h
    split at h
    · cases r with
      | nil => cases h
      | cons b r => obtain rfl := Option.some.inj h; exact suf_cons (List.suffix_cons _ _)
    · split at h
      · exact suf_cons (quoteEnd_ends _ _ h)
      · split at h
        · exact suf_cons (hv _ _ _ h)
        · cases r with
          | nil => obtain rfl := Option.some.inj h; exact List.suffix_cons _ _
          | cons b r =>
            simp only [dollar] at h
            split at h
            · exact suf_cons (suf_cons (hv _ _ _ h))
            · split at h
              · exact suf_cons (suf_cons (hv _ _ _ h))
              · obtain rfl := Option.some.inj h; exact List.suffix_cons _ _
theorem lev_ends : ∀ d, Ends (lev d).1 ∧ ∀ e, Ends ((lev d).2 e)
  | 0 => ⟨fun s t h => (by cases h), fun e s t h => untilL_ends (fun s t h => by cases h) (fun s t h => by cases h) _ _ _ h⟩
  | d + 1 => by
    have ih := lev_ends d
    have hu : Ends (unitF (lev d).2) := unitF_ends ih.2
    exact ⟨hu, fun e s t h => untilL_ends hu (ih.2 41) _ _ _ h⟩
theorem unitD_ends (d : Nat) : Ends (unitD d) := (lev_ends d).1
theorem untilD_ends (d : Nat) (e : UInt8) : Ends (untilD d e) := (lev_ends d).2 e
def ix (s : Txt) : Option Txt → Int
  | some t => ((s.length - t.length : Nat) : Int)
  | none => -1
theorem suf_drop {s t : Txt} (h : t <:+ s) : t = s.drop (s.length - t.length) := (List.suffix_iff_eq_drop).1 h
theorem drop_suf (s : Txt) (n : Nat) : s.drop n <:+ s := List.drop_suffix n s
theorem ix_drop {s : Txt} {n : Nat} (h : n ≤ s.length) : ix s (some (s.drop n)) = (n : Int) := by
  show ((s.length - (s.drop n).length : Nat) : Int) = n
  rw [List.length_drop]
  omega
def pf (t q : Txt) : Bool := decide (t.length ≤ q.length ∧ q.take t.length = t)
theorem pf_two (x a : UInt8) (r : Txt) : pf [36, x] (a :: r) = (match r with
    | b :: _ => decide (a = 36 ∧ b = x)
    | [] => false) := by
  unfold pf
  cases r with
  | nil => rfl
  | cons b t =>
    apply decide_eq_decide.2
    simp
end Go.Proofs.YtcoeiiihmpnagaaGreatDoor
namespace Go.Proofs.YtcoeiiihmpnagaaGreatDoor
inductive Pt where
  | mk (k : Int) (q : Bool) (t n o : Txt) (w : List Pt)
namespace Pt
def k : Pt → Int
  | .mk k _ _ _ _ _ => k
def q : Pt → Bool
  | .mk _ q _ _ _ _ => q
def t : Pt → Txt
  | .mk _ _ t _ _ _ => t
def n : Pt → Txt
  | .mk _ _ _ n _ _ => n
def o : Pt → Txt
  | .mk _ _ _ _ o _ => o
def w : Pt → List Pt
  | .mk _ _ _ _ _ w => w
end Pt
theorem Pt.eta (p : Pt) : Pt.mk p.k p.q p.t p.n p.o p.w = p := by cases p; rfl
inductive Rs (α : Type) where
  | ok (a : α) : Rs α
  | bad (e : Nat) : Rs α
def Rs.and {α β : Type} (r : Rs α) (f : α → Rs β) : Rs β := match r with
  | .ok a => f a
  | .bad e => .bad e
theorem Rs.and_ok {α β : Type} {r : Rs α} {f : α → Rs β} {b : β} (h : r.and f = .ok b) : ∃ a, r = .ok a ∧ f a = .ok b := by
  cases r with
  | bad k => cases h
  | ok a => exact ⟨a, rfl, h⟩
def isLet (c : UInt8) : Bool := (decide (97 ≤ c) && decide (c ≤ 122)) || (decide (65 ≤ c) && decide (c ≤ 90)) || c == 95
def isDig (c : UInt8) : Bool := decide (48 ≤ c) && decide (c ≤ 57)
def isNam (c : UInt8) : Bool := isLet c || isDig c
def isSpec (c : UInt8) : Bool := isDig c || c == 35 || c == 63 || c == 64 || c == 42
def nameN : Txt → Nat
  | [] => 0
  | c :: r => if isLet c = true then (r.takeWhile isNam).length + 1 else 0
def specN : Txt → Nat
  | [] => 0
  | c :: _ => if isSpec c = true then 1 else 0
def digN (s : Txt) : Nat := (s.takeWhile isDig).length
def paramN (s : Txt) : Nat := if 0 < nameN s then nameN s else if 0 < digN s then digN s else specN s
def addP (l : List Pt) (p : Pt) : List Pt := match l.getLast? with
  | some x => if p.k = 0 ∧ x.k = 0 ∧ x.q = p.q then l.dropLast ++ [.mk x.k x.q (x.t ++ p.t) x.n x.o x.w] else l ++ [p]
  | none => l ++ [p]
mutual
def Pt.qd : Pt → Pt
  | .mk k _ t n o w => .mk k true t n o (qdL [] w)
def qdL (acc : List Pt) : List Pt → List Pt
  | [] => acc
  | p :: r => qdL (addP acc p.qd) r
end
mutual
def Pt.has : Pt → Bool
  | .mk k _ _ _ _ w => decide (k = 2) || hasL w
def hasL : List Pt → Bool
  | [] => false
  | p :: r => p.has || hasL r
end
def opsL : List Txt := [[58, 45], [58, 61], [58, 63], [58, 43], [37, 37], [35, 35], [45], [61], [63], [43], [37], [35]]
def opOf (s : Txt) : Txt := (opsL.find? fun o => pf o s).getD []
abbrev lenO : Txt := [108, 101, 110]
def bracesF (P : Txt → Rs (List Pt)) (q : Bool) (s : Txt) : Rs Pt :=
  if 1 < s.length ∧ s.head? = some 35 ∧ paramN (s.drop 1) = s.length - 1 then .ok (.mk 1 q [] (s.drop 1) lenO [])
  else if paramN s = 0 then .bad 90
  else if s.drop (paramN s) = [] then .ok (.mk 1 q [] (s.take (paramN s)) [] [])
  else if opOf (s.drop (paramN s)) = [] ∨ ((opOf (s.drop (paramN s)) = [61] ∨ opOf (s.drop (paramN s)) = [58, 61]) ∧ nameN (s.take (paramN s)) = 0) then .bad 90
  else (P ((s.drop (paramN s)).drop (opOf (s.drop (paramN s))).length)).and fun w =>
    if hasL w = true then .bad 90 else .ok (.mk 1 q [] (s.take (paramN s)) (opOf (s.drop (paramN s))) (if q = true then qdL [] w else w))
def dollarF (P : Txt → Rs (List Pt)) (q : Bool) (s : Txt) : Rs (Pt × Nat) :=
  if (s.drop 1).head? = some 40 ∨ (s.drop 1).head? = some 123 then match unitD 30 s with
    | none => .bad 90
    | some t =>
      if (s.drop 1).head? = some 123 then (bracesF P q ((s.drop 2).take (s.length - t.length - 3))).and fun p => .ok (p, s.length - t.length)
      else if 4 < s.length - t.length ∧ s[2]? = some 40 ∧ s[s.length - t.length - 2]? = some 41 then .ok (.mk 3 q ((s.drop 3).take (s.length - t.length - 5)) [] [] [], s.length - t.length)
      else .ok (.mk 2 q ((s.drop 2).take (s.length - t.length - 3)) [] [] [], s.length - t.length)
  else if 0 < nameN (s.drop 1) then .ok (.mk 1 q [] ((s.drop 1).take (nameN (s.drop 1))) [] [], nameN (s.drop 1) + 1)
  else if 0 < specN (s.drop 1) then .ok (.mk 1 q [] ((s.drop 1).take 1) [] [], 2)
  else .ok (.mk 0 q [36] [] [] [], 1)
def tx (q : Bool) (t : Txt) : Pt := .mk 0 q t [] [] []
def dblOne (P : Txt → Rs (List Pt)) (s : Txt) : Rs (List Pt × Nat) := match s with
  | [] => .bad 0
  | c :: r =>
    if c = 36 then (dollarF P true (c :: r)).and fun x => .ok ([x.1], x.2)
    else if c = 92 ∧ (r.head? = some 36 ∨ r.head? = some 96 ∨ r.head? = some 34 ∨ r.head? = some 92) then .ok ([tx true (r.take 1)], 2)
    else .ok ([tx true [c]], 1)
def loopF (one : Txt → Rs (List Pt × Nat)) : Nat → List Pt → Txt → Rs (List Pt)
  | 0, _, _ => .bad 0
  | _ + 1, acc, [] => .ok acc
  | n + 1, acc, c :: r => (one (c :: r)).and fun x => loopF one n (x.1.foldl addP acc) ((c :: r).drop x.2)
def dblF (P : Txt → Rs (List Pt)) (s : Txt) : Rs (List Pt) := if s = [] then .ok [tx true []] else loopF (dblOne P) (s.length + 1) [] s
def outOne (P : Txt → Rs (List Pt)) (s : Txt) : Rs (List Pt × Nat) := match s with
  | [] => .bad 0
  | c :: r =>
    if c = 36 then (dollarF P false (c :: r)).and fun x => .ok ([x.1], x.2)
    else if c = 92 ∨ c = 39 ∨ c = 34 then match unitD 30 (c :: r) with
      | none => .bad 90
      | some t =>
        if c = 92 then .ok ([tx true (r.take 1)], 2)
        else if c = 34 then (dblF P (r.take (r.length - t.length - 1))).and fun l => .ok (l, r.length + 1 - t.length)
        else .ok ([tx true (r.take (r.length - t.length - 1))], r.length + 1 - t.length)
    else .ok ([tx false [c]], 1)
def wpL : Nat → Txt → Rs (List Pt)
  | 0, _ => .bad 2
  | L + 1, s => loopF (outOne (wpL L)) (s.length + 1) [] s
def single (s : Txt) : Txt := 39 :: (s.flatMap fun b => if b = 39 then [39, 92, 39, 39] else [b]) ++ [39]
def wrapQ (q : Bool) (s : Txt) : Txt := if q = true then 34 :: s ++ [34] else s
mutual
def Pt.pr : Pt → Txt
  | .mk k q t n o w =>
    if k = 0 then (if q = true then single t else t)
    else wrapQ q (if k = 2 then [36, 40] ++ t ++ [41] else if k = 3 then [36, 40, 40] ++ t ++ [41, 41] else if k = 1 then (if o = lenO then [36, 123, 35] ++ n ++ [125] else [36, 123] ++ n ++ o ++ prL w ++ [125]) else [])
def prL : List Pt → Txt
  | [] => []
  | p :: r => p.pr ++ prL r
end
theorem nameN_le : ∀ s : Txt, nameN s ≤ s.length
  | [] => Nat.le_refl _
  | c :: r => by
    have : (r.takeWhile isNam).length ≤ r.length := (List.takeWhile_sublist _).length_le
    simp only [nameN]
    split
    · simp only [List.length_cons]; omega
    · exact Nat.zero_le _
theorem specN_le : ∀ s : Txt, specN s ≤ s.length
  | [] => Nat.le_refl _
  | c :: r => by
    simp only [specN, List.length_cons]
    split <;> omega
theorem specN_one (s : Txt) : specN s ≤ 1 := by
  cases s with
  | nil => exact Nat.zero_le _
  | cons c r => simp only [specN]; split <;> omega
theorem digN_le (s : Txt) : digN s ≤ s.length := (List.takeWhile_sublist _).length_le
theorem paramN_le (s : Txt) : paramN s ≤ s.length := by
  unfold paramN
  split
  · exact nameN_le s
  · split
    · exact digN_le s
    · exact specN_le s
theorem opOf_in (s : Txt) : opOf s = [] ∨ (opOf s ∈ opsL ∧ pf (opOf s) s = true) := by
  unfold opOf
  cases h : opsL.find? fun o => pf o s with
  | none => exact .inl rfl
  | some o => exact .inr ⟨List.mem_of_find?_eq_some h, by simpa using List.find?_some h⟩
theorem opOf_len (s : Txt) : (opOf s).length ≤ s.length ∧ (opOf s).length ≤ 2 := by
  rcases opOf_in s with h | ⟨h, h2⟩
  · rw [h]; exact ⟨Nat.zero_le _, by decide⟩
  · refine ⟨?_, ?_⟩
    · unfold pf at h2
      exact (of_decide_eq_true h2).1
    · have : ∀ o ∈ opsL, o.length ≤ 2 := by decide
      exact this _ h
theorem addP_len (l : List Pt) (p : Pt) : (addP l p).length ≤ l.length + 1 := by
  unfold addP
  split
  · rename_i x hx
    have hne : l ≠ [] := by rintro rfl; cases hx
    have := List.length_pos_iff.2 hne
    split
    · simp only [List.length_append, List.length_dropLast, List.length_cons, List.length_nil]; omega
    · simp
  · simp
theorem fold_len : ∀ (ps acc : List Pt), (ps.foldl addP acc).length ≤ acc.length + ps.length
  | [], acc => Nat.le_refl _
  | p :: ps, acc => by
    have h1 := fold_len ps (addP acc p)
    have h2 := addP_len acc p
    simp only [List.foldl_cons, List.length_cons]
    omega
def Takes1 (one : Txt → Rs (List Pt × Nat)) : Prop := ∀ s x, one s = .ok x → 0 < x.2 ∧ x.2 ≤ s.length ∧ x.1.length ≤ x.2
theorem dollarF_takes {P : Txt → Rs (List Pt)} {q : Bool} {r : Txt} {x : Pt × Nat} (h : dollarF P q (36 :: r) = .ok x) : 0 < x.2 ∧ x.2 ≤ r.length + 1 := by
  unfold dollarF at h
  simp only [List.drop_succ_cons, List.drop_zero] at h
  split at h
  · split at h
    · cases h
    · rename_i t ht
      have h1 := unitD_takes 30 _ _ ht
      simp only [List.length_cons] at h1 h
      split at h
      · obtain ⟨p, _, h⟩ := Rs.and_ok h
        injection h with h
        rw [← h]
        dsimp only
        omega
      · split at h <;> (injection h with h; rw [← h]; dsimp only; omega)
  · split at h
    · injection h with h
      have := nameN_le r
      rw [← h]
      dsimp only
      omega
    · split at h
      · rename_i hs
        injection h with h
        have := specN_le r
        rw [← h]
        dsimp only
        omega
      · injection h with h
        rw [← h]
        dsimp only
        omega
theorem dblOne_takes (P : Txt → Rs (List Pt)) : Takes1 (dblOne P) := by
  intro s x h
  cases s with
  | nil => cases h
  | cons c r =>
    simp only [dblOne] at h
    split at h
    · rename_i hc
      subst hc
      obtain ⟨y, h1, h⟩ := Rs.and_ok h
      injection h with h
      have := dollarF_takes h1
      rw [← h]
      exact ⟨this.1, this.2, this.1⟩
    · split at h
      · rename_i hc
        injection h with h
        rw [← h]
        have : r ≠ [] := by
          rintro rfl
          rcases hc.2 with h | h | h | h <;> cases h
        have := List.length_pos_iff.2 this
        simp only [List.length_cons, List.length_nil]
        omega
      · injection h with h
        rw [← h]
        simp only [List.length_cons, List.length_nil]
        omega
theorem loopF_len {one : Txt → Rs (List Pt × Nat)} (ho : Takes1 one) : ∀ (n : Nat) (acc : List Pt) (s : Txt) (l : List Pt), loopF one n acc s = .ok l → l.length ≤ acc.length + s.length
  | 0, _, _, _, h => by cases h
  | n + 1, acc, [], l, h => by
    injection h with h
    rw [h]
    exact Nat.le_add_right _ _
  | n + 1, acc, c :: r, l, h => by
    simp only [loopF] at h
    obtain ⟨x, h1, h⟩ := Rs.and_ok h
    have h2 := ho _ _ h1
    have h3 := loopF_len ho n _ _ _ h
    have h4 := fold_len x.1 acc
    rw [List.length_drop] at h3
    omega
theorem loopF_more {one : Txt → Rs (List Pt × Nat)} (ho : Takes1 one) : ∀ (n m : Nat) (acc : List Pt) (s : Txt), s.length < n → s.length < m → loopF one n acc s = loopF one m acc s
  | 0, _, _, _, h, _ => by omega
  | _, 0, _, _, _, h => by omega
  | n + 1, m + 1, acc, [], _, _ => rfl
  | n + 1, m + 1, acc, c :: r, h1, h2 => by
    simp only [loopF]
    cases h : one (c :: r) with
    | bad e => rfl
    | ok x =>
      have h3 := ho _ _ h
      simp only [List.length_cons] at h1 h2 h3
      exact loopF_more ho n m _ _ (by rw [List.length_drop, List.length_cons]; omega) (by rw [List.length_drop, List.length_cons]; omega)
theorem dblF_len {P : Txt → Rs (List Pt)} {s : Txt} {l : List Pt} (h : dblF P s = .ok l) : l.length ≤ s.length + 1 := by
  unfold dblF at h
  split at h
  · injection h with h
    rw [← h]
    simp
  · have := loopF_len (dblOne_takes P) _ _ _ _ h
    simp only [List.length_nil] at this
    omega
theorem outOne_takes (P : Txt → Rs (List Pt)) : Takes1 (outOne P) := by
  intro s x h
  cases s with
  | nil => cases h
  | cons c r =>
    simp only [outOne] at h
    split at h
    · rename_i hc
      subst hc
      obtain ⟨y, h1, h⟩ := Rs.and_ok h
      injection h with h
      have := dollarF_takes h1
      rw [← h]
      exact ⟨this.1, this.2, this.1⟩
    · split at h
      · split at h
        · cases h
        · rename_i hc t ht
          have h1 := unitD_takes 30 _ _ ht
          simp only [List.length_cons] at h1
          split at h
          · rename_i h92
            subst h92
            injection h with h
            rw [← h]
            have : r ≠ [] := by
              rintro rfl
              rw [show unitD 30 [92] = none from rfl] at ht
              cases ht
            have := List.length_pos_iff.2 this
            simp only [List.length_cons, List.length_nil]
            omega
          · have hq : ∀ u, c = 39 ∨ c = 34 → unitD 30 (c :: r) = some u → u.length + 1 ≤ r.length := by
              intro u hc hu
              rcases hc with rfl | rfl
              · have : quoteEnd r = some u := hu
                have := quoteEnd_length this
                omega
              · have : untilD 29 34 r = some u := hu
                have := untilD_takes 29 34 _ _ this
                omega
            rename_i h92
            have h2 := hq t (Or.resolve_left (by assumption) h92) ht
            split at h
            · obtain ⟨l, h3, h⟩ := Rs.and_ok h
              injection h with h
              have h4 := dblF_len h3
              rw [List.length_take] at h4
              rw [← h]
              simp only [List.length_cons]
              omega
            · injection h with h
              rw [← h]
              simp only [List.length_cons, List.length_nil]
              omega
      · injection h with h
        rw [← h]
        simp only [List.length_cons, List.length_nil]
        omega
def Mg (x p : Pt) : Prop := p.k = 0 ∧ x.k = 0 ∧ x.q = p.q
theorem addP_nil (p : Pt) : addP [] p = [p] := rfl
theorem addP_snoc (l : List Pt) (x p : Pt) : addP (l ++ [x]) p = if p.k = 0 ∧ x.k = 0 ∧ x.q = p.q then l ++ [.mk x.k x.q (x.t ++ p.t) x.n x.o x.w] else l ++ [x] ++ [p] := by
  unfold addP
  simp
theorem snoc_of {l : List Pt} (h : l ≠ []) : ∃ m x, l = m ++ [x] := ⟨l.dropLast, l.getLast h, (List.dropLast_concat_getLast h).symm⟩
def Norm : List Pt → Prop
  | [] => True
  | [_] => True
  | a :: b :: r => ¬ Mg a b ∧ Norm (b :: r)
theorem Norm.tail {a : Pt} {r : List Pt} (h : Norm (a :: r)) : Norm r := by
  cases r with
  | nil => trivial
  | cons b r => exact h.2
theorem Norm.snoc : ∀ {l : List Pt} {x p : Pt}, Norm (l ++ [x]) → ¬ Mg x p → Norm (l ++ [x] ++ [p])
  | [], x, p, _, h => ⟨h, trivial⟩
  | [a], x, p, h, h2 => ⟨h.1, h2, trivial⟩
  | a :: b :: l, x, p, h, h2 => ⟨h.1, Norm.snoc (l := b :: l) h.2 h2⟩
theorem Norm.left : ∀ {l m : List Pt}, Norm (l ++ m) → Norm l
  | [], _, _ => trivial
  | [a], _, _ => trivial
  | a :: b :: l, m, h => ⟨h.1, Norm.left (l := b :: l) h.2⟩
theorem Norm.right : ∀ {l m : List Pt}, Norm (l ++ m) → Norm m
  | [], _, h => h
  | a :: l, m, h => Norm.right (l := l) (Norm.tail h)
theorem Norm.swap : ∀ {l : List Pt} {x y : Pt}, Norm (l ++ [x]) → x.k = y.k → x.q = y.q → Norm (l ++ [y])
  | [], x, y, _, _, _ => trivial
  | [a], x, y, h, h1, h2 => ⟨fun m => h.1 ⟨by rw [h1]; exact m.1, m.2.1, by rw [h2]; exact m.2.2⟩, trivial⟩
  | a :: b :: l, x, y, h, h1, h2 => ⟨h.1, Norm.swap (l := b :: l) h.2 h1 h2⟩
theorem Norm.add {l : List Pt} {p : Pt} (h : Norm l) : Norm (addP l p) := by
  by_cases hl : l = []
  · subst hl; trivial
  · obtain ⟨m, x, rfl⟩ := snoc_of hl
    rw [addP_snoc]
    split
    · exact h.swap rfl rfl
    · rename_i hn
      exact h.snoc hn
theorem qdL_fold : ∀ (l acc : List Pt), qdL acc l = (l.map Pt.qd).foldl addP acc
  | [], _ => by simp [qdL]
  | p :: l, acc => by rw [qdL, qdL_fold l]; rfl
theorem mem_size {p : Pt} {l : List Pt} (h : p ∈ l) : SizeOf.sizeOf p.w < SizeOf.sizeOf l := by
  have h1 := List.sizeOf_lt_of_mem h
  have h2 : SizeOf.sizeOf p.w < SizeOf.sizeOf p := by cases p; simp only [Pt.w, Pt.mk.sizeOf_spec]; omega
  omega
theorem hasL_mem {l : List Pt} : hasL l = true ↔ ∃ p ∈ l, p.has = true := by
  induction l with
  | nil => simp [hasL]
  | cons a l ih => simp [hasL, ih]
mutual
def Pt.wt : Pt → Nat
  | .mk _ _ t n o w => 4 * t.length + n.length + o.length + 8 + wtL w
def wtL : List Pt → Nat
  | [] => 0
  | p :: r => p.wt + wtL r
end
theorem Pt.wt_eq (p : Pt) : p.wt = 4 * p.t.length + p.n.length + p.o.length + 8 + wtL p.w := by cases p; simp only [Pt.wt, Pt.t, Pt.n, Pt.o, Pt.w]
theorem wtL_append : ∀ a b : List Pt, wtL (a ++ b) = wtL a + wtL b
  | [], b => by simp [wtL]
  | p :: a, b => by simp only [List.cons_append, wtL, wtL_append a b]; omega
theorem wtL_one (p : Pt) : wtL [p] = p.wt := by simp [wtL]
theorem wtL_mem {p : Pt} : ∀ {l : List Pt}, p ∈ l → p.wt ≤ wtL l
  | a :: l, h => by
    rcases List.mem_cons.1 h with rfl | h
    · simp only [wtL]; omega
    · have := wtL_mem h
      simp only [wtL]; omega
theorem wtL_len : ∀ l : List Pt, 8 * l.length ≤ wtL l
  | [] => by simp
  | p :: l => by
    have h1 := wtL_len l
    have h2 := p.wt_eq
    simp only [wtL, List.length_cons]
    omega
theorem wt_add (l : List Pt) (p : Pt) : wtL (addP l p) ≤ wtL l + p.wt := by
  by_cases h : l = []
  · subst h
    rw [addP_nil]
    simp [wtL]
  · obtain ⟨m, x, rfl⟩ := snoc_of h
    rw [addP_snoc]
    split
    · have h1 := x.wt_eq
      have h2 := p.wt_eq
      simp only [wtL_append, wtL_one, Pt.wt, List.length_append]
      omega
    · simp only [wtL_append, wtL_one]
      omega
theorem wt_fold : ∀ (ps l : List Pt), wtL (ps.foldl addP l) ≤ wtL l + wtL ps
  | [], l => by simp [wtL]
  | p :: ps, l => by
    have h1 := wt_fold ps (addP l p)
    have h2 := wt_add l p
    simp only [List.foldl_cons, wtL]
    omega
mutual
theorem Pt.wt_qd : ∀ p : Pt, p.qd.wt ≤ p.wt
  | .mk k q t n o w => by
    have := wt_qdL w []
    simp only [Pt.qd, Pt.wt]
    simp only [wtL] at this
    omega
theorem wt_qdL : ∀ l acc : List Pt, wtL (qdL acc l) ≤ wtL acc + wtL l
  | [], acc => by simp [qdL, wtL]
  | p :: l, acc => by
    have h1 := wt_qdL l (addP acc p.qd)
    have h2 := wt_add acc p.qd
    have h3 := p.wt_qd
    simp only [qdL, wtL]
    omega
end
def Bears (one : Txt → Rs (List Pt × Nat)) : Prop := ∀ s x, one s = .ok x → wtL x.1 ≤ 12 * x.2
def BearsL (P : Txt → Rs (List Pt)) : Prop := ∀ s l, P s = .ok l → wtL l ≤ 12 * s.length
theorem bracesF_wt {P : Txt → Rs (List Pt)} (hP : BearsL P) {q : Bool} {s : Txt} {p : Pt} (h : bracesF P q s = .ok p) : p.wt ≤ 12 * s.length + 12 := by
  unfold bracesF at h
  split at h
  · rename_i hc
    injection h with h
    rw [← h]
    simp only [Pt.wt, wtL, List.length_nil, List.length_drop, List.length_cons]
    omega
  · split at h
    · cases h
    · split at h
      · injection h with h
        have := paramN_le s
        rw [← h]
        simp only [Pt.wt, wtL, List.length_nil, List.length_take]
        omega
      · split at h
        · cases h
        · obtain ⟨w, h1, h⟩ := Rs.and_ok h
          split at h
          · cases h
          · injection h with h
            have h2 := hP _ _ h1
            have h3 := paramN_le s
            have h4 := opOf_len (s.drop (paramN s))
            have h5 := wt_qdL w []
            simp only [wtL] at h5
            rw [List.length_drop, List.length_drop] at h2
            rw [List.length_drop] at h4
            rw [← h]
            have h6 : wtL (if q = true then qdL [] w else w) ≤ wtL w := by
              split
              · omega
              · exact Nat.le_refl _
            simp only [Pt.wt, List.length_nil, List.length_take]
            omega
theorem dollarF_wt {P : Txt → Rs (List Pt)} (hP : BearsL P) {q : Bool} {r : Txt} {x : Pt × Nat} (h : dollarF P q (36 :: r) = .ok x) : x.1.wt ≤ 12 * x.2 := by
  unfold dollarF at h
  simp only [List.drop_succ_cons, List.drop_zero] at h
  split at h
  · split at h
    · cases h
    · rename_i t ht
      have hh : r.head? = some 40 ∨ r.head? = some 123 := by assumption
      have h1 : t.length + 3 ≤ (36 :: r).length := by
        obtain ⟨c, r2, rfl⟩ : ∃ c r2, r = c :: r2 := by
          cases r with
          | nil => rcases hh with e | e <;> cases e
          | cons c r2 => exact ⟨c, r2, rfl⟩
        rcases hh with e | e
        · obtain rfl : c = 40 := by simpa using e
          have ht : untilD 29 41 r2 = some t := ht
          have := untilD_takes _ _ _ _ ht
          simp only [List.length_cons]; omega
        · obtain rfl : c = 123 := by simpa using e
          have ht : untilD 29 125 r2 = some t := ht
          have := untilD_takes _ _ _ _ ht
          simp only [List.length_cons]; omega
      split at h
      · obtain ⟨p, h2, h⟩ := Rs.and_ok h
        injection h with h
        have h3 := bracesF_wt hP h2
        rw [List.length_take] at h3
        rw [← h]
        dsimp only
        omega
      · split at h
        · injection h with h
          rw [← h]
          simp only [Pt.wt, wtL, List.length_nil, List.length_take]
          omega
        · injection h with h
          rw [← h]
          simp only [Pt.wt, wtL, List.length_nil, List.length_take]
          omega
  · split at h
    · injection h with h
      have := nameN_le r
      rw [← h]
      simp only [Pt.wt, wtL, List.length_nil, List.length_take]
      omega
    · split at h
      · injection h with h
        rw [← h]
        simp only [Pt.wt, wtL, List.length_nil, List.length_take]
        omega
      · injection h with h
        rw [← h]
        simp [Pt.wt, wtL]
theorem tx_wt (q : Bool) (t : Txt) : (tx q t).wt = 4 * t.length + 8 := by simp [tx, Pt.wt, wtL]
theorem loopF_wt {one : Txt → Rs (List Pt × Nat)} (ht : Takes1 one) (hb : Bears one) : ∀ (n : Nat) (acc : List Pt) (s : Txt) (l : List Pt), loopF one n acc s = .ok l → wtL l ≤ wtL acc + 12 * s.length
  | 0, _, _, _, h => by cases h
  | n + 1, acc, [], l, h => by
    injection h with h
    rw [h]
    exact Nat.le_add_right _ _
  | n + 1, acc, c :: r, l, h => by
    simp only [loopF] at h
    obtain ⟨x, h1, h⟩ := Rs.and_ok h
    have h2 := ht _ _ h1
    have h3 := loopF_wt ht hb n _ _ _ h
    have h4 := wt_fold x.1 acc
    have h5 := hb _ _ h1
    rw [List.length_drop] at h3
    omega
theorem dblOne_bears {P : Txt → Rs (List Pt)} (hP : BearsL P) : Bears (dblOne P) := by
  intro s x h
  cases s with
  | nil => cases h
  | cons c r =>
    simp only [dblOne] at h
    split at h
    · rename_i hc
      subst hc
      obtain ⟨y, h1, h⟩ := Rs.and_ok h
      injection h with h
      have := dollarF_wt hP h1
      rw [← h]
      simpa [wtL] using this
    · split at h
      · injection h with h
        rw [← h]
        simp only [wtL, tx_wt, List.length_take]
        omega
      · injection h with h
        rw [← h]
        simp [wtL, tx_wt]
theorem dblF_wt {P : Txt → Rs (List Pt)} (hP : BearsL P) {s : Txt} {l : List Pt} (h : dblF P s = .ok l) : wtL l ≤ 12 * s.length + 8 := by
  unfold dblF at h
  split at h
  · injection h with h
    rw [← h]
    simp [wtL, tx_wt]
  · have := loopF_wt (dblOne_takes P) (dblOne_bears hP) _ _ _ _ h
    simp only [wtL] at this
    omega
theorem quote_len {c : UInt8} {r t : Txt} (hc : c = 39 ∨ c = 34) (h : unitD 30 (c :: r) = some t) : t.length + 1 ≤ r.length := by
  rcases hc with rfl | rfl
  · have : quoteEnd r = some t := h
    have := quoteEnd_length this
    omega
  · have : untilD 29 34 r = some t := h
    have := untilD_takes 29 34 _ _ this
    omega
theorem outOne_bears {P : Txt → Rs (List Pt)} (hP : BearsL P) : Bears (outOne P) := by
  intro s x h
  cases s with
  | nil => cases h
  | cons c r =>
    simp only [outOne] at h
    split at h
    · rename_i hc
      subst hc
      obtain ⟨y, h1, h⟩ := Rs.and_ok h
      injection h with h
      have := dollarF_wt hP h1
      rw [← h]
      simpa [wtL] using this
    · split at h
      · split at h
        · cases h
        · rename_i hc t ht
          split at h
          · injection h with h
            rw [← h]
            simp only [wtL, tx_wt, List.length_take]
            omega
          · rename_i h92
            have hq := quote_len (Or.resolve_left (by assumption) h92) ht
            split at h
            · obtain ⟨l, h3, h⟩ := Rs.and_ok h
              injection h with h
              have h4 := dblF_wt hP h3
              rw [List.length_take] at h4
              rw [← h]
              dsimp only
              omega
            · injection h with h
              rw [← h]
              simp only [wtL, tx_wt, List.length_take]
              omega
      · injection h with h
        rw [← h]
        simp [wtL, tx_wt]
theorem wpL_wt : ∀ L : Nat, BearsL (wpL L)
  | 0 => fun s l h => by cases h
  | L + 1 => fun s l h => by
    have := loopF_wt (outOne_takes _) (outOne_bears (wpL_wt L)) _ _ _ _ h
    simpa [wtL] using this
inductive Nd where
  | mk (k : Int) (neg : Bool) (nm : Txt) (ws : List (List Pt)) (as : List (Txt × List Pt)) (rs : List (Txt × List Pt)) (os : List Txt) (ks : List Nd)
namespace Nd
def k : Nd → Int
  | .mk k _ _ _ _ _ _ _ => k
def neg : Nd → Bool
  | .mk _ x _ _ _ _ _ _ => x
def nm : Nd → Txt
  | .mk _ _ x _ _ _ _ _ => x
def ws : Nd → List (List Pt)
  | .mk _ _ _ x _ _ _ _ => x
def as : Nd → List (Txt × List Pt)
  | .mk _ _ _ _ x _ _ _ => x
def rs : Nd → List (Txt × List Pt)
  | .mk _ _ _ _ _ x _ _ => x
def os : Nd → List Txt
  | .mk _ _ _ _ _ _ x _ => x
def ks : Nd → List Nd
  | .mk _ _ _ _ _ _ _ x => x
end Nd
theorem Nd.eta (p : Nd) : Nd.mk p.k p.neg p.nm p.ws p.as p.rs p.os p.ks = p := by cases p; rfl
abbrev Ts := List (Nat × Txt)
abbrev Pr (α : Type) := Ts → Rs (α × Ts)
def many {σ α : Type} (step : σ → Ts → Rs ((σ × Ts) ⊕ (α × Ts))) : Nat → σ → Pr α
  | 0, _, _ => .bad 0
  | n + 1, a, s => (step a s).and fun x => match x with
    | .inl y => many step n y.1 y.2
    | .inr y => .ok y
def Sinks {σ α : Type} (step : σ → Ts → Rs ((σ × Ts) ⊕ (α × Ts))) : Prop := ∀ a s x, step a s = .ok x → match x with
  | .inl y => y.2.length < s.length
  | .inr y => y.2.length ≤ s.length
def manyF {σ α : Type} (step : σ → Ts → Rs ((σ × Ts) ⊕ (α × Ts))) (a : σ) : Pr α := fun s => many step (s.length + 1) a s
theorem many_more {σ α : Type} {step : σ → Ts → Rs ((σ × Ts) ⊕ (α × Ts))} (hs : Sinks step) : ∀ (n m : Nat) (a : σ) (s : Ts), s.length < n → s.length < m → many step n a s = many step m a s
  | 0, _, _, _, h, _ => by omega
  | _, 0, _, _, _, h => by omega
  | n + 1, m + 1, a, s, h1, h2 => by
    simp only [many]
    cases h : step a s with
    | bad e => rfl
    | ok x =>
      have h3 := hs _ _ _ h
      cases x with
      | inr y => rfl
      | inl y =>
        have h3 : y.2.length < s.length := h3
        exact many_more hs n m y.1 y.2 (by omega) (by omega)
theorem manyF_step {σ α : Type} {step : σ → Ts → Rs ((σ × Ts) ⊕ (α × Ts))} (hs : Sinks step) (a : σ) (s : Ts) : manyF step a s = (step a s).and fun x => match x with
    | .inl y => manyF step y.1 y.2
    | .inr y => .ok y := by
  show ((step a s).and fun x => match x with
    | .inl y => many step s.length y.1 y.2
    | .inr y => .ok y) = _
  cases h : step a s with
  | bad e => rfl
  | ok x =>
    have h3 := hs _ _ _ h
    cases x with
    | inr y => rfl
    | inl y =>
      have h3 : y.2.length < s.length := h3
      exact many_more hs _ _ y.1 y.2 (by omega) (by omega)
def Less {α : Type} (f : Pr α) : Prop := ∀ s x, f s = .ok x → x.2.length ≤ s.length
def Eats {α : Type} (f : Pr α) : Prop := ∀ s x, f s = .ok x → x.2.length < s.length
theorem many_less {σ α : Type} {step : σ → Ts → Rs ((σ × Ts) ⊕ (α × Ts))} (hs : Sinks step) : ∀ (n : Nat) (a : σ) (s : Ts) (x : α × Ts), many step n a s = .ok x → x.2.length ≤ s.length
  | 0, _, _, _, h => by cases h
  | n + 1, a, s, x, h => by
    simp only [many] at h
    obtain ⟨y, h1, h⟩ := Rs.and_ok h
    have h3 := hs _ _ _ h1
    cases y with
    | inr y =>
      injection h with h
      subst h
      exact h3
    | inl y =>
      have h3 : y.2.length < s.length := h3
      have := many_less hs n _ _ _ h
      omega
theorem manyF_less {σ α : Type} {step : σ → Ts → Rs ((σ × Ts) ⊕ (α × Ts))} (hs : Sinks step) (a : σ) : Less (manyF step a) := fun s x h => many_less hs _ a s x h
def isT (k : Nat) (t : Txt) (s : Ts) : Bool := decide (s.head? = some (k, t))
def isW : Ts → Bool
  | (k, _) :: _ => decide (k = 0)
  | [] => false
def lineT : Nat × Txt := (2, [10])
def linesF : Ts → Ts
  | [] => []
  | x :: r => if x = lineT then linesF r else x :: r
abbrev tSemi : Txt := [59]
abbrev tSemi2 : Txt := [59, 59]
abbrev tOpen : Txt := [40]
abbrev tShut : Txt := [41]
abbrev tPipe : Txt := [124]
abbrev tAnd : Txt := [38, 38]
abbrev tOr : Txt := [124, 124]
abbrev tLess : Txt := [60]
abbrev tMore : Txt := [62]
abbrev tMore2 : Txt := [62, 62]
abbrev tBang : Txt := [33]
abbrev tBrace : Txt := [123]
abbrev tEcarb : Txt := [125]
abbrev tIf : Txt := [105, 102]
abbrev tThen : Txt := [116, 104, 101, 110]
abbrev tElif : Txt := [101, 108, 105, 102]
abbrev tElse : Txt := [101, 108, 115, 101]
abbrev tFi : Txt := [102, 105]
abbrev tDo : Txt := [100, 111]
abbrev tDone : Txt := [100, 111, 110, 101]
abbrev tEsac : Txt := [101, 115, 97, 99]
abbrev tWhile : Txt := [119, 104, 105, 108, 101]
abbrev tUntil : Txt := [117, 110, 116, 105, 108]
abbrev tFor : Txt := [102, 111, 114]
abbrev tIn : Txt := [105, 110]
abbrev tCase : Txt := [99, 97, 115, 101]
def closL : List Txt := [tThen, tElif, tElse, tFi, tDo, tDone, tEsac, tEcarb]
def endsF : Ts → Bool
  | [] => true
  | (k, t) :: _ => (decide (k = 1) && (decide (t = tShut) || decide (t = tSemi2))) || (decide (k = 0) && closL.contains t)
def isName (t : Txt) : Bool := decide (t ≠ [] ∧ nameN t = t.length)
def partsF : Pr (List Pt)
  | (k, t) :: r => if k = 0 then (wpL 30 t).and fun l => .ok (l, r) else .bad 100
  | [] => .bad 100
def redirB (s : Ts) : Bool := isT 1 tLess s || isT 1 tMore s || isT 1 tMore2 s
def redirF : Pr (Txt × List Pt)
  | (_, op) :: r => (partsF r).and fun x => .ok ((op, x.1), x.2)
  | [] => .bad 100
def redirsS (acc : List (Txt × List Pt)) (s : Ts) : Rs ((List (Txt × List Pt) × Ts) ⊕ (List (Txt × List Pt) × Ts)) :=
  if redirB s = true then (redirF s).and fun x => .ok (.inl (acc ++ [x.1], x.2)) else .ok (.inr (acc, s))
def asgF (t : Txt) : Option (Txt × Txt) := if 0 < nameN t ∧ t[nameN t]? = some 61 then some (t.take (nameN t), t.drop (nameN t + 1)) else none
def simpleS (a : List (List Pt) × List (Txt × List Pt) × List (Txt × List Pt)) (s : Ts) : Rs (((List (List Pt) × List (Txt × List Pt) × List (Txt × List Pt)) × Ts) ⊕ (Nd × Ts)) :=
  if redirB s = true then (redirF s).and fun x => .ok (.inl ((a.1, a.2.1, a.2.2 ++ [x.1]), x.2))
  else match s with
  | (k, t) :: r =>
    if k = 0 then match (if a.1 = [] then asgF t else none) with
      | some y => (wpL 30 y.2).and fun l => .ok (.inl ((a.1, a.2.1 ++ [(y.1, l)], a.2.2), r))
      | none => (wpL 30 t).and fun l => .ok (.inl ((a.1 ++ [l], a.2.1, a.2.2), r))
    else if a.1.length + a.2.1.length + a.2.2.length = 0 then .bad 100 else .ok (.inr (.mk 0 false [] a.1 a.2.1 a.2.2 [] [], (k, t) :: r))
  | [] => if a.1.length + a.2.1.length + a.2.2.length = 0 then .bad 100 else .ok (.inr (.mk 0 false [] a.1 a.2.1 a.2.2 [] [], []))
def simpleF : Pr Nd := manyF simpleS ([], [], [])
def pipeN (neg : Bool) : List Nd → Nd
  | [k] => if neg = true then .mk 1 true [] [] [] [] [] [k] else k
  | ks => .mk 1 neg [] [] [] [] [] ks
def pipeS (cmd : Pr Nd) (neg : Bool) (ks : List Nd) (s : Ts) : Rs ((List Nd × Ts) ⊕ (Nd × Ts)) :=
  if isT 1 tPipe s = true then (cmd (linesF s.tail)).and fun x => .ok (.inl (ks ++ [x.1], x.2)) else .ok (.inr (pipeN neg ks, s))
def pipeF (cmd : Pr Nd) : Pr Nd := fun s =>
  (cmd (if isT 0 tBang s = true then s.tail else s)).and fun x => manyF (pipeS cmd (isT 0 tBang s)) [x.1] x.2
def andN (os : List Txt) (ks : List Nd) : Nd := match os with
  | [] => match ks with
    | [k] => k
    | ks => .mk 2 false [] [] [] [] [] ks
  | os => .mk 2 false [] [] [] [] os ks
def andB (s : Ts) : Bool := isT 1 tAnd s || isT 1 tOr s
def andS (cmd : Pr Nd) (a : List Txt × List Nd) (s : Ts) : Rs (((List Txt × List Nd) × Ts) ⊕ (Nd × Ts)) := match s with
  | (k, t) :: r => if andB ((k, t) :: r) = true then (pipeF cmd (linesF r)).and fun x => .ok (.inl ((a.1 ++ [t], a.2 ++ [x.1]), x.2)) else .ok (.inr (andN a.1 a.2, (k, t) :: r))
  | [] => .ok (.inr (andN a.1 a.2, []))
def andF (cmd : Pr Nd) : Pr Nd := fun s => (pipeF cmd s).and fun x => manyF (andS cmd) ([], [x.1]) x.2
def listN (ks : List Nd) : Nd := .mk 3 false [] [] [] [] [] ks
def listS (cmd : Pr Nd) (ks : List Nd) (s : Ts) : Rs ((List Nd × Ts) ⊕ (Nd × Ts)) :=
  if endsF s = true then .ok (.inr (listN ks, s))
  else (andF cmd s).and fun x =>
    if isT 1 tSemi x.2 = true then .ok (.inl (ks ++ [x.1], linesF x.2.tail))
    else if isT 2 [10] x.2 = true then .ok (.inl (ks ++ [x.1], linesF x.2))
    else .ok (.inr (listN (ks ++ [x.1]), x.2))
def listF (cmd : Pr Nd) : Pr Nd := fun s => manyF (listS cmd) [] (linesF s)
def someF (cmd : Pr Nd) : Pr Nd := fun s => (listF cmd s).and fun x => if x.1.ks = [] then .bad 100 else .ok x
def tookF (k : Nat) (t : Txt) (x : Nd × Ts) : Rs (Nd × Ts) := if isT k t x.2 = true then .ok (x.1, x.2.tail) else .bad 100
def insideF (cmd : Pr Nd) (kind : Int) (k : Nat) (t : Txt) : Pr Nd := fun s => (someF cmd s).and fun x => tookF k t (.mk kind false [] [] [] [] [] [x.1], x.2)
def branchF (cmd br : Pr Nd) : Pr Nd := fun s =>
  (someF cmd s).and fun c => (tookF 0 tThen c).and fun c => (someF cmd c.2).and fun t =>
    if isT 0 tElif t.2 = true then (br t.2.tail).and fun x => .ok (.mk 6 false [] [] [] [] [] [c.1, t.1, listN [x.1]], x.2)
    else if isT 0 tElse t.2 = true then (someF cmd t.2.tail).and fun x => .ok (.mk 6 false [] [] [] [] [] [c.1, t.1, x.1], x.2)
    else .ok (.mk 6 false [] [] [] [] [] [c.1, t.1], t.2)
def bodyF (cmd : Pr Nd) : Pr Nd := fun s => if isT 0 tDo s = true then (someF cmd s.tail).and fun x => tookF 0 tDone x else .bad 100
def loopSF (cmd : Pr Nd) (nm : Txt) : Pr Nd := fun s => (someF cmd s).and fun c => (bodyF cmd c.2).and fun b => .ok (.mk 7 false nm [] [] [] [] [c.1, b.1], b.2)
def wordsS (acc : List (List Pt)) (s : Ts) : Rs ((List (List Pt) × Ts) ⊕ (List (List Pt) × Ts)) :=
  if isW s = true then (partsF s).and fun x => .ok (.inl (acc ++ [x.1], x.2)) else .ok (.inr (acc, s))
def eachE (cmd : Pr Nd) (nm : Txt) (ws : List (List Pt)) (os : List Txt) : Pr Nd := fun s =>
  (bodyF cmd (linesF (if isT 1 tSemi s = true then s.tail else s))).and fun b => .ok (.mk 8 false nm ws [] [] os [b.1], b.2)
def eachF (cmd : Pr Nd) : Pr Nd
  | (k, t) :: r =>
    if k = 0 ∧ isName t = true then
      if isT 0 tIn (linesF r) = true then (manyF wordsS [] (linesF r).tail).and fun x => if isT 1 tSemi x.2 = true ∨ isT 2 [10] x.2 = true then eachE cmd t x.1 [tIn] x.2 else .bad 100
      else eachE cmd t [] [] (linesF r)
    else .bad 100
  | [] => .bad 100
def orsS (acc : List (List Pt)) (s : Ts) : Rs ((List (List Pt) × Ts) ⊕ (List (List Pt) × Ts)) :=
  if isT 1 tPipe s = true then (partsF s.tail).and fun x => .ok (.inl (acc ++ [x.1], x.2)) else .ok (.inr (acc, s))
def itemF (cmd : Pr Nd) : Pr Nd := fun s =>
  (partsF (if isT 1 tOpen s = true then s.tail else s)).and fun w => (manyF orsS [w.1] w.2).and fun ws =>
    if isT 1 tShut ws.2 = true then (listF cmd ws.2.tail).and fun x => .ok (.mk 10 false [] ws.1 [] [] [] [x.1], x.2) else .bad 100
def caseS (cmd : Pr Nd) (w : List Pt) (ks : List Nd) (s : Ts) : Rs ((List Nd × Ts) ⊕ (Nd × Ts)) :=
  if isT 0 tEsac s = true then .ok (.inr (.mk 9 false [] [w] [] [] [] ks, s.tail))
  else (itemF cmd s).and fun x =>
    if isT 1 tSemi2 x.2 = true then .ok (.inl (ks ++ [x.1], linesF x.2.tail))
    else if isT 0 tEsac x.2 = true then .ok (.inl (ks ++ [x.1], linesF x.2))
    else .bad 100
def casesF (cmd : Pr Nd) : Pr Nd := fun s => (partsF s).and fun w => if isT 0 tIn (linesF w.2) = true then manyF (caseS cmd w.1) [] (linesF (linesF w.2).tail) else .bad 100
def funcB : Ts → Bool
  | (k, t) :: r => decide (k = 0) && isName t && isT 1 tOpen r && isT 1 tShut r.tail
  | [] => false
def defF (cmd : Pr Nd) : Pr Nd
  | (_, t) :: r => (cmd (linesF r.tail.tail)).and fun x => if 4 ≤ x.1.k ∧ x.1.k ≤ 9 then .ok (.mk 11 false t [] [] [] [] [x.1], x.2) else .bad 100
  | [] => .bad 100
def withR (x : Nd × Ts) : Rs (Nd × Ts) := (manyF redirsS [] x.2).and fun y => .ok (.mk x.1.k x.1.neg x.1.nm x.1.ws x.1.as y.1 x.1.os x.1.ks, y.2)
def compF (cmd br : Pr Nd) (s : Ts) : Option (Rs (Nd × Ts)) :=
  if isT 1 tOpen s = true then some (insideF cmd 5 1 tShut s.tail)
  else if isT 0 tBrace s = true then some (insideF cmd 4 0 tEcarb s.tail)
  else if isT 0 tIf s = true then some ((br s.tail).and (tookF 0 tFi))
  else if isT 0 tWhile s = true then some (loopSF cmd tWhile s.tail)
  else if isT 0 tUntil s = true then some (loopSF cmd tUntil s.tail)
  else if isT 0 tFor s = true then some (eachF cmd s.tail)
  else if isT 0 tCase s = true then some (casesF cmd s.tail)
  else none
def resB : Ts → Bool
  | (k, t) :: _ => decide (k = 0) && (closL.contains t || decide (t = tBang))
  | [] => false
def commandF (cmd br : Pr Nd) : Pr Nd := fun s => match compF cmd br s with
  | some x => x.and withR
  | none => if resB s = true then .bad 100 else if funcB s = true then defF cmd s else simpleF s
def lvS : Nat → Pr Nd × Pr Nd
  | 0 => (fun _ => .bad 2, fun _ => .bad 2)
  | L + 1 => (commandF (lvS L).1 (branchF (lvS L).1 (lvS L).2), branchF (lvS L).1 (lvS L).2)
def scriptF (s : Ts) : Rs Nd := (listF (lvS 30).1 s).and fun x => if x.2 = [] then .ok x.1 else .bad 100
theorem linesF_le : ∀ s : Ts, (linesF s).length ≤ s.length
  | [] => Nat.le_refl _
  | x :: r => by
    have := linesF_le r
    simp only [linesF]
    split
    · simp only [List.length_cons]; omega
    · exact Nat.le_refl _
theorem isT_cons {k : Nat} {t : Txt} {s : Ts} (h : isT k t s = true) : s = (k, t) :: s.tail := by
  have h := of_decide_eq_true h
  cases s with
  | nil => cases h
  | cons a r => rw [Option.some.inj h]; rfl
theorem isT_len {k : Nat} {t : Txt} {s : Ts} (h : isT k t s = true) : s.tail.length + 1 = s.length := by
  rw [isT_cons h]
  rfl
theorem tail_le (s : Ts) : s.tail.length ≤ s.length := by rw [List.length_tail]; omega
theorem partsF_eats : Eats partsF := by
  intro s x h
  match s with
  | [] => cases h
  | (k, t) :: r =>
    simp only [partsF] at h
    split at h
    · obtain ⟨l, _, h⟩ := Rs.and_ok h
      injection h with h
      subst h
      exact Nat.lt_succ_self _
    · cases h
theorem redirF_eats : Eats redirF := by
  intro s x h
  match s with
  | [] => cases h
  | (k, t) :: r =>
    simp only [redirF] at h
    obtain ⟨l, h1, h⟩ := Rs.and_ok h
    injection h with h
    subst h
    have := partsF_eats _ _ h1
    simp only [List.length_cons]
    omega
theorem redirsS_sinks : Sinks redirsS := by
  intro a s x h
  unfold redirsS at h
  split at h
  · obtain ⟨l, h1, h⟩ := Rs.and_ok h
    injection h with h
    subst h
    exact redirF_eats _ _ h1
  · injection h with h
    subst h
    exact Nat.le_refl _
theorem simpleS_sinks : Sinks simpleS := by
  intro a s x h
  unfold simpleS at h
  split at h
  · obtain ⟨l, h1, h⟩ := Rs.and_ok h
    injection h with h
    subst h
    exact redirF_eats _ _ h1
  · split at h
    · split at h
      · split at h <;> (obtain ⟨l, h1, h⟩ := Rs.and_ok h; injection h with h; subst h; exact Nat.lt_succ_self _)
      · split at h
        · cases h
        · injection h with h
          subst h
          exact Nat.le_refl _
    · split at h
      · cases h
      · injection h with h
        subst h
        exact Nat.le_refl _
theorem simpleF_eats : Eats simpleF := by
  intro s x h
  unfold simpleF at h
  rw [manyF_step simpleS_sinks] at h
  obtain ⟨y, h1, h⟩ := Rs.and_ok h
  have h2 := simpleS_sinks _ _ _ h1
  cases y with
  | inl y =>
    have h2 : y.2.length < s.length := h2
    have := manyF_less simpleS_sinks _ _ _ h
    omega
  | inr y =>
    exfalso
    unfold simpleS at h1
    split at h1
    · obtain ⟨l, _, h1⟩ := Rs.and_ok h1
      cases h1
    · split at h1
      · split at h1
        · split at h1 <;> (obtain ⟨l, _, h1⟩ := Rs.and_ok h1; cases h1)
        · simp at h1
      · simp at h1
theorem pipeS_sinks {cmd : Pr Nd} (hc : Eats cmd) (neg : Bool) : Sinks (pipeS cmd neg) := by
  intro a s x h
  unfold pipeS at h
  split at h
  · rename_i hp
    obtain ⟨l, h1, h⟩ := Rs.and_ok h
    injection h with h
    subst h
    have h2 := hc _ _ h1
    have h3 := linesF_le s.tail
    have h4 := isT_len hp
    show l.2.length < s.length
    omega
  · injection h with h
    subst h
    exact Nat.le_refl _
theorem pipeF_eats {cmd : Pr Nd} (hc : Eats cmd) : Eats (pipeF cmd) := by
  intro s x h
  obtain ⟨y, h1, h⟩ := Rs.and_ok h
  have h2 := hc _ _ h1
  have h3 := manyF_less (pipeS_sinks hc _) _ _ _ h
  have h4 := tail_le s
  split at h2 <;> omega
theorem andS_sinks {cmd : Pr Nd} (hc : Eats cmd) : Sinks (andS cmd) := by
  intro a s x h
  unfold andS at h
  split at h
  · split at h
    · obtain ⟨l, h1, h⟩ := Rs.and_ok h
      injection h with h
      subst h
      have h2 := pipeF_eats hc _ _ h1
      rename_i r _
      have h3 := linesF_le r
      show l.2.length < _
      simp only [List.length_cons]
      omega
    · injection h with h
      subst h
      exact Nat.le_refl _
  · injection h with h
    subst h
    exact Nat.le_refl _
theorem andF_eats {cmd : Pr Nd} (hc : Eats cmd) : Eats (andF cmd) := by
  intro s x h
  obtain ⟨y, h1, h⟩ := Rs.and_ok h
  have h2 := pipeF_eats hc _ _ h1
  have h3 := manyF_less (andS_sinks hc) _ _ _ h
  omega
theorem listS_sinks {cmd : Pr Nd} (hc : Eats cmd) : Sinks (listS cmd) := by
  intro a s x h
  unfold listS at h
  split at h
  · injection h with h
    subst h
    exact Nat.le_refl _
  · obtain ⟨y, h1, h⟩ := Rs.and_ok h
    have h2 := andF_eats hc _ _ h1
    have h3 := linesF_le y.2
    have h4 := linesF_le y.2.tail
    have h5 := tail_le y.2
    split at h
    · injection h with h
      subst h
      show (linesF y.2.tail).length < _
      omega
    · split at h
      · injection h with h
        subst h
        show (linesF y.2).length < _
        omega
      · injection h with h
        subst h
        exact Nat.le_of_lt h2
theorem listF_less {cmd : Pr Nd} (hc : Eats cmd) : Less (listF cmd) := by
  intro s x h
  have h1 := manyF_less (listS_sinks hc) _ _ _ h
  have := linesF_le s
  omega
theorem someF_less {cmd : Pr Nd} (hc : Eats cmd) : Less (someF cmd) := by
  intro s x h
  obtain ⟨y, h1, h⟩ := Rs.and_ok h
  split at h
  · cases h
  · injection h with h
    subst h
    exact listF_less hc _ _ h1
theorem tookF_eats {k : Nat} {t : Txt} {x y : Nd × Ts} (h : tookF k t x = .ok y) : y.2.length < x.2.length ∧ y.1 = x.1 := by
  unfold tookF at h
  split at h
  · rename_i hp
    injection h with h
    subst h
    have := isT_len hp
    exact ⟨by dsimp only; omega, rfl⟩
  · cases h
theorem insideF_eats {cmd : Pr Nd} (hc : Eats cmd) (kind : Int) (k : Nat) (t : Txt) : Eats (insideF cmd kind k t) := by
  intro s x h
  obtain ⟨y, h1, h⟩ := Rs.and_ok h
  have h2 := someF_less hc _ _ h1
  have h3 := (tookF_eats h).1
  dsimp only at h3
  omega
theorem branchF_eats {cmd br : Pr Nd} (hc : Eats cmd) (hb : Eats br) : Eats (branchF cmd br) := by
  intro s x h
  obtain ⟨c, h1, h⟩ := Rs.and_ok h
  obtain ⟨c', h2, h⟩ := Rs.and_ok h
  obtain ⟨t, h3, h⟩ := Rs.and_ok h
  have g1 := someF_less hc _ _ h1
  have g2 := (tookF_eats h2).1
  have g3 := someF_less hc _ _ h3
  have g4 := tail_le t.2
  split at h
  · obtain ⟨y, h4, h⟩ := Rs.and_ok h
    injection h with h
    subst h
    have := hb _ _ h4
    dsimp only
    omega
  · split at h
    · obtain ⟨y, h4, h⟩ := Rs.and_ok h
      injection h with h
      subst h
      have := someF_less hc _ _ h4
      dsimp only
      omega
    · injection h with h
      subst h
      dsimp only
      omega
theorem bodyF_eats {cmd : Pr Nd} (hc : Eats cmd) : Eats (bodyF cmd) := by
  intro s x h
  unfold bodyF at h
  split at h
  · rename_i hp
    obtain ⟨y, h1, h⟩ := Rs.and_ok h
    have h2 := someF_less hc _ _ h1
    have h3 := (tookF_eats h).1
    have h4 := tail_le s
    omega
  · cases h
theorem loopSF_eats {cmd : Pr Nd} (hc : Eats cmd) (nm : Txt) : Eats (loopSF cmd nm) := by
  intro s x h
  obtain ⟨c, h1, h⟩ := Rs.and_ok h
  obtain ⟨b, h2, h⟩ := Rs.and_ok h
  injection h with h
  subst h
  have g1 := someF_less hc _ _ h1
  have g2 := bodyF_eats hc _ _ h2
  dsimp only
  omega
theorem wordsS_sinks : Sinks wordsS := by
  intro a s x h
  unfold wordsS at h
  split at h
  · obtain ⟨l, h1, h⟩ := Rs.and_ok h
    injection h with h
    subst h
    exact partsF_eats _ _ h1
  · injection h with h
    subst h
    exact Nat.le_refl _
theorem eachE_eats {cmd : Pr Nd} (hc : Eats cmd) (nm : Txt) (ws : List (List Pt)) (os : List Txt) : Eats (eachE cmd nm ws os) := by
  intro s x h
  obtain ⟨b, h2, h⟩ := Rs.and_ok h
  injection h with h
  subst h
  have g2 := bodyF_eats hc _ _ h2
  have g3 := linesF_le (if isT 1 tSemi s = true then s.tail else s)
  have g4 := tail_le s
  dsimp only
  split at g3 <;> simp_all <;> omega
theorem eachF_eats {cmd : Pr Nd} (hc : Eats cmd) : Eats (eachF cmd) := by
  intro s x h
  match s with
  | [] => cases h
  | (k, t) :: r =>
    have g1 := linesF_le r
    have g2 := tail_le (linesF r)
    simp only [eachF] at h
    split at h
    · split at h
      · obtain ⟨y, h1, h⟩ := Rs.and_ok h
        have g3 := manyF_less wordsS_sinks _ _ _ h1
        split at h
        · have g4 := eachE_eats hc _ _ _ _ _ h
          simp only [List.length_cons]
          omega
        · cases h
      · have g4 := eachE_eats hc _ _ _ _ _ h
        simp only [List.length_cons]
        omega
    · cases h
theorem orsS_sinks : Sinks orsS := by
  intro a s x h
  unfold orsS at h
  split at h
  · obtain ⟨l, h1, h⟩ := Rs.and_ok h
    injection h with h
    subst h
    have := partsF_eats _ _ h1
    have := tail_le s
    show l.2.length < s.length
    omega
  · injection h with h
    subst h
    exact Nat.le_refl _
theorem itemF_eats {cmd : Pr Nd} (hc : Eats cmd) : Eats (itemF cmd) := by
  intro s x h
  obtain ⟨w, h1, h⟩ := Rs.and_ok h
  obtain ⟨ws, h2, h⟩ := Rs.and_ok h
  have g1 := partsF_eats _ _ h1
  have g2 := manyF_less orsS_sinks _ _ _ h2
  have g3 := tail_le s
  have g4 := tail_le ws.2
  split at h
  · obtain ⟨y, h3, h⟩ := Rs.and_ok h
    injection h with h
    subst h
    have g5 := listF_less hc _ _ h3
    dsimp only
    split at g1 <;> omega
  · cases h
theorem caseS_sinks {cmd : Pr Nd} (hc : Eats cmd) (w : List Pt) : Sinks (caseS cmd w) := by
  intro a s x h
  unfold caseS at h
  split at h
  · injection h with h
    subst h
    exact tail_le s
  · obtain ⟨y, h1, h⟩ := Rs.and_ok h
    have h2 := itemF_eats hc _ _ h1
    have h3 := linesF_le y.2
    have h4 := linesF_le y.2.tail
    have h5 := tail_le y.2
    split at h
    · injection h with h
      subst h
      show (linesF y.2.tail).length < _
      omega
    · split at h
      · injection h with h
        subst h
        show (linesF y.2).length < _
        omega
      · cases h
theorem casesF_eats {cmd : Pr Nd} (hc : Eats cmd) : Eats (casesF cmd) := by
  intro s x h
  obtain ⟨w, h1, h⟩ := Rs.and_ok h
  have g1 := partsF_eats _ _ h1
  split at h
  · have g2 := manyF_less (caseS_sinks hc _) _ _ _ h
    have g3 := linesF_le w.2
    have g4 := tail_le (linesF w.2)
    have g5 := linesF_le (linesF w.2).tail
    omega
  · cases h
theorem defF_eats {cmd : Pr Nd} (hc : Eats cmd) : Eats (defF cmd) := by
  intro s x h
  match s with
  | [] => cases h
  | (k, t) :: r =>
    simp only [defF] at h
    obtain ⟨y, h1, h⟩ := Rs.and_ok h
    have g1 := hc _ _ h1
    have g2 := linesF_le r.tail.tail
    have g3 := tail_le r
    have g4 := tail_le r.tail
    split at h
    · injection h with h
      subst h
      simp only [List.length_cons]
      omega
    · cases h
theorem withR_less {x y : Nd × Ts} (h : withR x = .ok y) : y.2.length ≤ x.2.length := by
  obtain ⟨z, h1, h⟩ := Rs.and_ok h
  injection h with h
  subst h
  exact manyF_less redirsS_sinks _ _ _ h1
theorem compF_eats {cmd br : Pr Nd} (hc : Eats cmd) (hb : Eats br) {s : Ts} {f : Rs (Nd × Ts)} (hf : compF cmd br s = some f) {x : Nd × Ts} (h : f = .ok x) : x.2.length < s.length := by
  have g := tail_le s
  unfold compF at hf
  subst h
  split at hf
  · have := insideF_eats hc _ _ _ _ _ (Option.some.inj hf); omega
  split at hf
  · have := insideF_eats hc _ _ _ _ _ (Option.some.inj hf); omega
  split at hf
  · obtain ⟨y, h1, h2⟩ := Rs.and_ok (Option.some.inj hf)
    have g1 := hb _ _ h1
    have g2 := (tookF_eats h2).1
    omega
  split at hf
  · have := loopSF_eats hc _ _ _ (Option.some.inj hf); omega
  split at hf
  · have := loopSF_eats hc _ _ _ (Option.some.inj hf); omega
  split at hf
  · have := eachF_eats hc _ _ (Option.some.inj hf); omega
  split at hf
  · have := casesF_eats hc _ _ (Option.some.inj hf); omega
  · cases hf
theorem commandF_eats {cmd br : Pr Nd} (hc : Eats cmd) (hb : Eats br) : Eats (commandF cmd br) := by
  intro s x h
  unfold commandF at h
  split at h
  · rename_i f hf
    obtain ⟨y, h1, h⟩ := Rs.and_ok h
    have g1 := compF_eats hc hb hf h1
    have g2 := withR_less h
    omega
  · split at h
    · cases h
    · split at h
      · exact defF_eats hc _ _ h
      · exact simpleF_eats _ _ h
theorem lvS_eats : ∀ L, Eats (lvS L).1 ∧ Eats (lvS L).2
  | 0 => ⟨fun s x h => (by cases h), fun s x h => (by cases h)⟩
  | L + 1 => by
    obtain ⟨h1, h2⟩ := lvS_eats L
    have hb := branchF_eats h1 h2
    exact ⟨commandF_eats h1 hb, hb⟩
def Suf {α : Type} (f : Pr α) : Prop := ∀ s x, f s = .ok x → x.2 <:+ s
def SufS {σ α : Type} (step : σ → Ts → Rs ((σ × Ts) ⊕ (α × Ts))) : Prop := ∀ a s x, step a s = .ok x → match x with
  | .inl y => y.2 <:+ s
  | .inr y => y.2 <:+ s
theorem many_suf {σ α : Type} {step : σ → Ts → Rs ((σ × Ts) ⊕ (α × Ts))} (hs : SufS step) : ∀ (n : Nat) (a : σ) (s : Ts) (x : α × Ts), many step n a s = .ok x → x.2 <:+ s
  | 0, _, _, _, h => by cases h
  | n + 1, a, s, x, h => by
    simp only [many] at h
    obtain ⟨y, h1, h⟩ := Rs.and_ok h
    have h3 := hs _ _ _ h1
    cases y with
    | inr y =>
      injection h with h
      subst h
      exact h3
    | inl y => exact (many_suf hs n _ _ _ h).trans h3
theorem manyF_suf {σ α : Type} {step : σ → Ts → Rs ((σ × Ts) ⊕ (α × Ts))} (hs : SufS step) (a : σ) : Suf (manyF step a) := fun s x h => many_suf hs _ a s x h
theorem linesF_suf : ∀ s : Ts, linesF s <:+ s
  | [] => List.suffix_refl _
  | x :: r => by
    simp only [linesF]
    split
    · exact (linesF_suf r).trans (List.suffix_cons _ _)
    · exact List.suffix_refl _
theorem tail_suf (s : Ts) : s.tail <:+ s := List.tail_suffix s
theorem ite_suf (c : Bool) (s : Ts) : (if c = true then s.tail else s) <:+ s := by
  split
  · exact tail_suf s
  · exact List.suffix_refl _
theorem partsF_suf : Suf partsF := by
  intro s x h
  match s with
  | [] => cases h
  | (k, t) :: r =>
    simp only [partsF] at h
    split at h
    · obtain ⟨l, _, h⟩ := Rs.and_ok h
      injection h with h
      subst h
      exact List.suffix_cons _ _
    · cases h
theorem redirF_suf : Suf redirF := by
  intro s x h
  match s with
  | [] => cases h
  | (k, t) :: r =>
    simp only [redirF] at h
    obtain ⟨l, h1, h⟩ := Rs.and_ok h
    injection h with h
    subst h
    exact (partsF_suf _ _ h1).trans (List.suffix_cons _ _)
theorem redirsS_suf : SufS redirsS := by
  intro a s x h
  unfold redirsS at h
  split at h
  · obtain ⟨l, h1, h⟩ := Rs.and_ok h
    injection h with h
    subst h
    exact redirF_suf _ _ h1
  · injection h with h
    subst h
    exact List.suffix_refl _
theorem simpleS_suf : SufS simpleS := by
  intro a s x h
  unfold simpleS at h
  split at h
  · obtain ⟨l, h1, h⟩ := Rs.and_ok h
    injection h with h
    subst h
    exact redirF_suf _ _ h1
  · split at h
    · split at h
      · split at h <;> (obtain ⟨l, h1, h⟩ := Rs.and_ok h; injection h with h; subst h; exact List.suffix_cons _ _)
      · split at h
        · cases h
        · injection h with h
          subst h
          exact List.suffix_refl _
    · split at h
      · cases h
      · injection h with h
        subst h
        exact List.suffix_refl _
theorem simpleF_suf : Suf simpleF := manyF_suf simpleS_suf _
theorem pipeS_suf {cmd : Pr Nd} (hc : Suf cmd) (neg : Bool) : SufS (pipeS cmd neg) := by
  intro a s x h
  unfold pipeS at h
  split at h
  · obtain ⟨l, h1, h⟩ := Rs.and_ok h
    injection h with h
    subst h
    exact (hc _ _ h1).trans ((linesF_suf _).trans (tail_suf s))
  · injection h with h
    subst h
    exact List.suffix_refl _
theorem pipeF_suf {cmd : Pr Nd} (hc : Suf cmd) : Suf (pipeF cmd) := by
  intro s x h
  obtain ⟨y, h1, h⟩ := Rs.and_ok h
  exact (manyF_suf (pipeS_suf hc _) _ _ _ h).trans ((hc _ _ h1).trans (ite_suf _ s))
theorem andS_suf {cmd : Pr Nd} (hc : Suf cmd) : SufS (andS cmd) := by
  intro a s x h
  unfold andS at h
  split at h
  · split at h
    · obtain ⟨l, h1, h⟩ := Rs.and_ok h
      injection h with h
      subst h
      exact (pipeF_suf hc _ _ h1).trans ((linesF_suf _).trans (List.suffix_cons _ _))
    · injection h with h
      subst h
      exact List.suffix_refl _
  · injection h with h
    subst h
    exact List.suffix_refl _
theorem andF_suf {cmd : Pr Nd} (hc : Suf cmd) : Suf (andF cmd) := by
  intro s x h
  obtain ⟨y, h1, h⟩ := Rs.and_ok h
  exact (manyF_suf (andS_suf hc) _ _ _ h).trans (pipeF_suf hc _ _ h1)
theorem listS_suf {cmd : Pr Nd} (hc : Suf cmd) : SufS (listS cmd) := by
  intro a s x h
  unfold listS at h
  split at h
  · injection h with h
    subst h
    exact List.suffix_refl _
  · obtain ⟨y, h1, h⟩ := Rs.and_ok h
    have h2 := andF_suf hc _ _ h1
    split at h
    · injection h with h
      subst h
      exact (linesF_suf _).trans ((tail_suf _).trans h2)
    · split at h
      · injection h with h
        subst h
        exact (linesF_suf _).trans h2
      · injection h with h
        subst h
        exact h2
theorem listF_suf {cmd : Pr Nd} (hc : Suf cmd) : Suf (listF cmd) := fun s x h => (manyF_suf (listS_suf hc) _ _ _ h).trans (linesF_suf s)
theorem someF_suf {cmd : Pr Nd} (hc : Suf cmd) : Suf (someF cmd) := by
  intro s x h
  obtain ⟨y, h1, h⟩ := Rs.and_ok h
  split at h
  · cases h
  · injection h with h
    subst h
    exact listF_suf hc _ _ h1
theorem tookF_suf {k : Nat} {t : Txt} {x y : Nd × Ts} (h : tookF k t x = .ok y) : y.2 <:+ x.2 := by
  unfold tookF at h
  split at h
  · injection h with h
    subst h
    exact tail_suf _
  · cases h
theorem insideF_suf {cmd : Pr Nd} (hc : Suf cmd) (kind : Int) (k : Nat) (t : Txt) : Suf (insideF cmd kind k t) := by
  intro s x h
  obtain ⟨y, h1, h⟩ := Rs.and_ok h
  have g := someF_suf hc _ _ h1
  exact (tookF_suf h).trans g
theorem branchF_suf {cmd br : Pr Nd} (hc : Suf cmd) (hb : Suf br) : Suf (branchF cmd br) := by
  intro s x h
  obtain ⟨c, h1, h⟩ := Rs.and_ok h
  obtain ⟨c', h2, h⟩ := Rs.and_ok h
  obtain ⟨t, h3, h⟩ := Rs.and_ok h
  have g := (someF_suf hc _ _ h3).trans ((tookF_suf h2).trans (someF_suf hc _ _ h1))
  split at h
  · obtain ⟨y, h4, h⟩ := Rs.and_ok h
    injection h with h
    subst h
    exact (hb _ _ h4).trans ((tail_suf _).trans g)
  · split at h
    · obtain ⟨y, h4, h⟩ := Rs.and_ok h
      injection h with h
      subst h
      exact (someF_suf hc _ _ h4).trans ((tail_suf _).trans g)
    · injection h with h
      subst h
      exact g
theorem bodyF_suf {cmd : Pr Nd} (hc : Suf cmd) : Suf (bodyF cmd) := by
  intro s x h
  unfold bodyF at h
  split at h
  · obtain ⟨y, h1, h⟩ := Rs.and_ok h
    exact (tookF_suf h).trans ((someF_suf hc _ _ h1).trans (tail_suf s))
  · cases h
theorem loopSF_suf {cmd : Pr Nd} (hc : Suf cmd) (nm : Txt) : Suf (loopSF cmd nm) := by
  intro s x h
  obtain ⟨c, h1, h⟩ := Rs.and_ok h
  obtain ⟨b, h2, h⟩ := Rs.and_ok h
  injection h with h
  subst h
  exact (bodyF_suf hc _ _ h2).trans (someF_suf hc _ _ h1)
theorem wordsS_suf : SufS wordsS := by
  intro a s x h
  unfold wordsS at h
  split at h
  · obtain ⟨l, h1, h⟩ := Rs.and_ok h
    injection h with h
    subst h
    exact partsF_suf _ _ h1
  · injection h with h
    subst h
    exact List.suffix_refl _
theorem eachE_suf {cmd : Pr Nd} (hc : Suf cmd) (nm : Txt) (ws : List (List Pt)) (os : List Txt) : Suf (eachE cmd nm ws os) := by
  intro s x h
  obtain ⟨b, h2, h⟩ := Rs.and_ok h
  injection h with h
  subst h
  exact (bodyF_suf hc _ _ h2).trans ((linesF_suf _).trans (ite_suf _ s))
theorem eachF_suf {cmd : Pr Nd} (hc : Suf cmd) : Suf (eachF cmd) := by
  intro s x h
  match s with
  | [] => cases h
  | (k, t) :: r =>
    simp only [eachF] at h
    split at h
    · split at h
      · obtain ⟨y, h1, h⟩ := Rs.and_ok h
        have g := (manyF_suf wordsS_suf _ _ _ h1).trans ((tail_suf _).trans ((linesF_suf r).trans (List.suffix_cons (k, t) r)))
        split at h
        · exact (eachE_suf hc _ _ _ _ _ h).trans g
        · cases h
      · exact (eachE_suf hc _ _ _ _ _ h).trans ((linesF_suf r).trans (List.suffix_cons (k, t) r))
    · cases h
theorem orsS_suf : SufS orsS := by
  intro a s x h
  unfold orsS at h
  split at h
  · obtain ⟨l, h1, h⟩ := Rs.and_ok h
    injection h with h
    subst h
    exact (partsF_suf _ _ h1).trans (tail_suf s)
  · injection h with h
    subst h
    exact List.suffix_refl _
theorem itemF_suf {cmd : Pr Nd} (hc : Suf cmd) : Suf (itemF cmd) := by
  intro s x h
  obtain ⟨w, h1, h⟩ := Rs.and_ok h
  obtain ⟨ws, h2, h⟩ := Rs.and_ok h
  have g := (manyF_suf orsS_suf _ _ _ h2).trans ((partsF_suf _ _ h1).trans (ite_suf _ s))
  split at h
  · obtain ⟨y, h3, h⟩ := Rs.and_ok h
    injection h with h
    subst h
    exact (listF_suf hc _ _ h3).trans ((tail_suf _).trans g)
  · cases h
theorem caseS_suf {cmd : Pr Nd} (hc : Suf cmd) (w : List Pt) : SufS (caseS cmd w) := by
  intro a s x h
  unfold caseS at h
  split at h
  · injection h with h
    subst h
    exact tail_suf s
  · obtain ⟨y, h1, h⟩ := Rs.and_ok h
    have h2 := itemF_suf hc _ _ h1
    split at h
    · injection h with h
      subst h
      exact (linesF_suf _).trans ((tail_suf _).trans h2)
    · split at h
      · injection h with h
        subst h
        exact (linesF_suf _).trans h2
      · cases h
theorem casesF_suf {cmd : Pr Nd} (hc : Suf cmd) : Suf (casesF cmd) := by
  intro s x h
  obtain ⟨w, h1, h⟩ := Rs.and_ok h
  split at h
  · exact (manyF_suf (caseS_suf hc _) _ _ _ h).trans ((linesF_suf _).trans ((tail_suf _).trans ((linesF_suf _).trans (partsF_suf _ _ h1))))
  · cases h
theorem defF_suf {cmd : Pr Nd} (hc : Suf cmd) : Suf (defF cmd) := by
  intro s x h
  match s with
  | [] => cases h
  | (k, t) :: r =>
    simp only [defF] at h
    obtain ⟨y, h1, h⟩ := Rs.and_ok h
    split at h
    · injection h with h
      subst h
      exact (hc _ _ h1).trans ((linesF_suf _).trans ((tail_suf _).trans ((tail_suf _).trans (List.suffix_cons (k, t) r))))
    · cases h
theorem withR_suf {x y : Nd × Ts} (h : withR x = .ok y) : y.2 <:+ x.2 := by
  obtain ⟨z, h1, h⟩ := Rs.and_ok h
  injection h with h
  subst h
  exact manyF_suf redirsS_suf _ _ _ h1
theorem compF_suf {cmd br : Pr Nd} (hc : Suf cmd) (hb : Suf br) {s : Ts} {f : Rs (Nd × Ts)} (hf : compF cmd br s = some f) {x : Nd × Ts} (h : f = .ok x) : x.2 <:+ s := by
  have g := tail_suf s
  unfold compF at hf
  subst h
  split at hf
  · exact (insideF_suf hc _ _ _ _ _ (Option.some.inj hf)).trans g
  split at hf
  · exact (insideF_suf hc _ _ _ _ _ (Option.some.inj hf)).trans g
  split at hf
  · obtain ⟨y, h1, h2⟩ := Rs.and_ok (Option.some.inj hf)
    exact (tookF_suf h2).trans ((hb _ _ h1).trans g)
  split at hf
  · exact (loopSF_suf hc _ _ _ (Option.some.inj hf)).trans g
  split at hf
  · exact (loopSF_suf hc _ _ _ (Option.some.inj hf)).trans g
  split at hf
  · exact (eachF_suf hc _ _ (Option.some.inj hf)).trans g
  split at hf
  · exact (casesF_suf hc _ _ (Option.some.inj hf)).trans g
  · cases hf
theorem commandF_suf {cmd br : Pr Nd} (hc : Suf cmd) (hb : Suf br) : Suf (commandF cmd br) := by
  intro s x h
  unfold commandF at h
  split at h
  · rename_i f hf
    obtain ⟨y, h1, h⟩ := Rs.and_ok h
    exact (withR_suf h).trans (compF_suf hc hb hf h1)
  · split at h
    · cases h
    · split at h
      · exact defF_suf hc _ _ h
      · exact simpleF_suf _ _ h
theorem lvS_suf : ∀ L, Suf (lvS L).1 ∧ Suf (lvS L).2
  | 0 => ⟨fun s x h => (by cases h), fun s x h => (by cases h)⟩
  | L + 1 => by
    obtain ⟨h1, h2⟩ := lvS_suf L
    have hb := branchF_suf h1 h2
    exact ⟨commandF_suf h1 hb, hb⟩
def TB (s : Ts) : Prop := s.length ≤ 20000 ∧ ∀ x ∈ s, x.2.length < 1000000 ∧ x.2 ≠ [] ∧ x.1 < 1000
theorem TB.suf {s r : Ts} (h : TB s) (hr : r <:+ s) : TB r := ⟨Nat.le_trans hr.length_le h.1, fun x hx => h.2 x (hr.subset hx)⟩
theorem TB.head {k : Nat} {t : Txt} {r : Ts} (h : TB ((k, t) :: r)) : t.length < 1000000 ∧ t ≠ [] := ⟨(h.2 (k, t) (by simp)).1, (h.2 (k, t) (by simp)).2.1⟩
theorem TB.kind {k : Nat} {t : Txt} {r : Ts} (h : TB ((k, t) :: r)) : k < 1000 := (h.2 (k, t) (by simp)).2.2
theorem TB.tail {x : Nat × Txt} {r : Ts} (h : TB (x :: r)) : TB r := h.suf (List.suffix_cons _ _)
end Go.Proofs.YtcoeiiihmpnagaaGreatDoor
