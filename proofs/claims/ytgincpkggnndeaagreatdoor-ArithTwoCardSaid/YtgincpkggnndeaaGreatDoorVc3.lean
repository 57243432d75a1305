/- The verification condition of a function's whole code: regions, tests, loops, joins; 'vc_sound', 'calls_vc'. Conditions: none; no program is named. -/
import Derived.Test.YtgincpkggnndeaaGreatDoorVc2
import Derived.OrdersHeld
namespace Go.Proofs.YtgincpkggnndeaaGreatDoor.Vc
open Go.RowKit

/-- A world that is named. -/
def letW (w : World) (C : World → Prop) : Prop := C w
/-- An append of m elements that stand at q, to a slice that owns its row. -/
def appK (w : World) (e : TypeId) (sz bytes : Nat) (p : Option Addr) (n c : Nat) (q : Option Addr) (m : Nat) (K : Option Addr → Nat → World → Prop) : Prop :=
  ∃ xs news : List Value, Owns w 0 e sz (.slice p n c) n xs ∧ news.length = m * sz ∧ (∀ u ∈ news, u.oneCell' = true) ∧
    (0 < m → ∃ a, q = some a ∧ ∀ j u, news[j]? = some u → w.cell? (a.add j) = some u) ∧ n + m ≤ 9223372036854775807 ∧ (n + m) * bytes ≤ 140737488355328 ∧
    ∀ (p' : Option Addr) (c' : Nat) (w' : World), Owns w' 0 e sz (.slice p' (n + m) c') (n + m) (xs ++ news) → w.grownBy w' (Value.slice p n c).ownBlock →
      Blk p p' (n + m) c c' w.heap.size → K p' c' w'
/-- An append of a text's bytes. -/
def appS (w : World) (e : TypeId) (sz bytes : Nat) (p : Option Addr) (n c : Nat) (b : List UInt8) (K : Option Addr → Nat → World → Prop) : Prop :=
  ∃ xs : List Value, Owns w 0 e sz (.slice p n c) n xs ∧ n + b.length ≤ 9223372036854775807 ∧ (n + b.length) * bytes ≤ 140737488355328 ∧
    ∀ (p' : Option Addr) (c' : Nat) (w' : World), Owns w' 0 e sz (.slice p' (n + b.length) c') (n + b.length) (xs ++ b.map (fun b => Value.int .u8 b.toNat)) → w.grownBy w' (Value.slice p n c).ownBlock →
      Blk p p' (n + b.length) c c' w.heap.size → K p' c' w'

/-! ### Regions -/
def AgreeOff (ws : List Nat) (l l' : Fr) : Prop := l'.length = l.length ∧ ∀ t, t ∉ ws → l'[t]? = l[t]?
theorem AgreeOff.refl (ws : List Nat) (l : Fr) : AgreeOff ws l l := ⟨rfl, fun _ _ => rfl⟩
theorem AgreeOff.trans {ws vs us : List Nat} {a b c : Fr} (h : AgreeOff ws a b) (k : AgreeOff vs b c) (hw : ∀ t ∈ ws, t ∈ us) (hv : ∀ t ∈ vs, t ∈ us) : AgreeOff us a c :=
  ⟨k.1.trans h.1, fun t ht => (k.2 t fun e => ht (hv t e)).trans (h.2 t fun e => ht (hw t e))⟩
theorem AgreeOff.mono {ws us : List Nat} {a b : Fr} (h : AgreeOff ws a b) (hw : ∀ t ∈ ws, t ∈ us) : AgreeOff us a b := ⟨h.1, fun t ht => h.2 t fun e => ht (hw t e)⟩
theorem AgreeOff.put (l : Fr) (d : Option Nat) (v : Value) : AgreeOff d.toList l (put l d v) := by
  cases d with
  | none => exact AgreeOff.refl _ _
  | some d =>
    refine ⟨by simp [Vc.put], fun t ht => ?_⟩
    have : d ≠ t := fun e => ht (by simp [e])
    simp [Vc.put, List.getElem?_set_ne this]
def dsts (ops : List Oper) : List Nat := ops.flatMap fun o => o.dst.toList

def guardK (ops : List Oper) (l : Fr) (g : Option (Nat × Bool)) (A B : Fr → Prop) : Prop := match g with
  | none => A l
  | some (j, want) => match ops[j]? with
    | some o => match o.dst with
      | some d => getK l d fun v => match v with
        | .bool b => bsel b (setK l d (.bool true) fun l' => bsel want (A l') (B l')) (setK l d (.bool false) fun l' => bsel want (B l') (A l'))
        | .tuple _ => B l
        | _ => False
      | none => False
    | none => False
theorem set_same {l : Fr} {d : Nat} {v : Value} (h : l[d]? = some v) : l.set d v = l := by
  apply List.ext_getElem?
  intro i
  by_cases hi : d = i
  · subst hi
    have hd := (List.getElem?_eq_some_iff.1 h).1
    rw [List.getElem?_set_self hd, h]
  · rw [List.getElem?_set_ne hi]
theorem guardK_out {ops : List Oper} {l : Fr} {ds : List Deferred} {o : Oper} {A B : Fr → Prop} (h : guardK ops l o.guard A B) :
    (Region.wanted o (yielded ⟨ops⟩ (act l ds).tmps) = true ∧ A l) ∨ (Region.wanted o (yielded ⟨ops⟩ (act l ds).tmps) = false ∧ B l) := by
  unfold guardK at h
  split at h
  · rename_i hg
    exact .inl ⟨by simp [Region.wanted, hg], h⟩
  · rename_i j want hg
    split at h
    · rename_i oj hj
      split at h
      · rename_i d hd
        obtain ⟨v, hv, h⟩ := getK_out h
        split at h
        · rename_i b
          have hy : yielded ⟨ops⟩ (act l ds).tmps j = some b := by
            simp [yielded, hj, hd, act, hv]
          rw [bsel_iff] at h
          cases b with
          | true =>
            have h2 := setK_out (h.1 rfl)
            rw [set_same hv] at h2
            rw [bsel_iff] at h2
            cases want with
            | true => exact .inl ⟨by simp [Region.wanted, hg, hy], h2.1 rfl⟩
            | false => exact .inr ⟨by simp [Region.wanted, hg, hy], h2.2 rfl⟩
          | false =>
            have h2 := setK_out (h.2 rfl)
            rw [set_same hv] at h2
            rw [bsel_iff] at h2
            cases want with
            | true => exact .inr ⟨by simp [Region.wanted, hg, hy], h2.1 rfl⟩
            | false => exact .inl ⟨by simp [Region.wanted, hg, hy], h2.2 rfl⟩
        · have hy : yielded ⟨ops⟩ (act l ds).tmps j = none := by
            simp [yielded, hj, hd, act, hv]
          exact .inr ⟨by simp [Region.wanted, hg, hy], h⟩
        · exact h.elim
      · exact h.elim
    · exact h.elim

def vcOps (P : Program) (ops : List Oper) (K : Fr → World → Prop) (E : List PanicEntry → World → Prop) : List Oper → Fr → World → Prop
  | [], l, w => K l w
  | o :: r, l, w => guardK ops l o.guard (fun l => opv P l o w (fun v w' => putK l o.dst v fun l' => vcOps P ops K E r l' w') E) (fun l => putK l o.dst undef fun l' => vcOps P ops K E r l' w)
theorem vcOps_sound {P : Program} {ops : List Oper} {ds : List Deferred} {K : Fr → World → Prop} {E : List PanicEntry → World → Prop} {Q : Exit → Act → World → Prop}
    : ∀ {rest : List Oper} {l : Fr} {w : World}, (∀ l' c w', AgreeOff (dsts rest) l l' → E c w' → Q (.panic c) (act l' ds) w') → vcOps P ops K E rest l w →
      (∀ l' w', AgreeOff (dsts rest) l l' → K l' w' → Q .normal (act l' ds) w') → wpList P ⟨ops⟩ Q rest (act l ds) w := by
  intro rest
  induction rest with
  | nil => intro l w hE h hK; exact hK l w (AgreeOff.refl _ _) h
  | cons o r ih =>
    intro l w hE h hK
    have next : ∀ v w', vcOps P ops K E r (put l o.dst v) w' → wpList P ⟨ops⟩ Q r ((act l ds).put o.dst v) w' := by
      intro v w' h
      rw [act_put]
      have step : ∀ {l' : Fr}, AgreeOff (dsts r) (put l o.dst v) l' → AgreeOff (dsts (o :: r)) l l' := by
        intro l' ha
        exact (AgreeOff.put l o.dst v).trans ha (fun t ht => by simp only [dsts, List.flatMap_cons, List.mem_append]; exact .inl ht) (fun t ht => by simp only [dsts, List.flatMap_cons, List.mem_append]; exact .inr ht)
      refine ih (fun l' c w' ha he => hE l' c w' (step ha) he) h fun l' w' ha hk => hK l' w' ?_ hk
      exact (AgreeOff.put l o.dst v).trans ha (fun t ht => by simp only [dsts, List.flatMap_cons, List.mem_append]; exact .inl ht) (fun t ht => by simp only [dsts, List.flatMap_cons, List.mem_append]; exact .inr ht)
    unfold wpList
    rcases guardK_out (ds := ds) h with ⟨hw, h⟩ | ⟨hw, h⟩
    · rw [if_pos hw]
      exact .inl (opv_sound h (fun v w' hk => next v w' (putK_out hk)) (fun c w' he => hE l c w' (AgreeOff.refl _ _) he))
    · rw [if_neg (by simp [hw])]
      exact next undef w (putK_out h)

/-- An operation that is quiet: a call by 'Cl', all else by 'opq'. -/
def qOp (P : Program) (Rd : Addr → Value → Prop) (Cl : FuncId → List Value → Value → Prop) (l : Fr) (o : Oper) (K : Value → Prop) : Prop := match o.op with
  | .call ⟨.value f, ⟨xs⟩, _⟩ => opK l f fun f => calleeK f fun g first cap => opsK l xs fun vs => bsel (callable P g) (exRet P o.type fun v => Cl g (first ++ (vs ++ cap)) v ∧ K v) False
  | _ => opq P l o Rd K
theorem qOp_out {P : Program} {Rd : Addr → Value → Prop} {Cl : FuncId → List Value → Value → Prop} {l : Fr} {ds : List Deferred} {o : Oper} {K : Value → Prop} (h : qOp P Rd Cl l o K) :
    ∃ v, K v ∧ ((∀ w, RdOk Rd w → (execOp (act l ds).eval o).run P w = .ok (.value v) w) ∨ ∃ g args, Cl g args v ∧ ∀ w, (execOp (act l ds).eval o).run P w = .ok (.enter g ⟨args⟩) w) := by
  unfold qOp at h
  split at h
  · rename_i f xs ts ho
    obtain ⟨g, first, cap, hf, h⟩ := calleeK_out (opK_out (ds := ds) h)
    obtain ⟨hc, h⟩ := bsel_true_out (opsK_out (ds := ds) h)
    obtain ⟨v, h1, h2⟩ := exRet_out h
    exact ⟨v, h2, .inr ⟨_, _, h1, fun w => call_run ho hf hc w⟩⟩
  · obtain ⟨v, hk, hr⟩ := opq_out (ds := ds) h
    exact ⟨v, hk, .inl hr⟩
def qOps (P : Program) (ops : List Oper) (Rd : Addr → Value → Prop) (Cl : FuncId → List Value → Value → Prop) (K : Fr → Prop) : List Oper → Fr → Prop
  | [], l => K l
  | o :: r, l => guardK ops l o.guard (fun l => qOp P Rd Cl l o fun v => putK l o.dst v fun l' => qOps P ops Rd Cl K r l') (fun l => putK l o.dst undef fun l' => qOps P ops Rd Cl K r l')
theorem dsts_step {l l' : Fr} {o : Oper} {r : List Oper} {v : Value} (ha : AgreeOff (dsts r) (put l o.dst v) l') : AgreeOff (dsts (o :: r)) l l' :=
  (AgreeOff.put l o.dst v).trans ha (fun t ht => by simp only [dsts, List.flatMap_cons, List.mem_append]; exact .inl ht) (fun t ht => by simp only [dsts, List.flatMap_cons, List.mem_append]; exact .inr ht)
theorem qOps_quiet {P : Program} {ops : List Oper} {ds : List Deferred} {Rd : Addr → Value → Prop} {Cl : FuncId → List Value → Value → Prop} {C : World → Prop} {K : Fr → Prop} {Q : Act → Prop}
    (hR : ∀ w, C w → RdOk Rd w) (hC : ∀ g args v, Cl g args v → ∀ w, C w → Calls P g ⟨args⟩ w fun e w' => e = .returned v ∧ C w') :
    ∀ {rest : List Oper} {l : Fr}, qOps P ops Rd Cl K rest l → (∀ l', AgreeOff (dsts rest) l l' → K l' → Q (act l' ds)) → wpQuiet P ⟨ops⟩ C Q rest (act l ds) := by
  intro rest
  induction rest with
  | nil => intro l h hK; exact hK l (AgreeOff.refl _ _) h
  | cons o r ih =>
    intro l h hK
    have next : ∀ v, qOps P ops Rd Cl K r (put l o.dst v) → wpQuiet P ⟨ops⟩ C Q r ((act l ds).put o.dst v) := by
      intro v h
      rw [act_put]
      exact ih h fun l' ha hk => hK l' (dsts_step ha) hk
    unfold wpQuiet
    rcases guardK_out (ds := ds) h with ⟨hw, h⟩ | ⟨hw, h⟩
    · rw [if_pos hw]
      obtain ⟨v, hk, hr⟩ := qOp_out (ds := ds) h
      refine ⟨v, fun w hw => ?_, next v (putK_out hk)⟩
      unfold Oper.quietAt
      rcases hr with hr | ⟨g, args, hcl, hr⟩
      · rw [hr w (hR w hw)]; exact ⟨rfl, rfl⟩
      · rw [hr w]; exact ⟨rfl, hC g args v hcl w hw⟩
    · rw [if_neg (by simp [hw])]
      exact next undef (putK_out h)
theorem qOps_still {P : Program} {ops : List Oper} {ds : List Deferred} {Rd : Addr → Value → Prop} {Cl : FuncId → List Value → Value → Prop} {w : World} {K : Fr → Prop} {Q : Act → Prop}
    (hR : RdOk Rd w) (hC : ∀ g args v, Cl g args v → Calls P g ⟨args⟩ w fun e w' => e = .returned v ∧ w' = w) :
    ∀ {rest : List Oper} {l : Fr}, qOps P ops Rd Cl K rest l → (∀ l', AgreeOff (dsts rest) l l' → K l' → Q (act l' ds)) → wpStill P ⟨ops⟩ w Q rest (act l ds) := by
  intro rest
  induction rest with
  | nil => intro l h hK; exact hK l (AgreeOff.refl _ _) h
  | cons o r ih =>
    intro l h hK
    have next : ∀ v, qOps P ops Rd Cl K r (put l o.dst v) → wpStill P ⟨ops⟩ w Q r ((act l ds).put o.dst v) := by
      intro v h
      rw [act_put]
      exact ih h fun l' ha hk => hK l' (dsts_step ha) hk
    unfold wpStill
    rcases guardK_out (ds := ds) h with ⟨hw, h⟩ | ⟨hw, h⟩
    · rw [if_pos hw]
      obtain ⟨v, hk, hr⟩ := qOp_out (ds := ds) h
      unfold Oper.still
      rcases hr with hr | ⟨g, args, hcl, hr⟩
      · rw [hr w hR]; exact ⟨rfl, next v (putK_out hk)⟩
      · rw [hr w]; exact ⟨rfl, v, hC g args v hcl, next v (putK_out hk)⟩
    · rw [if_neg (by simp [hw])]
      exact next undef (putK_out h)

/-! ### A region that draws its order, with operations that turn the world: what only reads is taken first, under a condition S on the world; an operation that turns the world must leave S wherever something may be read behind it -/
def isLoad : Op → Bool
  | .load .. | .convert .. => true
  | _ => false
def isQuiet : Op → Bool
  | .move _ | .assign _ | .pick .. | .load .. | .nilCheck _ | .binOp .. | .unOp .. | .convert .. | .slice .. | .fieldAddr .. | .field .. | .indexAddr .. | .index .. | .extract .. | .makeInterface .. | .makeFunc .. | .build .. => true
  | .call ⟨.builtin .len, _, _⟩ | .call ⟨.builtin .cap, _, _⟩ | .call ⟨.builtin .max, _, _⟩ | .call ⟨.builtin .min, _, _⟩ => true
  | _ => false
def loadAtB (ops : List Oper) (i : Nat) : Bool := match ops[i]? with
  | some o => isLoad o.op
  | none => false
/-- Must i have come up ahead of j? (As far as 'fuel' edges tell.) -/
def ancB (ops : List Oper) : Nat → Nat → Nat → Bool
  | 0, _, _ => false
  | n + 1, j, i => match ops[j]? with
    | some o => o.after.toList.any fun e => Region.binds .any e && (Nat.beq e.on i || ancB ops n e.on i)
    | none => false
def needB (ops : List Oper) (j : Nat) : Bool := (List.range ops.length).any fun i => loadAtB ops i && !Nat.beq i j && !ancB ops ops.length j i
def Closed (ops : List Oper) (listed : Array Bool) : Prop := ∀ j o, ops[j]? = some o → listed.getD j false = true → ∀ e ∈ o.after, Region.binds .any e = true → listed.getD e.on false = true
theorem anc_closed {ops : List Oper} {listed : Array Bool} {i : Nat} (hc : Closed ops listed) (hi : listed.getD i false = false) : ∀ (n j : Nat), (listed.getD j false = true ∨ j ∈ Region.ready .any ⟨ops⟩ listed) → ancB ops n j i = false := by
  intro n
  induction n with
  | zero => intro j _; rfl
  | succ n ih =>
    intro j hj
    unfold ancB
    cases ho : ops[j]? with
    | none => rfl
    | some o =>
      have hall : ∀ e ∈ o.after, Region.binds .any e = true → listed.getD e.on false = true := by
        rcases hj with hj | hj
        · exact hc j o ho hj
        · obtain ⟨_, o', ho', hall⟩ := mem_ready.1 hj
          have : o' = o := by
            have h2 : ops[j]? = some o' := by simpa using ho'
            rw [ho] at h2
            exact (Option.some.inj h2).symm
          subst this
          exact hall
      simp only
      rw [List.any_eq_false]
      intro e he hb
      rw [Bool.and_eq_true] at hb
      have hl := hall e (by simpa using he) hb.1
      rw [Bool.or_eq_true] at hb
      rcases hb.2 with hb | hb
      · have := Nat.eq_of_beq_eq_true hb
        rw [this, hi] at hl
        cases hl
      · rw [ih e.on (.inl hl)] at hb
        cases hb
theorem closed_set {ops : List Oper} {listed : Array Bool} {j : Nat} (hc : Closed ops listed) (hj : j ∈ Region.ready .any ⟨ops⟩ listed) : Closed ops (listed.setIfInBounds j true) := by
  intro k o hk hl e he hb
  by_cases hkj : k = j
  · subst hkj
    obtain ⟨_, o', ho', hall⟩ := mem_ready.1 hj
    have : o' = o := by
      have h2 : ops[k]? = some o' := by simpa using ho'
      rw [hk] at h2
      exact (Option.some.inj h2).symm
    subst this
    exact getD_set_true (hall e he hb)
  · rw [getD_set_ne false (Ne.symm hkj)] at hl
    exact getD_set_true (hc k o hk hl e he hb)
theorem unlisted {listed : Array Bool} {i : Nat} (h : listed.getD i true = false) : listed.getD i false = false := by
  rcases Nat.lt_or_ge i listed.size with h' | h'
  · simp [h'] at h ⊢; exact h
  · simp [Array.getElem?_eq_none h'] at h
theorem need_of {ops : List Oper} {listed : Array Bool} {i j : Nat} (hc : Closed ops listed) (hi : listed.getD i true = false) (hne : j ≠ i) (hl : loadAtB ops i = true) (hj : j ∈ Region.ready .any ⟨ops⟩ listed) : needB ops j = true := by
  unfold needB
  rw [List.any_eq_true]
  have hlt : i < ops.length := by
    unfold loadAtB at hl
    split at hl
    · rename_i o ho; exact (List.getElem?_eq_some_iff.1 ho).1
    · cases hl
  refine ⟨i, List.mem_range.2 hlt, ?_⟩
  rw [Bool.and_eq_true, Bool.and_eq_true]
  refine ⟨⟨hl, ?_⟩, ?_⟩
  · cases hb : Nat.beq i j with
    | false => rfl
    | true => exact (hne (Nat.eq_of_beq_eq_true hb).symm).elim
  · rw [anc_closed hc (unlisted hi) _ j (.inr hj)]; rfl
def quietAtB (ops : List Oper) (i : Nat) : Bool := match ops[i]? with
  | some o => isQuiet o.op
  | none => false
def Keeps (ops : List Oper) (S : World → Prop) (i : Nat) (w w' : World) : Prop := (quietAtB ops i = true → w' = w) ∧ (quietAtB ops i = false → needB ops i = true → S w')
def wpAnyG (P : Program) (ops : List Oper) (Q : Exit → Act → World → Prop) (S : World → Prop) : Nat → Array Bool → Act → World → Prop
  | 0, listed, a, w => Region.ready .any ⟨ops⟩ listed = [] ∧ Q .normal a w
  | fuel + 1, listed, a, w =>
    (Region.ready .any ⟨ops⟩ listed = [] → Q .normal a w) ∧
    ∀ i ∈ Region.ready .any ⟨ops⟩ listed, wpOp P ⟨ops⟩ Q i (fun a' w' => Keeps ops S i w w' ∧ wpAnyG P ops Q S fuel (listed.setIfInBounds i true) a' w') a w
section
variable {P : Program} {ops : List Oper} {Q : Exit → Act → World → Prop} {S : World → Prop}
theorem wpAny_of_G : ∀ (fuel : Nat) (listed : Array Bool) (a : Act) (w : World), wpAnyG P ops Q S fuel listed a w → wpAny P .any ⟨ops⟩ Q fuel listed a w
  | 0, _, _, _, h => h
  | fuel + 1, _, _, _, h => ⟨h.1, fun i hi => wpOp_mono (fun a' w' h' => wpAny_of_G fuel _ a' w' h'.2) (h.2 i hi)⟩
theorem wpAnyG_first {i : Nat} {oi : Oper} {v : Value} (hq : quietAtB ops i = true) (hi : (Array.mk ops)[i]? = some oi) (hsel : ∀ (j : Nat) (o : Oper) cs b, (Array.mk ops)[j]? = some o → o.op ≠ .select cs b)
    (hQ : ∀ c a w, Q (.panic c) (a.put oi.dst v) w → Q (.panic c) a w) :
    ∀ (fuel : Nat) (listed : Array Bool) (a : Act) (w : World), Closed ops listed →
      (∀ j oj, (Array.mk ops)[j]? = some oj → j ≠ i → listed.getD j true = false → (∀ e ∈ oj.after, Region.binds .any e = true → e.on ≠ i) → oi.apart ⟨ops⟩ oj = true) →
      i ∈ Region.ready .any ⟨ops⟩ listed → YieldsIf P ⟨ops⟩ (fun w => loadAtB ops i = true → S w) oi v a → (loadAtB ops i = true → S w) →
      wpAnyG P ops Q S fuel (listed.setIfInBounds i true) (a.put oi.dst v) w → wpAnyG P ops Q S (fuel + 1) listed a w := by
  intro fuel
  induction fuel with
  | zero =>
    intro listed a w hcl _ hr hy hS H
    refine ⟨fun h => (by rw [h] at hr; cases hr), fun j hj => ?_⟩
    by_cases hji : j = i
    · subst hji; exact hy.wpOp hi hS ⟨⟨fun _ => rfl, fun h => by rw [hq] at h; cases h⟩, H⟩
    · have := ready_mono hj hji
      rw [H.1] at this
      cases this
  | succ fuel ih =>
    intro listed a w hcl hfree hr hy hS H
    refine ⟨fun h => (by rw [h] at hr; cases hr), fun j hj => ?_⟩
    by_cases hji : j = i
    · subst hji; exact hy.wpOp hi hS ⟨⟨fun _ => rfl, fun h => by rw [hq] at h; cases h⟩, H⟩
    · have h1 := H.2 j (ready_mono hj hji)
      obtain ⟨hjun, oj, hoj, hall⟩ := mem_ready.1 hj
      have hnot : ∀ e ∈ oj.after, Region.binds .any e = true → e.on ≠ i := fun e he hb heq => by
        have h1 := hall e he hb
        have h0 := (mem_ready.1 hr).1
        rw [heq] at h1
        rcases Nat.lt_or_ge i listed.size with h' | h'
        · simp [h'] at h0 h1; rw [h0] at h1; cases h1
        · simp [Array.getElem?_eq_none h'] at h1
      have h2 := wpOp_putIf hoj (hfree j oj hoj hji hjun hnot) (fun cs b => hsel i oi cs b hi) (fun cs b => hsel j oj cs b hoj) hQ hy h1
      have hfree' : ∀ k ok, (Array.mk ops)[k]? = some ok → k ≠ i → (listed.setIfInBounds j true).getD k true = false →
          (∀ e ∈ ok.after, Region.binds .any e = true → e.on ≠ i) → oi.apart ⟨ops⟩ ok = true := fun k ok hk hki hun hno => by
        refine hfree k ok hk hki ?_ hno
        by_cases hjk : j = k
        · subst hjk; exact hjun
        · rw [getD_set_ne true hjk] at hun; exact hun
      refine wpOp_mono (fun a' w' h3 => ⟨h3.2.1, ih (listed.setIfInBounds j true) a' w' (closed_set hcl hj) hfree' (ready_mono hr (Ne.symm hji)) h3.1 (fun hl => ?_) ?_⟩) h2
      · cases hqj : quietAtB ops j with
        | true => rw [h3.2.1.1 hqj]; exact hS hl
        | false => exact h3.2.1.2 hqj (need_of hcl (mem_ready.1 hr).1 hji hl hj)
      · rw [Array.setIfInBounds_comm _ _ hji]
        exact h3.2.2
end

def heldW (P : Program) (ops : List Oper) (S : World → Prop) (K : Fr → World → Prop) (E : List PanicEntry → World → Prop) : Nat → Array Bool → Fr → World → Prop
  | 0, listed, l, w => bsel (Region.ready .any ⟨ops⟩ listed).isEmpty (K l w) False
  | n + 1, listed, l, w => match Region.ready .any ⟨ops⟩ listed with
    | [] => K l w
    | i :: rs => match (i :: rs).find? (quietAtB ops) with
      | some i => match ops[i]? with
        | some o => bsel (Region.free .any ⟨ops⟩ listed i) (guardK ops l o.guard
            (fun l => opq P l o (fun a v => ∀ w1, S w1 → w1.cell? a = some v) fun v => putK l o.dst v fun l' => heldW P ops S K E n (listed.setIfInBounds i true) l' w)
            (fun l => putK l o.dst undef fun l' => heldW P ops S K E n (listed.setIfInBounds i true) l' w)) False
        | none => False
      | none => allOf (fun i => match ops[i]? with
        | some o => guardK ops l o.guard
            (fun l => opv P l o w (fun v w' => putK l o.dst v fun l' => bsel (needB ops i) (S w' ∧ heldW P ops S K E n (listed.setIfInBounds i true) l' w') (heldW P ops S K E n (listed.setIfInBounds i true) l' w')) E)
            (fun l => putK l o.dst undef fun l' => bsel (needB ops i) (S w ∧ heldW P ops S K E n (listed.setIfInBounds i true) l' w) (heldW P ops S K E n (listed.setIfInBounds i true) l' w))
        | none => False) (i :: rs)
where
  allOf (f : Nat → Prop) : List Nat → Prop
    | [] => True
    | [i] => f i
    | i :: r => f i ∧ allOf f r
theorem allOf_out {f : Nat → Prop} {l : List Nat} (h : heldW.allOf f l) : ∀ i ∈ l, f i := by
  induction l with
  | nil => intro i hi; cases hi
  | cons x r ih =>
    intro i hi
    cases r with
    | nil =>
      obtain rfl : i = x := by simpa using hi
      exact h
    | cons y r =>
      rcases List.mem_cons.1 hi with rfl | hi
      · exact h.1
      · exact ih h.2 i hi
theorem loadQ_only {P : Program} {o : Oper} {l : Fr} {Rd Rd' : Addr → Value → Prop} {K : Value → Prop} (hl : isLoad o.op = false) (h : opq P l o Rd K) : opq P l o Rd' K := by
  unfold opq at h ⊢
  split at h <;> first | exact h | skip
  · rename_i t x ho
    rw [ho] at hl
    cases hl
  · rename_i s d x ho
    rw [ho] at hl
    cases hl
theorem agree_put {ops : List Oper} {l l' : Fr} {i : Nat} {o : Oper} {v : Value} (hi : ops[i]? = some o) (h : AgreeOff (dsts ops) l l') : AgreeOff (dsts ops) l (put l' o.dst v) := by
  refine h.trans (AgreeOff.put l' o.dst v) (fun t ht => ht) (fun t ht => ?_)
  simp only [dsts, List.mem_flatMap]
  exact ⟨o, List.mem_of_getElem? hi, ht⟩
theorem quiet_load {op : Op} (h : isLoad op = true) : isQuiet op = true := by
  cases op <;> simp [isLoad] at h <;> rfl
theorem heldW_sound {P : Program} {ops : List Oper} {ds : List Deferred} {S : World → Prop} {K : Fr → World → Prop} {E : List PanicEntry → World → Prop} {Q : Exit → Act → World → Prop} {l0 : Fr}
    (hsel : Region.noSelect ⟨ops⟩ = true) (hQ : ∀ o ∈ ops, ∀ c a v w, Q (.panic c) (a.put o.dst v) w → Q (.panic c) a w) (hE : ∀ l' c w', AgreeOff (dsts ops) l0 l' → E c w' → Q (.panic c) (act l' ds) w')
    (hK : ∀ l' w', AgreeOff (dsts ops) l0 l' → K l' w' → Q .normal (act l' ds) w') :
    ∀ (n : Nat) (listed : Array Bool) (l : Fr) (w : World), heldW P ops S K E n listed l w → Closed ops listed → AgreeOff (dsts ops) l0 l → ((∃ i, listed.getD i true = false ∧ loadAtB ops i = true) → S w) →
      wpAnyG P ops Q S n listed (act l ds) w := by
  intro n
  induction n with
  | zero =>
    intro listed l w h hc ha hS
    obtain ⟨hr, h⟩ := bsel_true_out h
    exact ⟨List.isEmpty_iff.1 hr, hK l w ha h⟩
  | succ n ih =>
    intro listed l w h hc ha hS
    unfold heldW at h
    split at h
    · rename_i hr
      exact ⟨fun _ => hK l w ha h, by rw [hr]; simp⟩
    · rename_i i0 rs hr
      split at h
      · rename_i i hf
        have hq : quietAtB ops i = true := List.find?_some hf
        have hmem : i ∈ Region.ready .any ⟨ops⟩ listed := by rw [hr]; exact List.mem_of_find?_eq_some hf
        split at h
        · rename_i o ho
          obtain ⟨hfree, h⟩ := bsel_true_out h
          have hoa : (Array.mk ops)[i]? = some o := by simpa using ho
          have hun := (mem_ready.1 hmem).1
          have step : ∀ v, YieldsIf P ⟨ops⟩ (fun w => loadAtB ops i = true → S w) o v (act l ds) → heldW P ops S K E n (listed.setIfInBounds i true) (put l o.dst v) w → wpAnyG P ops Q S (n + 1) listed (act l ds) w := by
            intro v hy hn
            refine wpAnyG_first hq hoa (Region.noSelect_spec hsel) (fun c a w h => hQ o (List.mem_of_getElem? ho) c a _ w h) n listed _ w hc (Region.free_spec hoa hfree) hmem hy (fun hl => hS ⟨i, hun, hl⟩) ?_
            rw [act_put]
            refine ih _ _ w hn (closed_set hc hmem) (agree_put ho ha) ?_
            rintro ⟨k, hk, hl⟩
            refine hS ⟨k, ?_, hl⟩
            by_cases hki : i = k
            · subst hki
              exact hun
            · rwa [getD_set_ne true hki] at hk
          rcases guardK_out (ds := ds) h with ⟨hw, h⟩ | ⟨hw, h⟩
          · cases hl : isLoad o.op with
            | false =>
              obtain ⟨v, hk, hrun⟩ := opq_out (ds := ds) (loadQ_only (Rd' := fun _ _ => False) hl h)
              exact step v (.inl ⟨hw, fun w _ => hrun w (fun _ _ h => h.elim)⟩) (putK_out hk)
            | true =>
              obtain ⟨v, hk, hrun⟩ := opq_out (ds := ds) h
              have hlb : loadAtB ops i = true := by unfold loadAtB; rw [ho]; exact hl
              exact step v (.inl ⟨hw, fun w hs => hrun w (fun a u h => h w (hs hlb))⟩) (putK_out hk)
          · exact step undef (.inr ⟨hw, rfl⟩) (putK_out h)
        · exact h.elim
      · rename_i hnone
        have h := allOf_out h
        refine ⟨fun h0 => (by rw [hr] at h0; cases h0), fun i hi => ?_⟩
        have hi' : i ∈ i0 :: rs := by rw [← hr]; exact hi
        have h := h i hi'
        have hq : quietAtB ops i = false := by
          have := List.find?_eq_none.1 hnone i hi'
          simpa using this
        split at h
        · rename_i o ho
          have hoa : (Array.mk ops)[i]? = some o := by simpa using ho
          have next : ∀ v w', bsel (needB ops i) (S w' ∧ heldW P ops S K E n (listed.setIfInBounds i true) (put l o.dst v) w') (heldW P ops S K E n (listed.setIfInBounds i true) (put l o.dst v) w') →
              Keeps ops S i w w' ∧ wpAnyG P ops Q S n (listed.setIfInBounds i true) ((act l ds).put o.dst v) w' := by
            intro v w' h
            rw [act_put]
            have rest : heldW P ops S K E n (listed.setIfInBounds i true) (put l o.dst v) w' := by
              rw [bsel_iff] at h
              cases hb : needB ops i with
              | true => exact (h.1 hb).2
              | false => exact h.2 hb
            have need : needB ops i = true → S w' := fun hb => by
              rw [bsel_iff] at h
              exact (h.1 hb).1
            refine ⟨⟨fun hq' => (by rw [hq] at hq'; cases hq'), fun _ => need⟩, ih _ _ w' rest (closed_set hc hi) (agree_put ho ha) ?_⟩
            rintro ⟨k, hk, hl⟩
            by_cases hki : i = k
            · subst hki
              unfold loadAtB at hl
              unfold quietAtB at hq
              rw [ho] at hl hq
              have h1 : isLoad o.op = true := hl
              have h2 : isQuiet o.op = false := hq
              rw [quiet_load h1] at h2
              cases h2
            · rw [getD_set_ne true hki] at hk
              exact need (need_of hc hk hki hl hi)
          unfold wpOp
          simp only [hoa]
          rcases guardK_out (ds := ds) h with ⟨hw, h⟩ | ⟨hw, h⟩
          · rw [if_pos hw]
            exact .inl (opv_sound h (fun v w' hk => next v w' (putK_out hk)) (fun c w' he => hE l c w' ha he))
          · rw [if_neg (by simp [hw])]
            exact next undef w (putK_out h)
        · exact h.elim

inductive DMode where
  | still
  | tail (n : Nat)
  | cls
  | held
def Cls (P : Program) (C : World → Prop) (g : FuncId) (args : List Value) (v : Value) : Prop := ∀ w, C w → Calls P g ⟨args⟩ w fun e w' => e = .returned v ∧ C w'
def drawn (P : Program) (m : DMode) (ops : List Oper) (K : Fr → World → Prop) (E : List PanicEntry → World → Prop) (l : Fr) (w : World) : Prop := match m with
  | .still => bsel (P.follows .mixedOrders && Region.lexB .any ⟨ops⟩) (qOps P ops (fun a v => w.cell? a = some v) (fun g args v => Calls P g ⟨args⟩ w.drew fun e w' => e = .returned v ∧ w' = w.drew) (fun l' => K l' w.drew) ops l) False
  | .tail n => bsel (P.follows .mixedOrders && Region.lexTailB .any ⟨ops⟩ n) (qOps P ops (fun a v => w.cell? a = some v) (fun g args v => Calls P g ⟨args⟩ w.drew fun e w' => e = .returned v ∧ w' = w.drew)
      (fun l' => vcOps P ops K E (ops.drop n) l' w.drew) (ops.take n) l) False
  | .cls => bsel (P.follows .mixedOrders && Region.lexB .any ⟨ops⟩) (∃ C : World → Prop, C w.drew ∧ qOps P ops (fun a v => ∀ w1, C w1 → w1.cell? a = some v) (Cls P C) (fun l' => ∀ w1, C w1 → K l' w1) ops l) False
  | .held => bsel (P.follows .mixedOrders && Region.noSelect ⟨ops⟩) (∃ S : World → Prop, S w.drew ∧ heldW P ops S K E ops.length (Array.replicate ops.length false) l w.drew) False
theorem dsts_append (a b : List Oper) : dsts (a ++ b) = dsts a ++ dsts b := by simp [dsts]
theorem drawn_sound {P : Program} {m : DMode} {id : Nat} {ops : List Oper} {ds : List Deferred} {K : Fr → World → Prop} {E : List PanicEntry → World → Prop} {Q : Exit → Act → World → Prop} {l : Fr} {w : World}
    (h : drawn P m ops K E l w) (hK : ∀ l' w', AgreeOff (dsts ops) l l' → K l' w' → Q .normal (act l' ds) w') (hE : ∀ l' c w', AgreeOff (dsts ops) l l' → E c w' → Q (.panic c) (act l' ds) w') :
    (Code.region id ⟨ops⟩ true).wp P Q (act l ds) w := by
  cases m with
  | still =>
    obtain ⟨hb, h⟩ := bsel_true_out h
    rw [Bool.and_eq_true] at hb
    refine wp_region_quiet (C := fun w' => w' = w.drew) hb.1 hb.2 rfl ?_
    exact qOps_quiet (fun w1 e => by subst e; exact fun a u h => h) (fun g args v hc w1 e => by subst e; exact hc) h fun l' ha hk w1 e => by subst e; exact hK l' _ ha hk
  | tail n =>
    obtain ⟨hb, h⟩ := bsel_true_out h
    rw [Bool.and_eq_true] at hb
    refine wp_region_still_tail n hb.1 hb.2 ?_
    refine qOps_still (w := w.drew) (fun a u h => h) (fun g args v hc => hc) h fun l' ha hk => ?_
    have e : dsts ops = dsts (ops.take n) ++ dsts (ops.drop n) := by rw [← dsts_append, List.take_append_drop]
    have step : ∀ {l2 : Fr}, AgreeOff (dsts (ops.drop n)) l' l2 → AgreeOff (dsts ops) l l2 := by
      intro l2 ha2
      rw [e]
      exact ha.trans ha2 (fun t ht => List.mem_append_left _ ht) (fun t ht => List.mem_append_right _ ht)
    exact vcOps_sound (fun l2 c w2 ha2 he => hE l2 c w2 (step ha2) he) hk fun l2 w2 ha2 hk2 => hK l2 w2 (step ha2) hk2
  | cls =>
    obtain ⟨hb, C, hc, h⟩ := bsel_true_out h
    rw [Bool.and_eq_true] at hb
    refine wp_region_quiet (C := C) hb.1 hb.2 hc ?_
    exact qOps_quiet (fun w1 e => fun a u h => h w1 e) (fun g args v hc => hc) h fun l' ha hk w1 e => hK l' w1 ha (hk w1 e)
  | held =>
    obtain ⟨hb, S, hs, h⟩ := bsel_true_out h
    rw [Bool.and_eq_true] at hb
    let Q' : Exit → Act → World → Prop := fun e a w => match e with
      | .normal => Q .normal a w
      | .panic c => a.defers = ds ∧ AgreeOff (dsts ops) l a.tmps.toList ∧ E c w
      | _ => False
    have h1 : (Code.region id ⟨ops⟩ true).wp P Q' (act l ds) w := by
      refine wp_region_any hb.1 (wpAny_of_G (S := S) _ _ _ _ ?_)
      refine heldW_sound (Q := Q') (l0 := l) hb.2 (fun o ho c a v w h => ?_) (fun l' c w' ha he => ⟨rfl, ha, he⟩) (fun l' w' ha hk => hK l' w' ha hk) _ _ _ _ h ?_ (AgreeOff.refl _ _) (fun _ => hs)
      · refine ⟨?_, ?_, h.2.2⟩
        · have := h.1
          cases hd : o.dst with
          | none => rw [hd] at this; exact this
          | some d => rw [hd] at this; exact this
        · have h2 := h.2.1
          cases hd : o.dst with
          | none => rw [hd] at h2; exact h2
          | some d =>
            rw [hd] at h2
            have hmem : d ∈ dsts ops := by
              simp only [dsts, List.mem_flatMap]
              exact ⟨o, ho, by rw [hd]; simp⟩
            refine ⟨?_, fun t ht => ?_⟩
            · have := h2.1
              simpa [Act.put] using this
            · have := h2.2 t ht
              have hne : d ≠ t := fun e => ht (e ▸ hmem)
              simpa [Act.put, List.getElem?_set_ne hne] using this
      · intro j o _ hl
        exfalso
        simp only [Array.getD_eq_getD_getElem?, Array.getElem?_replicate] at hl
        split at hl <;> cases hl
    refine Go.wp_mono h1 fun e a w' hq => ?_
    cases e <;> simp only [Q'] at hq <;> first | exact hq | exact hq.elim | skip
    obtain ⟨hd, ha, he⟩ := hq
    have := hE a.tmps.toList _ w' ha he
    have e : act a.tmps.toList ds = a := by cases a; cases hd; rfl
    rwa [e] at this

/-! ### Code -/
structure Conts where
  normal : Fr → World → Prop
  exit : Nat → Fr → World → Prop
  ret : Fr → World → Prop
  panic : List PanicEntry → World → Prop

def written : Code → List Nat
  | .region _ ⟨ops⟩ _ => dsts ops
  | .seq a b => written a ++ written b
  | .cond _ a b => written a ++ written b
  | .block _ c => written c
  | .loop c => written c
  | _ => []
def getsK (l : Fr) : List (Nat × Ty) → (List Value → Prop) → Prop
  | [], K => K []
  | (t, _) :: r, K => getK l t fun v => getsK l r fun vs => K (v :: vs)
def setsK : List (Nat × Ty) → List Value → Fr → (Fr → Prop) → Prop
  | (t, _) :: r, v :: vs, l, K => setK l t v fun l' => setsK r vs l' K
  | _, _, l, K => K l
def havocK (us : Nat → Value) : List Nat → Fr → (Fr → Prop) → Prop
  | [], l, K => K l
  | t :: r, l, K => setK l t (us t) fun l' => havocK us r l' K
structure Plan where
  live : List (Nat × List (Nat × Ty)) := []
  draws : List (Nat × DMode) := []
def lookup {α : Type} : List (Nat × α) → Nat → Option α
  | [], _ => none
  | (k, v) :: r, n => bif Nat.beq k n then some v else lookup r n
def tysOf : List (Nat × Ty) → List Ty
  | [] => []
  | (_, x) :: r => x :: tysOf r

def vc (P : Program) (pl : Plan) : Code → Nat → Conts → Fr → World → Prop
  | .skip, _, C, l, w => C.normal l w
  | .region _ ⟨ops⟩ false, _, C, l, w => vcOps P ops C.normal C.panic ops l w
  | .region id ⟨ops⟩ true, _, C, l, w => match lookup pl.draws id with
    | some m => drawn P m ops C.normal C.panic l w
    | none => drawn P .still ops C.normal C.panic l w
  | .seq a b, p, C, l, w => match lookup pl.live p with
    | none => vc P pl a (2 * p) { C with normal := fun l' w' => vc P pl b (2 * p + 1) C l' w' } l w
    | some sp => ∃ J : TysT (tysOf sp) (World → Prop),
        vc P pl a (2 * p) { C with normal := fun l' w' => getsK l' sp fun vs => TysT.app (tysOf sp) J vs fun q => q w' } l w ∧
        allTys (tysOf sp) fun vs => ∀ (us : Nat → Value) (w' : World), (TysT.app (tysOf sp) J vs fun q => q w') → havocK us (written a) l fun l1 => setsK sp vs l1 fun l2 => vc P pl b (2 * p + 1) C l2 w'
  | .cond c a b, p, C, l, w => opK l c fun v => match v with
    | .bool t => bsel t (vc P pl a (2 * p) C l w) (vc P pl b (2 * p + 1) C l w)
    | _ => False
  | .block id c, p, C, l, w => vc P pl c (2 * p) { C with exit := fun i l' w' => bsel (Nat.beq i id) (C.normal l' w') (C.exit i l' w') } l w
  | .loop c, p, C, l, w => match lookup pl.live p with
    | none => False
    | some sp => ∃ (I : TysT (tysOf sp) (World → Prop)) (m : TysT (tysOf sp) (World → Nat)),
        (getsK l sp fun vs => TysT.app (tysOf sp) I vs fun q => q w) ∧
        allTys (tysOf sp) fun vs => ∀ (us : Nat → Value) (w' : World), (TysT.app (tysOf sp) I vs fun q => q w') → havocK us (written c) l fun l1 => setsK sp vs l1 fun l2 =>
          vc P pl c (2 * p) { C with normal := fun l3 w3 => getsK l3 sp fun vs' => (TysT.app (tysOf sp) I vs' fun q => q w3) ∧ TysT.app (tysOf sp) m vs' fun m1 => TysT.app (tysOf sp) m vs fun m0 => m1 w3 < m0 w' } l2 w'
  | .exit i, _, C, l, w => C.exit i l w
  | .ret, _, C, l, w => C.ret l w
  | _, _, _, _, _ => False

/-! ### Its soundness -/
def havoc (us : Nat → Value) : List Nat → Fr → Fr
  | [], l => l
  | t :: r, l => havoc us r (l.set t (us t))
theorem havocK_out {us : Nat → Value} {ws : List Nat} : ∀ {l : Fr} {K : Fr → Prop}, havocK us ws l K → K (havoc us ws l) := by
  induction ws with
  | nil => intro l K h; exact h
  | cons t r ih => intro l K h; exact ih (setK_out h)
def sets : List (Nat × Ty) → List Value → Fr → Fr
  | (t, _) :: r, v :: vs, l => sets r vs (l.set t v)
  | _, _, l => l
theorem setsK_out {sp : List (Nat × Ty)} : ∀ {vs : List Value} {l : Fr} {K : Fr → Prop}, setsK sp vs l K → K (sets sp vs l) := by
  induction sp with
  | nil => intro vs l K h; exact h
  | cons x r ih => intro vs l K h; cases vs with
    | nil => exact h
    | cons v vs => exact ih (setK_out h)
def Reads (l : Fr) : List (Nat × Ty) → List Value → Prop
  | [], [] => True
  | (t, _) :: r, v :: vs => l[t]? = some v ∧ Reads l r vs
  | _, _ => False
theorem getsK_out {l : Fr} {sp : List (Nat × Ty)} : ∀ {K : List Value → Prop}, getsK l sp K → ∃ vs, Reads l sp vs ∧ K vs := by
  induction sp with
  | nil => intro K h; exact ⟨[], trivial, h⟩
  | cons x r ih =>
    intro K h
    obtain ⟨v, hv, h⟩ := getK_out h
    obtain ⟨vs, h1, h2⟩ := ih h
    exact ⟨v :: vs, ⟨hv, h1⟩, h2⟩
theorem sets_same {l : Fr} {sp : List (Nat × Ty)} : ∀ {vs : List Value}, Reads l sp vs → sets sp vs l = l := by
  induction sp with
  | nil => intro vs h; cases vs <;> rfl
  | cons x r ih =>
    intro vs h
    cases vs with
    | nil => exact h.elim
    | cons v vs =>
      simp only [sets]
      rw [set_same h.1]
      exact ih h.2
theorem havoc_length (us : Nat → Value) (ws : List Nat) : ∀ l : Fr, (havoc us ws l).length = l.length := by
  induction ws with
  | nil => intro l; rfl
  | cons t r ih => intro l; simp [havoc, ih]
theorem havoc_get (us : Nat → Value) (ws : List Nat) (t : Nat) : ∀ l : Fr, (havoc us ws l)[t]? = if t ∈ ws ∧ t < l.length then some (us t) else l[t]? := by
  induction ws with
  | nil => intro l; simp [havoc]
  | cons x r ih =>
    intro l
    simp only [havoc, ih, List.length_set, List.mem_cons]
    by_cases ht : t < l.length
    · by_cases hx : x = t
      · subst hx
        by_cases hr : x ∈ r <;> simp [hr, ht]
      · by_cases hr : t ∈ r
        · simp [hr, ht]
        · simp [hr, Ne.symm hx, List.getElem?_set_ne hx]
    · simp [ht]
theorem havoc_eq {ws : List Nat} {l l' : Fr} (h : AgreeOff ws l l') : havoc (fun t => l'.getD t undef) ws l = l' := by
  apply List.ext_getElem?
  intro t
  rw [havoc_get]
  by_cases ht : t < l.length
  · by_cases hw : t ∈ ws
    · have ht' : t < l'.length := by rw [h.1]; exact ht
      simp [hw, ht, List.getD, List.getElem?_eq_getElem ht']
    · simp [hw, h.2 t hw]
  · have ht' : ¬ t < l'.length := by rw [h.1]; exact ht
    simp [ht, List.getElem?_eq_none (Nat.le_of_not_lt ht')]
theorem LeafT.app_det {X : Type} {x : Leaf} {f : LeafT x X} {v : Value} {K K' : X → Prop} (h : LeafT.app x f v K) (h' : LeafT.app x f v K') : LeafT.app x f v fun y => K y ∧ K' y := by
  cases x <;> cases v <;> simp only [LeafT.app] at h h' ⊢ <;> first | exact h.elim | exact ⟨h, h'⟩ | skip
  rename_i k k' n
  cases hd : decide (k = k') <;> simp [hd] at h h' ⊢
  exact ⟨h, h'⟩
theorem LeavesT.app_det {X : Type} {l : List Leaf} {f : LeavesT l X} {vs : List Value} {K K' : X → Prop} (h : LeavesT.app l f vs K) (h' : LeavesT.app l f vs K') : LeavesT.app l f vs fun y => K y ∧ K' y := by
  induction l generalizing vs with
  | nil => cases vs with
    | nil => exact ⟨h, h'⟩
    | cons v vs => exact h.elim
  | cons x r ih => cases vs with
    | nil => exact h.elim
    | cons v vs => exact LeafT.app_mono (LeafT.app_det h h') fun g hg => ih hg.1 hg.2
theorem TyT.app_det {X : Type} {x : Ty} {f : TyT x X} {v : Value} {K K' : X → Prop} (h : TyT.app x f v K) (h' : TyT.app x f v K') : TyT.app x f v fun y => K y ∧ K' y := by
  cases x with
  | leaf x => exact LeafT.app_det h h'
  | agg l => cases v <;> first | exact h.elim | exact LeavesT.app_det h h'
  | big n => cases v <;> first | exact h.elim | exact ⟨h.1, h.2, h'.2⟩
theorem TysT.app_det {X : Type} {l : List Ty} {f : TysT l X} {vs : List Value} {K K' : X → Prop} (h : TysT.app l f vs K) (h' : TysT.app l f vs K') : ∃ y, K y ∧ K' y := by
  induction l generalizing vs with
  | nil => cases vs with
    | nil => exact ⟨_, h, h'⟩
    | cons v vs => exact h.elim
  | cons x r ih => cases vs with
    | nil => exact h.elim
    | cons v vs =>
      obtain ⟨g, hg1, hg2⟩ := TyT.app_some (TyT.app_det h h')
      exact ih hg1 hg2
theorem reads_det {l : Fr} {sp : List (Nat × Ty)} : ∀ {vs vs' : List Value}, Reads l sp vs → Reads l sp vs' → vs = vs' := by
  induction sp with
  | nil => intro vs vs' h h'; cases vs <;> cases vs' <;> first | rfl | exact h.elim | exact h'.elim
  | cons x r ih =>
    intro vs vs' h h'
    cases vs with
    | nil => exact h.elim
    | cons v vs => cases vs' with
      | nil => exact h'.elim
      | cons v' vs' =>
        have := h.1.symm.trans h'.1
        obtain rfl := Option.some.inj this
        rw [ih h.2 h'.2]
theorem LeafT.app_val {X : Type} {x : Leaf} {f : LeafT x X} {v : Value} {K : X → Prop} (h : LeafT.app x f v K) : ∃ y, K y ∧ ∀ K' : X → Prop, K' y → LeafT.app x f v K' := by
  cases x <;> cases v <;> simp only [LeafT.app] at h ⊢ <;> first | exact h.elim | exact ⟨_, h, fun _ h' => h'⟩ | skip
  rename_i k k' n
  cases hd : decide (k = k') <;> simp only [hd, bsel_true, bsel_false] at h ⊢
  exact ⟨_, h, fun _ h' => h'⟩
theorem LeavesT.app_val {X : Type} {l : List Leaf} {f : LeavesT l X} {vs : List Value} {K : X → Prop} (h : LeavesT.app l f vs K) : ∃ y, K y ∧ ∀ K' : X → Prop, K' y → LeavesT.app l f vs K' := by
  induction l generalizing vs with
  | nil => cases vs with
    | nil => exact ⟨_, h, fun _ h' => h'⟩
    | cons v vs => exact h.elim
  | cons x r ih => cases vs with
    | nil => exact h.elim
    | cons v vs =>
      obtain ⟨g, hg, hall⟩ := LeafT.app_val h
      obtain ⟨y, hy, hall2⟩ := ih hg
      exact ⟨y, hy, fun K' hk => hall _ (hall2 K' hk)⟩
theorem TyT.app_val {X : Type} {x : Ty} {f : TyT x X} {v : Value} {K : X → Prop} (h : TyT.app x f v K) : ∃ y, K y ∧ ∀ K' : X → Prop, K' y → TyT.app x f v K' := by
  cases x with
  | leaf x => exact LeafT.app_val h
  | agg l => cases v <;> first | exact h.elim | exact LeavesT.app_val h
  | big n => cases v <;> first | exact h.elim | exact ⟨_, h.2, fun _ h' => ⟨h.1, h'⟩⟩
theorem TysT.app_val {X : Type} {l : List Ty} {f : TysT l X} {vs : List Value} {K : X → Prop} (h : TysT.app l f vs K) : ∃ y, K y ∧ ∀ K' : X → Prop, K' y → TysT.app l f vs K' := by
  induction l generalizing vs with
  | nil => cases vs with
    | nil => exact ⟨_, h, fun _ h' => h'⟩
    | cons v vs => exact h.elim
  | cons x r ih => cases vs with
    | nil => exact h.elim
    | cons v vs =>
      obtain ⟨g, hg, hall⟩ := TyT.app_val h
      obtain ⟨y, hy, hall2⟩ := ih hg
      exact ⟨y, hy, fun K' hk => hall _ (hall2 K' hk)⟩
def MeasIs (sp : List (Nat × Ty)) (m : TysT (tysOf sp) (World → Nat)) (a : Act) (w : World) (n : Nat) : Prop :=
  ∃ vs, Reads a.tmps.toList sp vs ∧ TysT.app (tysOf sp) m vs fun z => z w = n
open Classical in
noncomputable def meas (sp : List (Nat × Ty)) (m : TysT (tysOf sp) (World → Nat)) (a : Act) (w : World) : Nat :=
  if h : ∃ n, MeasIs sp m a w n then Classical.choose h else 0
theorem meas_eq {sp : List (Nat × Ty)} {m : TysT (tysOf sp) (World → Nat)} {a : Act} {w : World} {vs : List Value} {K : (World → Nat) → Prop} (hr : Reads a.tmps.toList sp vs) (h : TysT.app (tysOf sp) m vs K) :
    ∃ y, K y ∧ meas sp m a w = y w := by
  obtain ⟨y, hy, hall⟩ := TysT.app_val h
  refine ⟨y, hy, ?_⟩
  have hex : ∃ n, MeasIs sp m a w n := ⟨y w, vs, hr, hall _ rfl⟩
  unfold meas
  rw [dif_pos hex]
  obtain ⟨vs', hr', h'⟩ := Classical.choose_spec hex
  rw [reads_det hr' hr] at h'
  obtain ⟨z, h1, h2⟩ := TysT.app_det h' (hall (fun z => z = y) rfl)
  rw [← h1, h2]

/-- The frame behind a join or at a loop's head. -/
theorem frame_back {ws : List Nat} {l l' : Fr} {sp : List (Nat × Ty)} {vs : List Value} {K : Fr → Prop} (ha : AgreeOff ws l l') (hr : Reads l' sp vs)
    (h : ∀ us : Nat → Value, havocK us ws l fun l1 => setsK sp vs l1 K) : K l' := by
  have h1 := setsK_out (havocK_out (h fun t => l'.getD t undef))
  rw [havoc_eq ha, sets_same hr] at h1
  exact h1

theorem vc_sound {P : Program} {pl : Plan} {ds : List Deferred} : ∀ (c : Code) (p : Nat) (C : Conts) (l : Fr) (w : World) (Q : Exit → Act → World → Prop), vc P pl c p C l w →
    (∀ l' w', AgreeOff (written c) l l' → C.normal l' w' → Q .normal (act l' ds) w') → (∀ i l' w', AgreeOff (written c) l l' → C.exit i l' w' → Q (.exit i) (act l' ds) w') →
    (∀ l' w', C.ret l' w' → Q .ret (act l' ds) w') → (∀ l' ch w', AgreeOff (written c) l l' → C.panic ch w' → Q (.panic ch) (act l' ds) w') → c.wp P Q (act l ds) w
  | .skip, p, C, l, w, Q, h, hn, _, _, _ => wp_skip (hn l w (AgreeOff.refl _ _) h)
  | .region id ⟨ops⟩ false, p, C, l, w, Q, h, hn, _, _, hp => wp_region_list (vcOps_sound hp h fun l' w' ha hk => hn l' w' ha hk)
  | .region id ⟨ops⟩ true, p, C, l, w, Q, h, hn, _, _, hp => by
    simp only [vc] at h
    split at h
    · exact drawn_sound h (fun l' w' ha hk => hn l' w' ha hk) hp
    · exact drawn_sound h (fun l' w' ha hk => hn l' w' ha hk) hp
  | .seq a b, p, C, l, w, Q, h, hn, he, hr, hp => by
    simp only [vc] at h
    have left : ∀ {l' : Fr}, AgreeOff (written a) l l' → AgreeOff (written (.seq a b)) l l' := fun ha => ha.mono fun t ht => List.mem_append_left _ ht
    have both : ∀ {l' l2 : Fr}, AgreeOff (written a) l l' → AgreeOff (written b) l' l2 → AgreeOff (written (.seq a b)) l l2 := fun ha hb => ha.trans hb (fun t ht => List.mem_append_left _ ht) (fun t ht => List.mem_append_right _ ht)
    refine wp_seq ?_
    split at h
    · refine vc_sound a (2 * p) _ l w _ h (fun l' w' ha hk => ?_) (fun i l' w' ha hk => he i l' w' (left ha) hk) (fun l' w' hk => hr l' w' hk) (fun l' ch w' ha hk => hp l' ch w' (left ha) hk)
      exact vc_sound b (2 * p + 1) C l' w' Q hk (fun l2 w2 hb hk => hn l2 w2 (both ha hb) hk) (fun i l2 w2 hb hk => he i l2 w2 (both ha hb) hk) hr (fun l2 ch w2 hb hk => hp l2 ch w2 (both ha hb) hk)
    · rename_i sp _
      obtain ⟨J, h1, h2⟩ := h
      refine vc_sound a (2 * p) _ l w _ h1 (fun l' w' ha hk => ?_) (fun i l' w' ha hk => he i l' w' (left ha) hk) (fun l' w' hk => hr l' w' hk) (fun l' ch w' ha hk => hp l' ch w' (left ha) hk)
      obtain ⟨vs, hrd, hj⟩ := getsK_out hk
      have h3 := TysT.app_all hj h2
      have h4 := frame_back ha hrd fun us => h3 us w' hj
      exact vc_sound b (2 * p + 1) C l' w' Q h4 (fun l2 w2 hb hk => hn l2 w2 (both ha hb) hk) (fun i l2 w2 hb hk => he i l2 w2 (both ha hb) hk) hr (fun l2 ch w2 hb hk => hp l2 ch w2 (both ha hb) hk)
  | .cond c a b, p, C, l, w, Q, h, hn, he, hr, hp => by
    simp only [vc] at h
    have h := opK_out (ds := ds) h
    split at h
    · rename_i v t hv
      rw [bsel_iff] at h
      refine wp_cond_split hv (fun ht => ?_) (fun hf => ?_)
      · exact vc_sound a (2 * p) C l w Q (h.1 ht) (fun l' w' ha hk => hn l' w' (ha.mono fun t ht => List.mem_append_left _ ht) hk) (fun i l' w' ha hk => he i l' w' (ha.mono fun t ht => List.mem_append_left _ ht) hk) hr (fun l' ch w' ha hk => hp l' ch w' (ha.mono fun t ht => List.mem_append_left _ ht) hk)
      · exact vc_sound b (2 * p + 1) C l w Q (h.2 hf) (fun l' w' ha hk => hn l' w' (ha.mono fun t ht => List.mem_append_right _ ht) hk) (fun i l' w' ha hk => he i l' w' (ha.mono fun t ht => List.mem_append_right _ ht) hk) hr (fun l' ch w' ha hk => hp l' ch w' (ha.mono fun t ht => List.mem_append_right _ ht) hk)
    · exact h.elim
  | .block id c, p, C, l, w, Q, h, hn, he, hr, hp => by
    simp only [vc] at h
    refine wp_block (vc_sound c (2 * p) _ l w _ h (fun l' w' ha hk => hn l' w' ha hk) (fun i l' w' ha hk => ?_) (fun l' w' hk => hr l' w' hk) (fun l' ch w' ha hk => hp l' ch w' ha hk))
    replace hk : bsel (Nat.beq i id) (C.normal l' w') (C.exit i l' w') := hk
    rw [bsel_iff] at hk
    simp only [Exit.inBlock]
    by_cases hi : i = id
    · rw [if_pos hi]
      exact hn l' w' ha (hk.1 (by rw [hi]; exact Nat.beq_refl id))
    · rw [if_neg hi]
      refine he i l' w' ha (hk.2 ?_)
      cases hb : Nat.beq i id with
      | false => rfl
      | true => exact (hi (Nat.eq_of_beq_eq_true hb)).elim
  | .loop c, p, C, l, w, Q, h, hn, he, hr, hp => by
    simp only [vc] at h
    split at h
    · exact h.elim
    · rename_i sp _
      obtain ⟨I, m, h0, h1⟩ := h
      refine wp_loop (fun a w' => ∃ l' vs, a = act l' ds ∧ AgreeOff (written c) l l' ∧ Reads l' sp vs ∧ TysT.app (tysOf sp) I vs fun q => q w') (meas sp m) ?_ ?_
      · obtain ⟨vs, hrd, hi⟩ := getsK_out h0
        exact ⟨l, vs, rfl, AgreeOff.refl _ _, hrd, hi⟩
      · rintro a w' ⟨l', vs, rfl, ha, hrd, hi⟩
        have h3 := TysT.app_all hi h1
        have h4 := frame_back ha hrd fun us => h3 us w' hi
        refine vc_sound c (2 * p) _ l' w' _ h4 (fun l2 w2 hb hk => ?_) (fun i l2 w2 hb hk => he i l2 w2 (ha.trans hb (fun _ h => h) (fun _ h => h)) hk) (fun l2 w2 hk => hr l2 w2 hk) (fun l2 ch w2 hb hk => hp l2 ch w2 (ha.trans hb (fun _ h => h) (fun _ h => h)) hk)
        obtain ⟨vs', hrd', hi', hm⟩ := getsK_out hk
        refine ⟨⟨l2, vs', rfl, ha.trans hb (fun _ h => h) (fun _ h => h), hrd', hi'⟩, ?_⟩
        obtain ⟨m1, hm1, e1⟩ := meas_eq (a := act l2 ds) (w := w2) hrd' hm
        obtain ⟨m0, hm0, e0⟩ := meas_eq (a := act l' ds) (w := w') hrd hm1
        rw [e1, e0]
        exact hm0
  | .exit i, p, C, l, w, Q, h, _, he, _, _ => wp_exit (he i l w (AgreeOff.refl _ _) h)
  | .ret, p, C, l, w, Q, h, _, _, hr, _ => wp_ret (hr l w h)
  | .label _, _, _, _, _, _, h, _, _, _, _ => h.elim
  | .goto _, _, _, _, _, _, h, _, _, _, _ => h.elim
  | .scope _, _, _, _, _, _, h, _, _, _, _ => h.elim
  | .rangeFunc .., _, _, _, _, _, h, _, _, _, _ => h.elim
  | .refuse _, _, _, _, _, _, h, _, _, _, _ => h.elim

/-! ### A whole function -/
def resK (P : Program) (w : World) : List ResultVar → Fr → (List Value → Prop) → Prop
  | [], _, K => K []
  | .tmp t :: r, l, K => getK l t fun v => resK P w r l fun vs => K (v :: vs)
  | .cell a t :: r, l, K => getK l a fun v => ptrK v fun a => loadQ P t a (fun a v => w.cell? a = some v) fun v => resK P w r l fun vs => K (v :: vs)
def retV : List Value → Value
  | [v] => v
  | vs => .tuple ⟨vs⟩
def fnConts (P : Program) (rs : List ResultVar) (R : Ending → World → Prop) : Conts where
  normal := fun l w => resK P w rs l fun vs => R (.returned (retV vs)) w
  exit := fun _ _ _ => False
  ret := fun l w => resK P w rs l fun vs => R (.returned (retV vs)) w
  panic := fun c w => R (.panicked c) w
def resF (tmps : Array Value) : ResultVar → Sem Value
  | .tmp t => pure (tmps.getD t undef)
  | .cell a t => do loadVar t (← asAddr (tmps.getD a undef))
theorem resK_out {P : Program} {w : World} {l : Fr} {ds : List Deferred} {rs : List ResultVar} : ∀ {K : List Value → Prop}, resK P w rs l K →
    ∃ vs, (rs.mapM (resF (act l ds).tmps)).run P w = .ok vs w ∧ K vs := by
  induction rs with
  | nil => intro K h; exact ⟨[], rfl, h⟩
  | cons r rs ih =>
    intro K h
    cases r with
    | tmp t =>
      obtain ⟨v, hv, h⟩ := getK_out h
      obtain ⟨vs, h1, h2⟩ := ih h
      refine ⟨v :: vs, ?_, h2⟩
      have hg : (act l ds).tmps.getD t undef = v := by simp [act, hv]
      simp only [List.mapM_cons, Sem.run_bind, resF, hg, Sem.run_pure, Result.andThen_ok, h1]
    | cell a t =>
      obtain ⟨v, hv, h⟩ := getK_out h
      obtain ⟨ad, rfl, h3⟩ := ptrK_out h
      obtain ⟨u, h4, hl⟩ := loadQ_out h3
      obtain ⟨vs, h1, h2⟩ := ih h4
      refine ⟨u :: vs, ?_, h2⟩
      have hg : (act l ds).tmps.getD a undef = .pointer (some ad) := by simp [act, hv]
      simp only [List.mapM_cons, Sem.run_bind, resF, hg, asAddr, Sem.run_pure, Result.andThen_ok, hl w (fun _ _ h => h), h1]
theorem results_run {P : Program} {fn : Func} {w : World} {l : Fr} {ds : List Deferred} {K : List Value → Prop} (h : resK P w fn.results.toList l K) :
    ∃ vs, (results fn (act l ds).tmps).run P w = .ok (retV vs) w ∧ K vs := by
  obtain ⟨vs, h1, h2⟩ := resK_out (ds := ds) h
  refine ⟨vs, ?_, h2⟩
  have e : results fn (act l ds).tmps = (do
      let vs ← fn.results.mapM (resF (act l ds).tmps)
      pure (if h : vs.size = 1 then vs[0] else .tuple vs)) := by
    unfold results
    congr 2
  rw [e, Sem.run_bind, Array.mapM_eq_mapM_toList]
  simp only [Sem.run_map, h1, Result.andThen_ok, Sem.run_pure]
  match vs with
  | [] => rfl
  | [v] => rfl
  | v :: u :: r => simp [retV]
def frame0 (n : Nat) : List Value → Fr
  | [] => List.replicate n undef
  | v :: r => v :: frame0 (n - 1) r
theorem frame0_eq (args : List Value) : ∀ n, frame0 n args = args ++ List.replicate (n - args.length) undef := by
  induction args with
  | nil => intro n; simp [frame0]
  | cons v r ih => intro n; simp only [frame0, ih, List.cons_append, List.length_cons]; congr 3; omega
theorem calls_vc {P : Program} {f : FuncId} {fn : Func} {c : Code} {args : List Value} {w : World} {R : Ending → World → Prop} (pl : Plan) (hf : P.funcs[f]? = some fn) (hb : fn.body = some c)
    (h : vc P pl c 1 (fnConts P fn.results.toList R) (frame0 fn.ntmps args) w) : Calls P f ⟨args⟩ w R := by
  refine calls_of_wp hf hb ?_
  have e : (Array.mk args) ++ Array.replicate (fn.ntmps - (Array.mk args).size) undef = ⟨frame0 fn.ntmps args⟩ := by
    apply Array.ext'
    simp [frame0_eq]
  rw [e]
  refine vc_sound (ds := []) c 1 _ _ w _ h (fun l' w' _ hk => ?_) (fun i l' w' _ hk => hk.elim) (fun l' w' hk => ?_) (fun l' ch w' _ hk => ⟨rfl, hk⟩)
  · obtain ⟨vs, h1, h2⟩ := results_run (ds := []) hk
    exact ⟨rfl, _, h1, h2⟩
  · obtain ⟨vs, h1, h2⟩ := results_run (ds := []) hk
    exact ⟨rfl, _, h1, h2⟩
end Go.Proofs.YtgincpkggnndeaaGreatDoor.Vc
