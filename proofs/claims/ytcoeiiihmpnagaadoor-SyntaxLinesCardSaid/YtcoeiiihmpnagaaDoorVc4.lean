/- A function that defers one call, ahead of what follows: what it comes to. Conditions: the deferred function returns, and what it leaves is no panic. -/
import Derived.Test.YtcoeiiihmpnagaaDoorVc3
import Derived.Defers
import Derived.Recover
namespace Go.Proofs.YtcoeiiihmpnagaaDoor.Vc
open Go.RowKit

/-- The deferred call at a region's end. -/
def cutDefer : List Oper → Option (List Oper × Oper × Operand)
  | [] => none
  | [o] => match o.op with
    | .defer ⟨.value f, ⟨[]⟩, _⟩ => some ([], o, f)
    | _ => none
  | o :: r => match cutDefer r with
    | some (pre, d, f) => some (o :: pre, d, f)
    | none => none
def rsOff (ws : List Nat) : List ResultVar → Bool
  | [] => true
  | .tmp t :: r => !(ws.contains t) && rsOff ws r
  | .cell a _ :: r => !(ws.contains a) && rsOff ws r
/-- What comes behind the deferred call. -/
def contsD (P : Program) (rs : List ResultVar) (R : Ending → World → Prop) (g : FuncId) (dargs : List Value) (l0 : Fr) : Conts where
  normal := fun l w => CallsD P g ⟨dargs⟩ .returning w fun e u' w' => (∃ v, e = .returned v) ∧ settle u' = .returning ∧ resK P w' rs l fun vs => R (.returned (retV vs)) w'
  exit := fun _ _ _ => False
  ret := fun l w => CallsD P g ⟨dargs⟩ .returning w fun e u' w' => (∃ v, e = .returned v) ∧ settle u' = .returning ∧ resK P w' rs l fun vs => R (.returned (retV vs)) w'
  panic := fun c w => CallsD P g ⟨dargs⟩ (.panicking c) w fun e u' w' => (∃ v, e = .returned v) ∧ settle u' = .returning ∧ resK P w' rs l0 fun vs => R (.returned (retV vs)) w'
def vcD (P : Program) (pl : Plan) (rs : List ResultVar) (R : Ending → World → Prop) : Code → Nat → Fr → World → Prop
  | .seq a b, p, l, w => match a with
    | .region _ ⟨ops⟩ false => match cutDefer ops with
      | some (pre, d, f) => vcOps P ops (fun l' w' => opK l' f fun fv => calleeK fv fun g first cap => bsel (callable P g && rsOff (written b) rs && d.guard.isNone && d.dst.isNone) (vc P pl b (2 * p + 1) (contsD P rs R g (first ++ cap) l') l' w') False)
          (fun c w' => R (.panicked c) w') pre l w
      | none => vcOps P ops (fun l' w' => vcD P pl rs R b (2 * p + 1) l' w') (fun c w' => R (.panicked c) w') ops l w
    | a => vc P pl a (2 * p) { fnConts P rs R with normal := fun l' w' => vcD P pl rs R b (2 * p + 1) l' w' } l w
  | c, p, l, w => vc P pl c p (fnConts P rs R) l w

theorem cutDefer_out : ∀ {ops pre : List Oper} {d : Oper} {f : Operand}, cutDefer ops = some (pre, d, f) → ops = pre ++ [d] ∧ ∃ ts, d.op = .defer ⟨.value f, ⟨[]⟩, ts⟩
  | [], _, _, _, h => by cases h
  | [o], pre, d, f, h => by
    simp only [cutDefer] at h
    split at h
    · rename_i f' ts ho
      simp only [Option.some.injEq, Prod.mk.injEq] at h
      obtain ⟨rfl, rfl, rfl⟩ := h
      exact ⟨rfl, ts, ho⟩
    · cases h
  | o :: o2 :: r, pre, d, f, h => by
    simp only [cutDefer] at h
    split at h
    · rename_i pre' d' f' h2
      simp only [Option.some.injEq, Prod.mk.injEq] at h
      obtain ⟨rfl, rfl, rfl⟩ := h
      obtain ⟨h3, h4⟩ := cutDefer_out (ops := o2 :: r) h2
      exact ⟨by rw [h3]; rfl, h4⟩
    · cases h
theorem mapM_same {α : Type} {f g : α → Sem Value} : ∀ {rs : List α}, (∀ r ∈ rs, f r = g r) → rs.mapM f = rs.mapM g
  | [], _ => rfl
  | r :: rs, h => by
    rw [List.mapM_cons, List.mapM_cons, h r (by simp), mapM_same fun x hx => h x (by simp [hx])]
theorem resF_off {ws : List Nat} {l l' : Fr} {ds : List Deferred} (ha : AgreeOff ws l l') : ∀ {rs : List ResultVar}, rsOff ws rs = true → ∀ r ∈ rs, resF (act l ds).tmps r = resF (act l' ds).tmps r := by
  have get : ∀ t, (!(ws.contains t)) = true → (act l ds).tmps.getD t undef = (act l' ds).tmps.getD t undef := by
    intro t ht
    have hn : t ∉ ws := by simpa using ht
    have h2 := ha.2 t hn
    simp only [act, Array.getD_eq_getD_getElem?, List.getElem?_toArray, h2]
  intro rs
  induction rs with
  | nil => intro _ r hr; cases hr
  | cons x rs ih =>
    intro h r hr
    cases x with
    | tmp t =>
      simp only [rsOff, Bool.and_eq_true] at h
      rcases List.mem_cons.1 hr with rfl | hr
      · simp only [resF, get t h.1]
      · exact ih h.2 r hr
    | cell a t =>
      simp only [rsOff, Bool.and_eq_true] at h
      rcases List.mem_cons.1 hr with rfl | hr
      · simp only [resF, get a h.1]
      · exact ih h.2 r hr
theorem results_off {fn : Func} {ws : List Nat} {l l' : Fr} {ds : List Deferred} (ha : AgreeOff ws l l') (h : rsOff ws fn.results.toList = true) : results fn (act l ds).tmps = results fn (act l' ds).tmps := by
  have e : ∀ tmps : Array Value, results fn tmps = (do
      let vs ← fn.results.mapM (resF tmps)
      pure (if h : vs.size = 1 then vs[0] else .tuple vs)) := by
    intro tmps
    unfold results
    congr 2
  rw [e, e, Array.mapM_eq_mapM_toList, Array.mapM_eq_mapM_toList, mapM_same (resF_off ha h)]
theorem vcOps_pre {P : Program} {ops : List Oper} {ds : List Deferred} {K : Fr → World → Prop} {E : List PanicEntry → World → Prop} {Q : Exit → Act → World → Prop} {rest : List Oper} (hE : ∀ l' c w', E c w' → Q (.panic c) (act l' ds) w') :
    ∀ {pre : List Oper} {l : Fr} {w : World}, vcOps P ops K E pre l w → (∀ l' w', K l' w' → wpList P ⟨ops⟩ Q rest (act l' ds) w') → wpList P ⟨ops⟩ Q (pre ++ rest) (act l ds) w := by
  intro pre
  induction pre with
  | nil => intro l w h hK; exact hK l w h
  | cons o r ih =>
    intro l w h hK
    have next : ∀ v w', vcOps P ops K E r (put l o.dst v) w' → wpList P ⟨ops⟩ Q (r ++ rest) ((act l ds).put o.dst v) w' := by
      intro v w' h
      rw [act_put]
      exact ih h hK
    rw [List.cons_append]
    unfold wpList
    rcases guardK_out (ds := ds) h with ⟨hw, h⟩ | ⟨hw, h⟩
    · rw [if_pos hw]
      exact .inl (opv_sound h (fun v w' hk => next v w' (putK_out hk)) (fun c w' he => hE l c w' he))
    · rw [if_neg (by simp [hw])]
      exact next undef w (putK_out h)
theorem defer_run {P : Program} {l : Fr} {ds : List Deferred} {o : Oper} {f : Operand} {ts : Array TypeId} (ho : o.op = .defer ⟨.value f, ⟨[]⟩, ts⟩) {g : FuncId} {first cap : List Value}
    (hf : (act l ds).eval f = .func (.func g) ⟨first⟩ ⟨cap⟩) (w : World) :
    (execOp (act l ds).eval o).run P w = .ok (.defer { target := .fn (.func g) ⟨cap⟩, args := ⟨first⟩ }) w := by
  simp only [execOp, ho, resolve, hf, Deferred.ofValue, Sem.run_bind, Sem.run_pure, Result.andThen_ok]
  simp
theorem vcD_sound {P : Program} {pl : Plan} {fn : Func} {R : Ending → World → Prop} : ∀ (c : Code) (p : Nat) (l : Fr) (w : World), vcD P pl fn.results.toList R c p l w → c.wp P (bodyPostD P fn R) (act l []) w := by
  have plain : ∀ (c : Code) (p : Nat) (l : Fr) (w : World) (N : Fr → World → Prop) (Q : Exit → Act → World → Prop), vc P pl c p { fnConts P fn.results.toList R with normal := N } l w → (∀ l' w', N l' w' → Q .normal (act l' []) w') →
      (∀ a w', bodyPostD P fn R .ret a w' → Q .ret a w') → (∀ ch a w', bodyPostD P fn R (.panic ch) a w' → Q (.panic ch) a w') → c.wp P Q (act l []) w := by
    intro c p l w N Q h hN hQr hQp
    refine vc_sound (ds := []) c p _ l w Q h (fun l' w' _ hk => hN l' w' hk) (fun i l' w' _ hk => hk.elim) (fun l' w' hk => hQr _ _ ?_) (fun l' ch w' _ hk => hQp _ _ _ hk)
    obtain ⟨vs, h1, h2⟩ := results_run (ds := []) hk
    exact ⟨_, h1, h2⟩
  have ends : ∀ (c : Code) (p : Nat) (l : Fr) (w : World), vc P pl c p (fnConts P fn.results.toList R) l w → c.wp P (bodyPostD P fn R) (act l []) w := by
    intro c p l w h
    refine plain c p l w _ _ h (fun l' w' hk => ?_) (fun _ _ h => h) (fun _ _ _ h => h)
    obtain ⟨vs, h1, h2⟩ := results_run (ds := []) hk
    exact ⟨_, h1, h2⟩
  intro c
  induction c with
  | seq a b iha ihb =>
    intro p l w h
    simp only [vcD] at h
    have thru : ∀ (N : Fr → World → Prop), vc P pl a (2 * p) { fnConts P fn.results.toList R with normal := N } l w → (∀ l' w', N l' w' → b.wp P (bodyPostD P fn R) (act l' []) w') → (Code.seq a b).wp P (bodyPostD P fn R) (act l []) w := by
      intro N h hN
      refine wp_seq (plain a (2 * p) l w N _ h (fun l' w' hk => hN l' w' hk) (fun a w' hq => hq) (fun ch a w' hq => hq))
    split at h
    · rename_i id ops
      split at h
      · rename_i pre d f hcut
        obtain ⟨hops, ts, hd⟩ := cutDefer_out hcut
        refine wp_seq (wp_region_list ?_)
        have h2 : wpList P ⟨ops⟩ (Exit.then (b.wp P (bodyPostD P fn R)) (bodyPostD P fn R)) (pre ++ [d]) (act l []) w := by
          refine vcOps_pre (fun l' c w' he => he) h fun l' w' hk => ?_
          obtain ⟨g, first, cap, hf, hk⟩ := calleeK_out (opK_out (ds := []) hk)
          obtain ⟨hb, hk⟩ := bsel_true_out hk
          simp only [Bool.and_eq_true] at hb
          obtain ⟨⟨⟨hcall, hoff⟩, hgd⟩, hdst⟩ := hb
          have hg : d.guard = none := by simpa using hgd
          have hds : d.dst = none := by simpa using hdst
          unfold wpList
          rw [if_pos (by simp [Region.wanted, hg])]
          refine .inl ?_
          unfold Oper.wp
          rw [defer_run hd hf, Oper.upon_defer, hds]
          show b.wp P (bodyPostD P fn R) (act l' [{ target := .fn (.func g) ⟨cap⟩, args := ⟨first⟩ }]) w'
          have inv : ∀ w : World, (invoke (.fn (.func g) ⟨cap⟩) ⟨first⟩).run P w = .ok (.enter g ⟨first ++ cap⟩) w := by
            intro w
            simp only [invoke]
            rw [callFunc_run hcall]
            simp
          refine vc_sound (ds := [{ target := .fn (.func g) ⟨cap⟩, args := ⟨first⟩ }]) b _ _ l' w' _ hk (fun l2 w2 _ hk2 => ?_) (fun i l2 w2 _ hk2 => hk2.elim) (fun l2 w2 hk2 => ?_) (fun l2 ch w2 ha hk2 => ?_)
          · refine leaves_cons (by simp) (inv w2) (hk2.mono ?_)
            rintro e u' w3 ⟨⟨v, rfl⟩, hu, hr⟩
            dsimp only
            rw [hu]
            obtain ⟨vs, h1, h2⟩ := results_run (ds := [{ target := .fn (.func g) ⟨cap⟩, args := ⟨first⟩ }]) hr
            exact ⟨_, h1, h2⟩
          · refine leaves_cons (by simp) (inv w2) (hk2.mono ?_)
            rintro e u' w3 ⟨⟨v, rfl⟩, hu, hr⟩
            dsimp only
            rw [hu]
            obtain ⟨vs, h1, h2⟩ := results_run (ds := [{ target := .fn (.func g) ⟨cap⟩, args := ⟨first⟩ }]) hr
            exact ⟨_, h1, h2⟩
          · refine leaves_cons (by simp) (inv w2) (hk2.mono ?_)
            rintro e u' w3 ⟨⟨v, rfl⟩, hu, hr⟩
            dsimp only
            rw [hu]
            obtain ⟨vs, h1, h2⟩ := results_run (ds := [{ target := .fn (.func g) ⟨cap⟩, args := ⟨first⟩ }]) hr
            rw [results_off ha hoff] at h1
            exact ⟨_, h1, h2⟩
        rw [← hops] at h2
        exact h2
      · refine thru (fun l' w' => vcD P pl fn.results.toList R b (2 * p + 1) l' w') h (fun l' w' hk => ihb _ _ _ hk)
    · exact thru (fun l' w' => vcD P pl fn.results.toList R b (2 * p + 1) l' w') h (fun l' w' hk => ihb _ _ _ hk)
  | _ => intro p l w h; exact ends _ p l w h
theorem calls_vcD {P : Program} {f : FuncId} {fn : Func} {c : Code} {args : List Value} {w : World} {R : Ending → World → Prop} (pl : Plan) (hf : P.funcs[f]? = some fn) (hb : fn.body = some c)
    (h : vcD P pl fn.results.toList R c 1 (frame0 fn.ntmps args) w) : Calls P f ⟨args⟩ w R := by
  refine calls_of_wp_defers hf hb ?_
  have e : (Array.mk args) ++ Array.replicate (fn.ntmps - (Array.mk args).size) undef = ⟨frame0 fn.ntmps args⟩ := by
    apply Array.ext'
    simp [frame0_eq]
  rw [e]
  exact vcD_sound c 1 _ w h
end Go.Proofs.YtcoeiiihmpnagaaDoor.Vc
