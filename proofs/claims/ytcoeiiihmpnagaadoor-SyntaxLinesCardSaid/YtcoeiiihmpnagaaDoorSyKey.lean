/- The map literal of the parser's command: what is found in it. Conditions: as each theorem names them. -/
import Derived.Test.YtcoeiiihmpnagaaDoorSyLit
namespace Go.Proofs.YtcoeiiihmpnagaaDoor
open Go.RowKit Vc
variable {w : World}

theorem keyLits_int {d : Nat} {t : TypeId} {n : Int} (ht : Tryd.prog.underlying t = some (.int .i64)) (hn : (Lit.int .i64 n).wf = true) : Tryd.prog.keyLits (d + 1) t [.int .i64 n] = some [.int .i64 n] := by
  unfold Program.keyLits
  rw [ht]
  simp [hn]
theorem keyLits_str {d : Nat} {t : TypeId} {s : List UInt8} (ht : Tryd.prog.underlying t = some .string) (hs : (S s).size ≤ maxLen) : ∃ l, Tryd.prog.keyLits (d + 1) t [.string (S s)] = some l := by
  unfold Program.keyLits
  rw [ht]
  exact ⟨_, if_pos hs⟩
set_option maxRecDepth 100000 in
theorem tok_struct : ∃ f1 f2 : Field, Tryd.prog.underlying cmdTok = some (.struct #[f1, f2]) ∧ f1.offset = 0 ∧ f2.offset = 1 ∧ Tryd.prog.underlying f1.type = some (.int .i64) ∧ Tryd.prog.underlying f2.type = some .string ∧ Tryd.prog.cellsOf f1.type = 1 ∧ Tryd.prog.cellsOf f2.type = 1 ∧ (#[f1, f2].all (·.name != "_")) = true :=
  ⟨_, _, rfl, rfl, rfl, rfl, rfl, rfl, rfl, by simp⟩
theorem key_tok {n : Int} {t : List UInt8} (hn : (Lit.int .i64 n).wf = true) (ht : (S t).size ≤ maxLen) : ∃ lk, keyOf Tryd.prog cmdTok (tokV n t) = some lk := by
  obtain ⟨f1, f2, hu, e1, e2, u1, u2, c1, c2, ha⟩ := tok_struct
  have hk : Tryd.prog.keyType cmdTok = true := by kernel_rfl
  have hc : Tryd.prog.cellsOf cmdTok = 2 := by kernel_rfl
  have hf : (tokV n t).formed Tryd.prog cmdTok = true := by
    simp only [tokV, Value.formed, hu, hc]
    rfl
  obtain ⟨l2, h2⟩ := keyLits_str (d := Tryd.prog.types.size - 1) u2 ht
  have h1 := keyLits_int (d := Tryd.prog.types.size - 1) u1 hn
  have hsz : Tryd.prog.types.size = Tryd.prog.types.size - 1 + 1 := by
    have : 0 < Tryd.prog.types.size := Nat.pos_of_ne_zero fun h => by
      have hx : Nat.ble 1 Tryd.prog.types.size = true := by kernel_rfl
      rw [h] at hx
      cases hx
    omega
  have hl : ∃ ls, Tryd.prog.keyLits (Tryd.prog.types.size + 1) cmdTok [.int .i64 n, .string (S t)] = some ls := by
    have e0 : Tryd.prog.keyLits (Tryd.prog.types.size + 1) cmdTok [.int .i64 n, .string (S t)] = ([f1, f2].mapM fun f => Tryd.prog.keyLits Tryd.prog.types.size f.type ((([Value.int .i64 n, .string (S t)] : List Value).drop f.offset).take (Tryd.prog.cellsOf f.type))).map List.flatten := by
      conv => lhs; unfold Program.keyLits
      rw [hu]
      exact if_pos ⟨by rw [hc]; rfl, ha⟩
    refine ⟨([[.int .i64 n], l2] : List (List Lit)).flatten, e0.trans ?_⟩
    rw [List.mapM_cons, e1, c1]
    have a1 : Tryd.prog.keyLits Tryd.prog.types.size f1.type [.int .i64 n] = some [.int .i64 n] := by rw [hsz]; exact h1
    have a2 : Tryd.prog.keyLits Tryd.prog.types.size f2.type [.string (S t)] = some l2 := by rw [hsz]; exact h2
    have b2 : ([f2].mapM fun f => Tryd.prog.keyLits Tryd.prog.types.size f.type ((([Value.int .i64 n, .string (S t)] : List Value).drop f.offset).take (Tryd.prog.cellsOf f.type))) = some [l2] := by
      rw [List.mapM_cons, e2, c2]
      show (do let y ← Tryd.prog.keyLits Tryd.prog.types.size f2.type [.string (S t)]; _) = _
      rw [a2]
      rfl
    rw [b2]
    show Option.map List.flatten (do let y ← Tryd.prog.keyLits Tryd.prog.types.size f1.type [.int .i64 n]; _) = _
    rw [a1]
    rfl
  obtain ⟨ls, hl⟩ := hl
  unfold keyOf
  rw [hu]
  exact ⟨.string (keyBytes ls), (if_pos (by rw [hk, hf]; rfl)).trans (by show Option.map _ (Tryd.prog.keyLits (Tryd.prog.types.size + 1) cmdTok [.int .i64 n, .string (S t)]) = _; rw [hl]; rfl)⟩
theorem tok_wf {n : Nat} (h : n < 1000) : (Lit.int .i64 (n : Int)).wf = true := by
  have e1 : IntKind.i64.min = -9223372036854775808 := by decide
  have e2 : IntKind.i64.max = 9223372036854775807 := by decide
  simp only [Lit.wf, e1, e2, Bool.and_eq_true, decide_eq_true_eq]
  omega
theorem cmd_keys (k : Nat) (hk : k < 7) : ∃ lk, keyOf Tryd.prog cmdTok (cmdKey k) = some lk :=
  seven (p := fun k => ∃ lk, keyOf Tryd.prog cmdTok (cmdKey k) = some lk) (key_tok (by decide) (by decide)) (key_tok (by decide) (by decide)) (key_tok (by decide) (by decide)) (key_tok (by decide) (by decide)) (key_tok (by decide) (by decide)) (key_tok (by decide) (by decide)) (key_tok (by decide) (by decide)) k hk
theorem tokV_inj {n m : Int} {s t : List UInt8} (h : tokV n s = tokV m t) : n = m ∧ s = t := by
  simp only [tokV, Value.agg.injEq] at h
  have h := congrArg Array.toList h
  simp only [List.cons.injEq, Value.int.injEq, Value.string.injEq, true_and, and_true] at h
  refine ⟨h.1, ?_⟩
  have := congrArg ByteArray.toList h.2
  simpa [S_toList] using this
set_option maxRecDepth 100000 in
theorem cmd_inj (j k : Nat) (hj : j < 7) (hk : k < 7) (h : cmdKey j = cmdKey k) : j = k := by
  have h := tokV_inj h
  have key : ∀ j, j < 7 → ∀ k, k < 7 → (cmdTs.getD j (0, [], 0)).1 = (cmdTs.getD k (0, [], 0)).1 ∧ (cmdTs.getD j (0, [], 0)).2.1 = (cmdTs.getD k (0, [], 0)).2.1 → j = k := by decide
  exact key j hj k hk h
noncomputable def cmdCode : Code := .region 3 cmdOps true
set_option maxRecDepth 100000 in
theorem cmd_lit : LitOk Tryd.prog cmdCode cmdEs := fun Q l ds w hl h => lit_wp cmd_ops rfl rfl tok_law cmd_keys cmd_inj hl h
set_option maxRecDepth 100000 in
theorem look_tok {g n : Nat} {t : List UInt8} {K : Value → Bool → Prop} (hm : MapAt w g cmdEs) (hn : n < 1000) (ht : t.length < 1000000) (h1 : ∀ j, j < 7 → cmdKey j = tokV n t → K (cmdFv j) true) (h2 : (∀ j, j < 7 → cmdKey j ≠ tokV n t) → K .nilFunc false) :
    lookK Tryd.prog cmdT (.map (some g)) (tokV n t) w K := by
  obtain ⟨ms, c, hg, hp⟩ := hm
  obtain ⟨te, hT, hz⟩ : ∃ te, Tryd.prog.underlying cmdT = some (.map cmdTok te) ∧ ∀ w, (zeroValue te).run Tryd.prog w = .ok .nilFunc w := by
    refine ⟨_, rfl, fun w => ?_⟩
    rfl
  obtain ⟨lk, hlk⟩ := key_tok (n := n) (t := t) (tok_wf hn) (by simp only [maxLen]; show t.length ≤ _; omega)
  have KL := Maps.Keyed.of_law tok_law
  have hin : ∀ e ∈ ms.toList, ∃ j, j < 7 ∧ cmdKey j = e.key ∧ cmdFv j = e.val := by
    intro e he
    have : (e.key, e.val) ∈ cmdEs := hp.mem_iff.1 (List.mem_map.2 ⟨e, he, rfl⟩)
    obtain ⟨j, hj, hje⟩ := List.mem_map.1 this
    rw [List.mem_range] at hj
    exact ⟨j, hj, congrArg Prod.fst hje, congrArg Prod.snd hje⟩
  have hall : ∀ e ∈ ms.toList, ∃ l, keyOf Tryd.prog cmdTok e.key = some l := fun e he => by
    obtain ⟨j, hj, e1, _⟩ := hin e he
    rw [← e1]
    exact cmd_keys j hj
  rcases KL.find w hlk ms.toList hall with ⟨f1, f2⟩ | ⟨j, e0, f1, f2, f3⟩
  · refine ⟨.nilFunc, false, by simp [Instr.lookup, run_underlying hT, MapKept.run_getObj_map hg, KL.check w _ hlk, f1, hz, Result.andThen], h2 fun j hj e => ?_⟩
    have : (cmdKey j, cmdFv j) ∈ ms.toList.map fun e => (e.key, e.val) := hp.mem_iff.2 (List.mem_map.2 ⟨j, List.mem_range.2 hj, rfl⟩)
    obtain ⟨e0, he0, ee⟩ := List.mem_map.1 this
    exact f2 e0 he0 ((congrArg Prod.fst ee).trans e)
  · obtain ⟨j, hj, e1, e2⟩ := hin e0 (List.mem_of_getElem? f2)
    refine ⟨e0.val, true, by simp [Instr.lookup, run_underlying hT, MapKept.run_getObj_map hg, KL.check w _ hlk, f1, Result.andThen], ?_⟩
    rw [← e2]
    exact h1 j hj (e1.trans f3)
end Go.Proofs.YtcoeiiihmpnagaaDoor
