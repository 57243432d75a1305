/- Texts of one proof, one behind the other. Conditions: as each theorem names them. -/
import Derived.Test.YtcoeiiihmpnagaaDoorVc4
import Derived.Test.YtcoeiiihmpnagaaDoorKit
import Derived.Maps.Keyed
namespace Go.Proofs.YtcoeiiihmpnagaaDoor
open Go.RowKit Vc

/-! ### Regions by what is listed -/
def bArr (n : Nat) (b : Nat → Bool) : Array Bool := ⟨(List.range n).map b⟩
abbrev upd (b : Nat → Bool) (i : Nat) : Nat → Bool := fun j => if j = i then true else b j
theorem bArr_getD {n : Nat} {b : Nat → Bool} {j : Nat} {d : Bool} (h : j < n) : (bArr n b).getD j d = b j := by
  simp [bArr, Array.getD_eq_getD_getElem?, h]
theorem bArr_set {n i : Nat} {b : Nat → Bool} : (bArr n b).setIfInBounds i true = bArr n (upd b i) := by
  apply Array.ext'
  simp only [bArr, Array.toList_setIfInBounds]
  apply List.ext_getElem?
  intro j
  rw [List.getElem?_set]
  simp only [List.length_map, List.length_range, List.getElem?_map]
  by_cases hj : i = j
  · subst hj
    simp only [↓reduceIte]
    by_cases hi : i < n
    · simp [hi]
    · simp [hi]
  · rw [if_neg hj]
    by_cases hi : j < n
    · simp [hi, Ne.symm hj]
    · simp [hi]
def cnt (b : Nat → Bool) : Nat → Nat
  | 0 => 0
  | n + 1 => cnt b n + (!b n).toNat
theorem cnt_upd {b : Nat → Bool} {i : Nat} (hb : b i = false) : ∀ n, i < n → cnt b n = cnt (upd b i) n + 1
  | 0, h => by omega
  | n + 1, h => by
    have off : ∀ m, m ≤ i → cnt (upd b i) m = cnt b m := by
      intro m
      induction m with
      | zero => intro _; rfl
      | succ m ih =>
        intro hm
        have e : upd b i m = b m := if_neg (show ¬ m = i by omega)
        simp only [cnt, ih (by omega), e]
    simp only [cnt]
    by_cases hn : n = i
    · subst hn
      have e : upd b n n = true := if_pos rfl
      rw [off n (Nat.le_refl _), hb, e]
      rfl
    · rw [cnt_upd hb n (by omega)]
      have e : upd b i n = b n := if_neg hn
      rw [e]
      omega
theorem cnt_zero {b : Nat → Bool} : ∀ n, cnt b n = 0 → ∀ j, j < n → b j = true
  | 0, _, _, h => by omega
  | n + 1, h, j, hj => by
    simp only [cnt] at h
    have hn : b n = true := by
      cases hb : b n with
      | true => rfl
      | false => rw [hb] at h; simp at h
    rcases Nat.lt_succ_iff_lt_or_eq.1 hj with hj | hj
    · exact cnt_zero n (by omega) j hj
    · subst hj
      exact hn
theorem cnt_false : ∀ n, cnt (fun _ => false) n = n
  | 0 => rfl
  | n + 1 => by simp [cnt, cnt_false n]
theorem wpAny_bool {P : Program} {ops : Array Oper} {Q : Exit → Act → World → Prop} {n : Nat} (hn : ops.size = n) (I : (Nat → Bool) → Act → World → Prop)
    (hend : ∀ b a w, I b a w → (∀ j, j < n → b j = true) → Q .normal a w) (hord : ∀ (i : Nat) o, ops[i]? = some o → ∀ e ∈ o.after, Region.binds .any e = true → e.on < i)
    (hstep : ∀ b a w (i : Nat) o, I b a w → ops[i]? = some o → b i = false → (∀ e ∈ o.after, Region.binds .any e = true → b e.on = true) → wpOp P ops Q i (fun a' w' => I (upd b i) a' w') a w) :
    ∀ fuel b a w, cnt b n = fuel → I b a w → wpAny P .any ops Q fuel (bArr n b) a w := by
  have all : ∀ b, Region.ready .any ops (bArr n b) = [] → ∀ j, j < n → b j = true := by
    intro b hr j
    induction j using Nat.strongRecOn with
    | _ j ih =>
      intro hj
      cases hb : b j with
      | true => rfl
      | false =>
        exfalso
        have ho : ops[j]? = some ops[j] := by simp [hn, hj]
        have : j ∈ Region.ready .any ops (bArr n b) := mem_ready.2 ⟨by rw [bArr_getD hj, hb], _, ho, fun e he hbe => by
          have h1 := hord j _ ho e he hbe
          rw [bArr_getD (by omega)]
          exact ih _ h1 (by omega)⟩
        rw [hr] at this
        cases this
  intro fuel
  induction fuel with
  | zero =>
    intro b a w hc hI
    have hall := cnt_zero n hc
    refine ⟨?_, hend b a w hI hall⟩
    refine List.eq_nil_iff_forall_not_mem.2 fun j hj => ?_
    obtain ⟨h1, o, ho, _⟩ := mem_ready.1 hj
    have hj' : j < n := by rw [← hn]; exact (Array.getElem?_eq_some_iff.1 ho).1
    rw [bArr_getD hj', hall j hj'] at h1
    cases h1
  | succ fuel ih =>
    intro b a w hc hI
    refine ⟨fun hr => hend b a w hI (all b hr), fun i hi => ?_⟩
    obtain ⟨h1, o, ho, h2⟩ := mem_ready.1 hi
    have hi' : i < n := by rw [← hn]; exact (Array.getElem?_eq_some_iff.1 ho).1
    rw [bArr_getD hi'] at h1
    rw [bArr_set]
    refine wpOp_mono (fun a' w' h => ih _ a' w' ?_ h) (hstep b a w i o hI ho h1 fun e he hbe => ?_)
    · have := cnt_upd h1 n hi'
      omega
    · have h3 := h2 e he hbe
      have := hord i o ho e he hbe
      rwa [bArr_getD (by omega)] at h3
theorem wpOp_opv {P : Program} {ops : Array Oper} {Q : Exit → Act → World → Prop} {i : Nat} {o : Oper} {next : Act → World → Prop} {l : Fr} {ds : List Deferred} {w : World} (ho : ops[i]? = some o) (hg : o.guard = none)
    (h : opv P l o w (fun v w' => next (act (put l o.dst v) ds) w') (fun _ _ => False)) : wpOp P ops Q i next (act l ds) w := by
  unfold wpOp
  simp only [ho]
  rw [if_pos (by simp [Region.wanted, hg])]
  exact .inl (opv_sound h (fun v w' hk => by rw [act_put]; exact hk) (fun c w' he => he.elim))
theorem getK_in {l : Fr} {t : Nat} {v : Value} {K : Value → Prop} (h : l[t]? = some v) (hk : K v) : getK l t K := by
  induction l generalizing t with
  | nil => cases h
  | cons x l ih => cases t with
    | zero =>
      obtain rfl := Option.some.inj h
      exact hk
    | succ t => exact ih h

/-! ### Maps -/
def MapAt (w : World) (g : Nat) (es : List (Value × Value)) : Prop := ∃ ms c, w.heap[g]? = some (.map ms c) ∧ (ms.toList.map fun e => (e.key, e.val)).Perm es
theorem insert_run {P : Program} {T tk te : TypeId} (hT : P.underlying T = some (.map tk te)) (KL : WideMaps.KeyLaw P tk) {w : World} {g : Nat} {ms : Array MapEntry} {c : Nat} {key x : Value} {lk : Lit} (hg : w.heap[g]? = some (.map ms c)) (hkey : keyOf P tk key = some lk)
    (hall : ∀ e ∈ ms.toList, ∃ l, keyOf P tk e.key = some l) (hne : ∀ e ∈ ms.toList, e.key ≠ key) : (Instr.mapUpdate T (.map (some g)) key x).run P w = .ok () (ChangeMaps.setBlock w g (.map (ms.push ⟨key, x, c⟩) (c + 1))) := by
  have KL := Maps.Keyed.of_law KL
  rcases KL.find w hkey ms.toList hall with ⟨h1, _⟩ | ⟨j, e0, _, h2, h3⟩
  · simp [Instr.mapUpdate, run_underlying hT, MapKept.run_getObj_map hg, KL.check w false hkey, h1, MapKept.run_setObj_map _ hg, Result.andThen, ChangeMaps.setBlock]
  · exact absurd h3 (hne e0 (List.mem_of_getElem? h2))
theorem setBlock_mod (w : World) (g : Nat) (o : Obj) : Mod (fun k => k = g) w (ChangeMaps.setBlock w g o) :=
  ⟨rfl, rfl, rfl, by simp [ChangeMaps.setBlock], fun k _ hk => by simp only [ChangeMaps.setBlock]; rw [Array.getElem?_setIfInBounds_ne (fun e => hk e.symm)]⟩
end Go.Proofs.YtcoeiiihmpnagaaDoor
namespace Go.Proofs.YtcoeiiihmpnagaaDoor
open Go.RowKit Vc

structure LitOps (P : Program) (ops : Array Oper) (T : TypeId) (key fv : Nat → Value) : Prop where
  size : ops.size = 17
  ord : ∀ (i : Nat) o, ops[i]? = some o → ∀ e ∈ o.after, Region.binds .any e = true → e.on < i
  o0 : ∃ o T', ops[0]? = some o ∧ o.guard = none ∧ o.dst = some 12 ∧ o.op = .makeMap T' none
  ob : ∀ k, k < 7 → ∃ o, ops[2 * k + 1]? = some o ∧ o.guard = none ∧ o.dst = some (13 + k) ∧ ∀ l w (K : KW), K (key k) w → opv P l o w K (fun _ _ => False)
  oi : ∀ k, k < 7 → ∃ o f, ops[2 * k + 2]? = some o ∧ o.guard = none ∧ o.dst = none ∧ o.op = .insert T (.tmp 12) (.tmp (13 + k)) (.func f) ∧ fv k = .func (.func f) #[] #[] ∧ (∃ e ∈ o.after, Region.binds .any e = true ∧ e.on = 0) ∧ ∃ e ∈ o.after, Region.binds .any e = true ∧ e.on = 2 * k + 1
  om : ∃ o, ops[15]? = some o ∧ o.guard = none ∧ o.dst = some 20 ∧ o.op = .move (.tmp 12) ∧ ∃ e ∈ o.after, Region.binds .any e = true ∧ e.on = 0
  oa : ∃ o, ops[16]? = some o ∧ o.guard = none ∧ o.dst = some 5 ∧ o.op = .assign (.tmp 20) ∧ ∃ e ∈ o.after, Region.binds .any e = true ∧ e.on = 15
abbrev wsL : List Nat := [5, 12, 13, 14, 15, 16, 17, 18, 19, 20]
structure LI (l0 : Fr) (w0 : World) (key fv : Nat → Value) (b : Nat → Bool) (l : Fr) (w : World) : Prop where
  off : AgreeOff wsL l0 l
  kb : ∀ k, k < 7 → b (2 * k + 1) = true → l[13 + k]? = some (key k)
  m0 : b 0 = false → w = w0 ∧ ∀ k, k < 7 → b (2 * k + 2) = false
  m1 : b 0 = true → l[12]? = some (.map (some w0.heap.size)) ∧ Still w0 w ∧ w.heap.size = w0.heap.size + 1 ∧ MapAt w w0.heap.size (((List.range 7).filter fun k => b (2 * k + 2)).map fun k => (key k, fv k))
  mm : b 15 = true → l[20]? = some (.map (some w0.heap.size))
  ma : b 16 = true → l[5]? = some (.map (some w0.heap.size))
theorem upd_ne {b : Nat → Bool} {i j : Nat} (h : j ≠ i) : upd b i j = b j := if_neg h
theorem upd_eq {b : Nat → Bool} {i : Nat} : upd b i i = true := if_pos rfl
theorem off_put {l0 l : Fr} {d : Nat} {v : Value} (h : AgreeOff wsL l0 l) (hd : d ∈ wsL) : AgreeOff wsL l0 (put l (some d) v) :=
  h.trans (AgreeOff.put l (some d) v) (fun _ h => h) (fun t ht => by rw [Option.mem_toList] at ht; cases ht; exact hd)
theorem put_ne {l : Fr} {d t : Nat} {v : Value} (h : d ≠ t) : (put l (some d) v)[t]? = l[t]? := List.getElem?_set_ne h
theorem put_eq {l : Fr} {d : Nat} {v : Value} (h : d < l.length) : (put l (some d) v)[d]? = some v := List.getElem?_set_self h
theorem filter_upd {b : Nat → Bool} {k : Nat} (hk : k < 7) (hb : b (2 * k + 2) = false) : ((List.range 7).filter fun j => upd b (2 * k + 2) (2 * j + 2)).Perm (((List.range 7).filter fun j => b (2 * j + 2)) ++ [k]) := by
  have nd : (List.range 7).Nodup := List.nodup_range
  refine (List.perm_ext_iff_of_nodup (nd.filter _) ?_).2 fun j => ?_
  · refine List.nodup_append.2 ⟨nd.filter _, by simp, fun a ha c hc => ?_⟩
    obtain rfl := List.mem_singleton.1 hc
    rintro rfl
    rw [List.mem_filter, hb] at ha
    cases ha.2
  · simp only [List.mem_filter, List.mem_range, List.mem_append, List.mem_singleton]
    by_cases hj : j = k
    · subst hj
      rw [upd_eq]
      simp [hk]
    · rw [upd_ne (by omega)]
      simp [hj]
theorem lit_wp {P : Program} {ops : Array Oper} {T tk te : TypeId} {key fv : Nat → Value} (hL : LitOps P ops T key fv) (hm : P.follows .mixedOrders = true) (hT : P.underlying T = some (.map tk te)) (KL : WideMaps.KeyLaw P tk)
    (hkeys : ∀ k, k < 7 → ∃ lk, keyOf P tk (key k) = some lk) (hinj : ∀ j k, j < 7 → k < 7 → key j = key k → j = k) {id : Nat} {Q : Exit → Act → World → Prop} {l : Fr} {ds : List Deferred} {w : World} (hl : 21 ≤ l.length)
    (hQ : ∀ l' w', AgreeOff wsL l l' → l'[5]? = some (.map (some w.heap.size)) → Still w w' → w'.heap.size = w.heap.size + 1 → MapAt w' w.heap.size ((List.range 7).map fun k => (key k, fv k)) → Q .normal (act l' ds) w') :
    (Code.region id ops true).wp P Q (act l ds) w := by
  refine wp_region_any hm ?_
  have e0 : Array.replicate ops.size false = bArr 17 (fun _ => false) := by
    apply Array.ext'
    rw [hL.size]
    rfl
  rw [e0]
  refine wpAny_bool hL.size (fun b a w' => ∃ l', a = act l' ds ∧ LI l w.drew key fv b l' w') ?_ hL.ord ?_ _ _ _ _ (by rw [cnt_false, hL.size]) ⟨l, rfl, AgreeOff.refl _ _, fun _ _ h => (by cases h), fun _ => ⟨rfl, fun _ _ => rfl⟩, fun h => (by cases h), fun h => (by cases h), fun h => (by cases h)⟩
  · rintro b _ w' ⟨l', rfl, h⟩ hall
    obtain ⟨_, h2, h3, h4⟩ := h.m1 (hall 0 (by omega))
    refine hQ l' w' h.off (h.ma (hall 16 (by omega))) (Still.ofDrew h2) h3 ?_
    have : (List.range 7).filter (fun k => b (2 * k + 2)) = List.range 7 := List.filter_eq_self.2 fun k hk => hall _ (by have := List.mem_range.1 hk; omega)
    rw [this] at h4
    exact h4
  · rintro b _ w' i o ⟨l', rfl, h⟩ ho hb haft
    have hlen := h.off.1
    have hi : i < 17 := by rw [← hL.size]; exact (Array.getElem?_eq_some_iff.1 ho).1
    have cases5 : i = 0 ∨ (∃ k, k < 7 ∧ i = 2 * k + 1) ∨ (∃ k, k < 7 ∧ i = 2 * k + 2) ∨ i = 15 ∨ i = 16 := by
      by_cases h15 : i = 15
      · exact .inr (.inr (.inr (.inl h15)))
      by_cases h16 : i = 16
      · exact .inr (.inr (.inr (.inr h16)))
      by_cases h0 : i = 0
      · exact .inl h0
      by_cases h2 : i % 2 = 0
      · exact .inr (.inr (.inl ⟨i / 2 - 1, by omega, by omega⟩))
      · exact .inr (.inl ⟨i / 2, by omega, by omega⟩)
    rcases cases5 with rfl | ⟨k, hk, rfl⟩ | ⟨k, hk, rfl⟩ | rfl | rfl
    · obtain ⟨o', T', ho', hg, hd, hop⟩ := hL.o0
      rw [ho] at ho'
      obtain rfl := Option.some.inj ho'
      obtain ⟨rfl, hno⟩ := h.m0 hb
      refine wpOp_opv ho hg ?_
      simp only [opv, hop, hd]
      refine ⟨_, rfl, off_put h.off (by simp), fun k hk hbk => ?_, fun hf => ?_, fun _ => ⟨put_eq (by omega), (Mod.refl _ _).alloc _, World.size_alloc .., ?_⟩, fun hf => ?_, fun hf => ?_⟩
      · rw [upd_ne (by omega)] at hbk
        rw [put_ne (by omega)]
        exact h.kb k hk hbk
      · rw [upd_eq] at hf
        cases hf
      · have : (List.range 7).filter (fun k => upd b 0 (2 * k + 2)) = [] := List.filter_eq_nil_iff.2 fun k hk => by
          rw [upd_ne (by omega), hno k (List.mem_range.1 hk)]
          decide
        rw [this]
        exact ⟨#[], 0, Array.getElem?_push_size, List.Perm.nil⟩
      · rw [upd_ne (by omega)] at hf
        rw [put_ne (by omega)]
        exact h.mm hf
      · rw [upd_ne (by omega)] at hf
        rw [put_ne (by omega)]
        exact h.ma hf
    · obtain ⟨o', ho', hg, hd, hop⟩ := hL.ob k hk
      rw [ho] at ho'
      obtain rfl := Option.some.inj ho'
      refine wpOp_opv ho hg (hop _ _ _ ?_)
      rw [hd]
      have hmem : 13 + k ∈ wsL := by
        have : k = 0 ∨ k = 1 ∨ k = 2 ∨ k = 3 ∨ k = 4 ∨ k = 5 ∨ k = 6 := by omega
        rcases this with rfl | rfl | rfl | rfl | rfl | rfl | rfl <;> simp
      refine ⟨_, rfl, off_put h.off hmem, fun j hj hbj => ?_, fun hf => ?_, fun hf => ?_, fun hf => ?_, fun hf => ?_⟩
      · by_cases hjk : j = k
        · subst hjk
          exact put_eq (by omega)
        · rw [upd_ne (by omega)] at hbj
          rw [put_ne (by omega)]
          exact h.kb j hj hbj
      · rw [upd_ne (by omega)] at hf
        obtain ⟨e1, e2⟩ := h.m0 hf
        exact ⟨e1, fun j hj => by rw [upd_ne (by omega)]; exact e2 j hj⟩
      · rw [upd_ne (by omega)] at hf
        obtain ⟨e1, e2, e3, e4⟩ := h.m1 hf
        refine ⟨by rw [put_ne (by omega)]; exact e1, e2, e3, ?_⟩
        have : (List.range 7).filter (fun j => upd b (2 * k + 1) (2 * j + 2)) = (List.range 7).filter (fun j => b (2 * j + 2)) := List.filter_congr fun j _ => upd_ne (by omega)
        rw [this]
        exact e4
      · rw [upd_ne (by omega)] at hf
        rw [put_ne (by omega)]
        exact h.mm hf
      · rw [upd_ne (by omega)] at hf
        rw [put_ne (by omega)]
        exact h.ma hf
    · obtain ⟨o', f, ho', hg, hd, hop, hfv, ⟨e1, he1, hb1, hon1⟩, e2, he2, hb2, hon2⟩ := hL.oi k hk
      rw [ho] at ho'
      obtain rfl := Option.some.inj ho'
      have hb0 := haft e1 he1 hb1
      have hbk := haft e2 he2 hb2
      rw [hon1] at hb0
      rw [hon2] at hbk
      obtain ⟨h12, hst, hsz, ms, c, hms, hperm⟩ := h.m1 hb0
      have hkk := h.kb k hk hbk
      have hin : ∀ e ∈ ms.toList, ∃ j, j < 7 ∧ b (2 * j + 2) = true ∧ key j = e.key := by
        intro e he
        have : (e.key, e.val) ∈ ((List.range 7).filter fun k => b (2 * k + 2)).map fun k => (key k, fv k) := hperm.mem_iff.1 (List.mem_map.2 ⟨e, he, rfl⟩)
        obtain ⟨j, hj, hje⟩ := List.mem_map.1 this
        rw [List.mem_filter, List.mem_range] at hj
        exact ⟨j, hj.1, hj.2, congrArg Prod.fst hje⟩
      obtain ⟨lk, hlk⟩ := hkeys k hk
      have hrun := insert_run (x := fv k) hT KL hms hlk (fun e he => by
        obtain ⟨j, hj, _, hje⟩ := hin e he
        rw [← hje]
        exact hkeys j hj) (fun e he hke => by
        obtain ⟨j, hj, hbj, hje⟩ := hin e he
        obtain rfl := hinj j k hj hk (hje.trans hke)
        rw [hb] at hbj
        cases hbj)
      refine wpOp_opv ho hg ?_
      simp only [opv, hop, hd]
      refine getK_in h12 (getK_in hkk ?_)
      show mapUpK P T (.map (some w.drew.heap.size)) (key k) (.func (.func f) #[] #[]) w' _
      rw [← hfv]
      refine ⟨_, hrun, l', rfl, h.off, fun j hj hbj => ?_, fun hf => ?_, fun _ => ⟨h12, Mod.trans hst (setBlock_mod _ _ _) (fun _ h => h) (fun i hi e => by omega), by simpa [ChangeMaps.setBlock] using hsz, ?_⟩, fun hf => ?_, fun hf => ?_⟩
      · rw [upd_ne (by omega)] at hbj
        exact h.kb j hj hbj
      · rw [upd_ne (by omega), hb0] at hf
        cases hf
      · refine ⟨_, _, by simp only [ChangeMaps.setBlock]; rw [Array.getElem?_setIfInBounds_self, if_pos (by omega)], ?_⟩
        rw [Array.toList_push, List.map_append]
        refine List.Perm.trans (hperm.append_right _) ?_
        have := (filter_upd hk hb).map fun k => (key k, fv k)
        rw [List.map_append] at this
        exact this.symm
      · rw [upd_ne (by omega)] at hf
        exact h.mm hf
      · rw [upd_ne (by omega)] at hf
        exact h.ma hf
    · obtain ⟨o', ho', hg, hd, hop, e1, he1, hb1, hon1⟩ := hL.om
      rw [ho] at ho'
      obtain rfl := Option.some.inj ho'
      have hb0 := haft e1 he1 hb1
      rw [hon1] at hb0
      have h12 := (h.m1 hb0).1
      refine wpOp_opv ho hg ?_
      simp only [opv, opq, hop, hd]
      refine getK_in h12 ⟨_, rfl, off_put h.off (by simp), fun j hj hbj => ?_, fun hf => ?_, fun hf => ?_, fun _ => put_eq (by omega), fun hf => ?_⟩
      · rw [upd_ne (by omega)] at hbj
        rw [put_ne (by omega)]
        exact h.kb j hj hbj
      · rw [upd_ne (by omega), hb0] at hf
        cases hf
      · obtain ⟨e1, e2, e3, e4⟩ := h.m1 hb0
        refine ⟨by rw [put_ne (by omega)]; exact e1, e2, e3, ?_⟩
        have : (List.range 7).filter (fun j => upd b 15 (2 * j + 2)) = (List.range 7).filter (fun j => b (2 * j + 2)) := List.filter_congr fun j _ => upd_ne (by omega)
        rw [this]
        exact e4
      · rw [upd_ne (by omega)] at hf
        rw [put_ne (by omega)]
        exact h.ma hf
    · obtain ⟨o', ho', hg, hd, hop, e1, he1, hb1, hon1⟩ := hL.oa
      rw [ho] at ho'
      obtain rfl := Option.some.inj ho'
      have hb15 := haft e1 he1 hb1
      rw [hon1] at hb15
      have h20 := h.mm hb15
      refine wpOp_opv ho hg ?_
      simp only [opv, opq, hop, hd]
      refine getK_in h20 ⟨_, rfl, off_put h.off (by simp), fun j hj hbj => ?_, fun hf => ?_, fun hf => ?_, fun hf => ?_, fun _ => ?_⟩
      · rw [upd_ne (by omega)] at hbj
        rw [put_ne (by omega)]
        exact h.kb j hj hbj
      · rw [upd_ne (by omega)] at hf
        obtain ⟨e1, e2⟩ := h.m0 hf
        exact ⟨e1, fun j hj => by rw [upd_ne (by omega)]; exact e2 j hj⟩
      · rw [upd_ne (by omega)] at hf
        obtain ⟨e1, e2, e3, e4⟩ := h.m1 hf
        refine ⟨by rw [put_ne (by omega)]; exact e1, e2, e3, ?_⟩
        have : (List.range 7).filter (fun j => upd b 16 (2 * j + 2)) = (List.range 7).filter (fun j => b (2 * j + 2)) := List.filter_congr fun j hj => upd_ne (by have := List.mem_range.1 hj; omega)
        rw [this]
        exact e4
      · rw [upd_ne (by omega)] at hf
        rw [put_ne (by omega)]
        exact h.mm hf
      · have h5 : 5 < l'.length := by omega
        exact put_eq h5
end Go.Proofs.YtcoeiiihmpnagaaDoor
namespace Go.Proofs.YtcoeiiihmpnagaaDoor
open Go.RowKit Vc

def litK (w : World) (es : List (Value × Value)) (K : (Nat → Value) → World → Prop) : Prop :=
  ∀ (us : Nat → Value) (w' : World), Still w w' → w'.heap.size = w.heap.size + 1 → MapAt w' w.heap.size es → K us w'
def LitOk (P : Program) (c : Code) (es : List (Value × Value)) : Prop :=
  ∀ (Q : Exit → Act → World → Prop) (l : Fr) (ds : List Deferred) (w : World), 21 ≤ l.length → (∀ l' w', AgreeOff wsL l l' → l'[5]? = some (.map (some w.heap.size)) → Still w w' → w'.heap.size = w.heap.size + 1 → MapAt w' w.heap.size es → Q .normal (act l' ds) w') → c.wp P Q (act l ds) w
theorem calls_vc_lit {P : Program} {f : FuncId} {fn : Func} {A B C D : Code} {args : List Value} {w : World} {R : Ending → World → Prop} {es : List (Value × Value)} (pl : Plan) (hC : LitOk P C es) (hf : P.funcs[f]? = some fn) (hb : fn.body = some (.seq A (.seq B (.seq C D)))) (hn : 21 ≤ fn.ntmps)
    (h : vc P pl A 2 { fnConts P fn.results.toList R with normal := fun l1 w1 => vc P pl B 6 { fnConts P fn.results.toList R with normal := fun l2 w2 => litK w2 es fun us w3 => havocK us wsL l2 fun l3 => setK l3 5 (.map (some w2.heap.size)) fun l4 => vc P pl D 15 (fnConts P fn.results.toList R) l4 w3 } l1 w1 } (frame0 fn.ntmps args) w) : Calls P f ⟨args⟩ w R := by
  refine calls_of_wp hf hb ?_
  have e : (Array.mk args) ++ Array.replicate (fn.ntmps - (Array.mk args).size) undef = ⟨frame0 fn.ntmps args⟩ := by
    apply Array.ext'
    simp [frame0_eq]
  rw [e]
  have hlen : 21 ≤ (frame0 fn.ntmps args).length := by
    rw [frame0_eq]
    simp only [List.length_append, List.length_replicate]
    omega
  have ret : ∀ l' w', (fnConts P fn.results.toList R).ret l' w' → bodyPost P fn R .ret (act l' []) w' := fun l' w' hk => by
    obtain ⟨vs, h1, h2⟩ := results_run (ds := []) hk
    exact ⟨rfl, _, h1, h2⟩
  have nor : ∀ l' w', (fnConts P fn.results.toList R).normal l' w' → bodyPost P fn R .normal (act l' []) w' := fun l' w' hk => by
    obtain ⟨vs, h1, h2⟩ := results_run (ds := []) hk
    exact ⟨rfl, _, h1, h2⟩
  refine wp_seq (vc_sound (ds := []) A 2 _ _ w _ h (fun l1 w1 ha1 hk1 => ?_) (fun i l' w' _ hk => hk.elim) (fun l' w' hk => ret l' w' hk) (fun l' ch w' _ hk => ⟨rfl, hk⟩))
  refine wp_seq (vc_sound (ds := []) B 6 _ _ w1 _ hk1 (fun l2 w2 ha2 hk2 => ?_) (fun i l' w' _ hk => hk.elim) (fun l' w' hk => ret l' w' hk) (fun l' ch w' _ hk => ⟨rfl, hk⟩))
  refine wp_seq (hC _ _ _ _ (by rw [ha2.1, ha1.1]; exact hlen) fun l3 w3 ha3 h5 hst hsz hm => ?_)
  have h4 := frame_back (sp := [(5, .leaf .raw)]) (vs := [.map (some w2.heap.size)]) (K := fun l4 => vc P pl D 15 (fnConts P fn.results.toList R) l4 w3) ha3 ⟨h5, trivial⟩ fun us => hk2 us w3 hst hsz hm
  exact vc_sound (ds := []) D 15 _ _ w3 _ h4 (fun l' w' _ hk => nor l' w' hk) (fun i l' w' _ hk => hk.elim) (fun l' w' hk => ret l' w' hk) (fun l' ch w' _ hk => ⟨rfl, hk⟩)
end Go.Proofs.YtcoeiiihmpnagaaDoor
