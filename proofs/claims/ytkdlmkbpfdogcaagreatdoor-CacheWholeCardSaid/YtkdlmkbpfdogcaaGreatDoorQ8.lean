/- Texts of one proof, one behind the other. Conditions: as each theorem names them. -/
import Derived.Test.YtkdlmkbpfdogcaaGreatDoorQ7
import Derived.Test.YtkdlmkbpfdogcaaGreatDoorRows
import Derived.ProofKit
import Derived.Deep.Slices
import Derived.Deep.Fields
import Derived.ChangeSame
import Derived.Lib.SmallJoins
import Derived.SizedLaws
import Derived.Deep.DeepHandedRow
import Derived.Stop.LaidErr
import Derived.Lib.LaidTab
import Derived.MakeChecks
import Derived.ChangeSlices
namespace Go.Proofs.YtkdlmkbpfdogcaaGreatDoor
open Go.ChangeShapes Go.WideShapes Go.ChangeAt Go.RowKit
theorem Tryz.own : ownKnob Tryz.prog.godebug = none := by kernel_rfl
theorem Tryz.laidOut : laidOutB Tryz.prog = true := by kernel_rfl
section
variable {H : Type} {enc : TypeId × Value → H} {P : Program}
theorem post_of_below {f : Func} {s : ChangeSpec} {apart fresh handsOn again : Bool} {W W' : World} {args : Array Value} {v : Value} {ds gs : List (DataW H)} {before pa pv : List MemPlace}
    (hW : DataW.Whole enc P f.params.toList s.vars apart W args.toList ds gs before)
    (hres : ∀ (b : Nat) (sp : Nat → Bool) (hd : Bool), DataW.TrodAll enc P W' b sp hd f.resultTypes.toList (v.resultList f.resultTypes.size) (s.fn H (ds ++ gs)).results [])
    (hargs : ∀ sp : Nat → Bool, (∀ p ∈ before, sp p.block = true) → DataW.TrodAll enc P W' 0 sp true f.params.toList args.toList (s.fn H (ds ++ gs)).args pa)
    (hvars : ∀ sp : Nat → Bool, (∀ p ∈ before, sp p.block = true) → DataW.TrodVars enc P W' sp s.vars (s.fn H (ds ++ gs)).vars pv)
    (hps : before = pa ++ pv) (hb : Below W.heap.size W W')
    (hok : ∀ (j : Nat) (t : TypeId) (r : Value), f.resultTypes[j]? = some t → (v.resultList f.resultTypes.size)[j]? = some r → Value.okWide P W' .any 0 t r) :
    s.post enc P f apart fresh handsOn again W args v W' := by
  have hlt : ∀ p ∈ before, p.block < W.heap.size := fun p hp => hW.lt p hp
  have hold : ∀ p ∈ before, (fun b => decide (b < W.heap.size)) p.block = true := fun p hp => by simpa using hlt p hp
  refine ⟨ds, gs, before, [], pa, pv, hW, hres _ _ _, hargs _ hold, hvars _ hold, World.keptBut_mono (fun p hp => ⟨hp, ?_⟩) (hb.frame (· ∈ before)), fun _ => ?_⟩
  · rw [hps, List.mem_append] at hp
    exact Or.inr hp
  · obtain ⟨_, _, _, _, _, hz, hn⟩ := hW
    refine ⟨hok, _, _, ([] ++ pa) ++ pv, ⟨[] ++ pa, pv, trodAll_append (hargs _ (fun _ _ => rfl)) (hres _ _ _), hvars _ (fun _ _ => rfl), rfl, ?_, ?_⟩, ?_⟩
    · intro b off hp
      have hin : MemPlace.cell b off ∈ before := by rw [hps]; simpa using hp
      rw [hb.frozen (hlt _ hin)]
      exact hz b off hin
    · intro ha
      have := hn ha
      rw [hps] at this
      simpa using this
    · intro p hp _
      rw [hps]
      simpa using hp
theorem trodAll_below {W W' : World} (hl : laidOutB P = true) (hb : Below W.heap.size W W') {sp : Nat → Bool} : ∀ {ts : List TypeId} {vs : List Value} {ds : List (DataW H)} {ps : List MemPlace},
    ts.all (fun t => P.readableRec t && decide (t < P.types.size)) = true → DataW.TrodAll enc P W 0 (fun _ => true) true ts vs ds ps → (∀ x ∈ ps, x.block < W.heap.size) → (∀ x ∈ ps, sp x.block = true) →
    DataW.TrodAll enc P W' 0 sp true ts vs ds ps := by
  intro ts
  induction ts with
  | nil =>
    intro vs ds ps _ h _ _
    obtain ⟨rfl, rfl, rfl⟩ := trodAll_nil h
    exact trodAll_mk0
  | cons t ts ih =>
    intro vs ds ps hts h hlt hsp
    obtain ⟨v, vs, d, ds, p, q, rfl, rfl, rfl, h0, h1⟩ := trodAll_cons h
    simp only [List.all_cons, Bool.and_eq_true, decide_eq_true_eq] at hts
    exact ⟨p, q, (WideElems.Trod_stays hl hts.1.1 hts.1.2 h0 (fun x hx => hb.same (hlt x (List.mem_append_left _ hx))) (fun x hx => hsp x (List.mem_append_left _ hx))),
      (ih hts.2 h1 (fun x hx => hlt x (List.mem_append_right _ hx)) (fun x hx => hsp x (List.mem_append_right _ hx))), rfl⟩
theorem trodAll_length {W : World} {b : Nat} {sp : Nat → Bool} {hd : Bool} : ∀ {ts : List TypeId} {vs : List Value} {ds : List (DataW H)} {ps : List MemPlace}, DataW.TrodAll enc P W b sp hd ts vs ds ps → ds.length = ts.length := by
  intro ts
  induction ts with
  | nil =>
    intro vs ds ps h
    obtain ⟨rfl, rfl, rfl⟩ := trodAll_nil h
    rfl
  | cons t ts ih =>
    intro vs ds ps h
    obtain ⟨v, vs, d, ds, p, q, rfl, rfl, rfl, h0, h1⟩ := trodAll_cons h
    simp [ih h1]
end
end Go.Proofs.YtkdlmkbpfdogcaaGreatDoor
namespace Go.Proofs.YtkdlmkbpfdogcaaGreatDoor
open Go.ChangeShapes Go.WideShapes Go.Deep Go.RowKit
section
variable {H : Type} {enc : TypeId × Value → H} {P : Program} {w : World} {base : Nat} {spare : Nat → Bool} {held : Bool}
theorem open_slice_fields {t e : TypeId} {fs : Array Field} {fuel : Nat} {cs : List Value} {x : DataW H × List MemPlace} (ht : P.underlying t = some (.slice e)) (he : P.underlying e = some (.struct fs))
    (hone : oneCellFields P fs = true) (hC : P.cellsOf e = fs.size) (h : DataW.trod enc P w base spare held fuel t cs = some x) :
    (cs = [.slice none 0 0] ∧ x = (.nil, [])) ∨
    ∃ (a : Addr) (len cap m : Nat) (D : Nat → DataW H) (Pl : Nat → List MemPlace), cs = [.slice (some a) len cap] ∧ base ≤ a.block ∧ len ≤ cap ∧ cap ≤ maxLen ∧ m = (if spare a.block then cap else len) ∧
      x = (.slice ((List.range len).map D) ((List.range (m - len)).map fun j => D (len + j)), MemPlace.row a (m * fs.size) ++ (List.range m).flatMap Pl) ∧
      ∀ i, i < m → ∃ (ys : List (DataW H × List MemPlace)) (n : Nat), D i = .agg (ys.map (·.1)) ∧ Pl i = ys.flatMap (·.2) ∧ ys.length = fs.size ∧
        ∀ (j : Nat) (f : Field), fs[j]? = some f → ∃ (v : Value) (y : DataW H × List MemPlace), w.cell? (a.add (i * fs.size + j)) = some v ∧ ys[j]? = some y ∧ DataW.trod enc P w base spare held n f.type [v] = some y := by
  rcases open_slice ht h with h0 | ⟨a, len, cap, m, n, D, Pl, hcs, hb, hl, hm, hmm, hx, hi⟩
  · exact .inl h0
  · refine .inr ⟨a, len, cap, m, D, Pl, hcs, hb, hl, hm, hmm, by rw [hC] at hx; exact hx, fun i him => ?_⟩
    obtain ⟨cs', hc, ht'⟩ := hi i him
    rw [hC] at hc
    obtain ⟨ys, n', hn', hy, hlen, hyl, hf⟩ := DataW.trod_struct he ht'
    obtain ⟨_, hcl, hat⟩ := World.cells?_some hc
    simp only [Prod.mk.injEq] at hy
    refine ⟨ys, n', hy.1, hy.2, hyl, fun j f hj => ?_⟩
    obtain ⟨ho, hk⟩ := hone_of hone j f hj
    have hjl : j < fs.size := (Array.getElem?_eq_some_iff.1 hj).1
    have hcell := hat j hjl
    have hv : cs'[j]? = some (cs'[j]'(by omega)) := List.getElem?_eq_getElem (by omega)
    have h1 := hf j f hj
    rw [ho, hk] at h1
    have hone' : (cs'.drop j).take 1 = [cs'[j]'(by omega)] := by
      rw [List.drop_eq_getElem_cons (by omega)]
      rfl
    rw [hone'] at h1
    have hys : ys[j]? = some (ys[j]'(by omega)) := List.getElem?_eq_getElem (by omega)
    refine ⟨_, _, ?_, hys, h1.trans hys⟩
    rw [← Go.Deep.add_add, hcell, hv]
theorem trod_intcell {k : IntKind} {n : Nat} {t : TypeId} {v : Value} {y : DataW H × List MemPlace} (ht : P.underlying t = some (.int k)) (h : DataW.trod enc P w base spare held n t [v] = some y) : ∃ x, v = .int k x ∧ (Lit.int k x).wf = true := by
  obtain ⟨x, hc, _, hw⟩ := DataW.trod_int ht h
  simp at hc
  exact ⟨x, hc, hw⟩
theorem wf_u64 {n : Int} (h : (Lit.int .u64 n).wf = true) : 0 ≤ n ∧ n < 18446744073709551616 := by
  simp [Lit.wf, IntKind.min, IntKind.max, IntKind.signed, IntKind.bits] at h
  omega
theorem wf_u8 {n : Int} (h : (Lit.int .u8 n).wf = true) : 0 ≤ n ∧ n < 256 := by
  simp [Lit.wf, IntKind.min, IntKind.max, IntKind.signed, IntKind.bits] at h
  omega
end
end Go.Proofs.YtkdlmkbpfdogcaaGreatDoor
namespace Go.Proofs.YtkdlmkbpfdogcaaGreatDoor
open Go.ChangeShapes Go.WideShapes Go.ChangeAt Go.RowKit Go.Deep
section
variable {H : Type} {enc : TypeId × Value → H} {P : Program}
def Sized (P : Program) (t : TypeId) (d : DataW H) : Prop := ∀ n ∈ d.weights P t, n ≤ reachBytes
theorem Sized.str {t : TypeId} {l : List UInt8} (h : Sized P t (.lit (.string l) : DataW H)) : l.length ≤ 140737488355328 := by
  have := h l.length (by simp [DataW.weights])
  have e : reachBytes = 140737488351232 := rfl
  omega
theorem Sized.field {t : TypeId} {fs : Array Field} {parts : List (DataW H)} (h : Sized P t (.agg parts : DataW H)) (hu : P.underlying t = some (.struct fs)) {j : Nat} {f : Field} {d : DataW H} (hf : fs[j]? = some f) (hd : parts[j]? = some d) : Sized P f.type d := by
  intro n hn
  refine h n ?_
  simp only [DataW.weights, hu]
  exact DataW.weights_mem_each (j := j) (t := f.type) (by simp [hf]) hd n hn
theorem weightsAll_mem {e : TypeId} : ∀ {ds : List (DataW H)} {d : DataW H}, d ∈ ds → ∀ n ∈ d.weights P e, n ∈ DataW.weightsAll P e ds
  | d0 :: ds, d, hd, n, hn => by
    simp only [DataW.weightsAll, List.mem_append]
    rcases List.mem_cons.1 hd with rfl | hd
    · exact .inl hn
    · exact .inr (weightsAll_mem hd n hn)
theorem Sized.elem {t e : TypeId} {elems spare : List (DataW H)} (h : Sized P t (.slice elems spare : DataW H)) (hu : P.underlying t = some (.slice e)) {d : DataW H} (hd : d ∈ elems) : Sized P e d := by
  intro n hn
  refine h n ?_
  simp only [DataW.weights, hu, List.mem_cons, List.mem_append]
  exact .inr (.inl (weightsAll_mem hd n hn))
theorem Sized.slice {t e : TypeId} {elems spare : List (DataW H)} (h : Sized P t (.slice elems spare : DataW H)) (hu : P.underlying t = some (.slice e)) : (elems.length + spare.length) * P.bytesOf e ≤ reachBytes := by
  refine h _ ?_
  simp only [DataW.weights, hu, List.mem_cons]
  exact .inl trivial
theorem law_contract {C : Checked} {f : FuncId} {fn : Func} {s : ChangeSpec} {apart fresh handsOn again : Bool} (laid : laidOutB C.prog = true)
    (hp : fn.params.toList.all (fun t => C.prog.readableRec t && decide (t < C.prog.types.size)) = true) {tb : TypeId} (hres : fn.resultTypes = #[tb]) (hbool : C.prog.underlying tb = some .bool) (hvars : s.vars = [])
    (hspec : ∀ ds : List (DataW H), ds.length = fn.params.toList.length → s.fn H ds = { results := [.lit (.bool true)], args := ds })
    {W : World} {base : Nat} {args : Array Value} {ds gs : List (DataW H)} {before : List MemPlace} {vs : List TypeId}
    (hval : ∀ (j : Nat) t v, fn.params[j]? = some t → args[j]? = some v → Value.okWide C.prog W .any base t v)
    (hW : DataW.Whole enc C.prog fn.params.toList s.vars apart W args.toList ds gs before)
    (hsz : (DataW.weightsEach C.prog (fn.params.toList ++ vs) (ds ++ gs)).all (· ≤ reachBytes) = true)
    (walk : ∀ ps : List MemPlace, (∀ (j : Nat) t v, fn.params[j]? = some t → args[j]? = some v → Value.okWide C.prog W .any base t v) →
      DataW.TrodAll enc C.prog W 0 (fun _ => true) true fn.params.toList args.toList ds ps → (∀ (j : Nat) t d, fn.params.toList[j]? = some t → ds[j]? = some d → Sized C.prog t d) → Calls C.prog f args W fun e W' => e = .returned (.bool true) ∧ Below W.heap.size W W') :
    Calls C.prog f args W fun e W' => ∃ v, e = .returned v ∧ s.post enc C.prog fn apart fresh handsOn again W args v W' := by
  have hW' := hW
  obtain ⟨p, q, hA, hV, rfl, _, _⟩ := hW
  rw [hvars] at hV
  obtain ⟨rfl, rfl⟩ := trodVars_none hV
  have hsize : ∀ (j : Nat) t d, fn.params.toList[j]? = some t → ds[j]? = some d → Sized C.prog t d := by
    intro j t d ht hd n hn
    have hlt : j < fn.params.toList.length := (List.getElem?_eq_some_iff.1 ht).1
    have hlt' : j < ds.length := (List.getElem?_eq_some_iff.1 hd).1
    have := List.all_eq_true.1 hsz n (DataW.weights_mem_each (j := j) (t := t) (d := d) (by rw [List.getElem?_append_left hlt]; exact ht) (by rw [List.getElem?_append_left hlt']; exact hd) n hn)
    simpa using this
  refine (walk p hval hA hsize).mono fun e W' ⟨he, hb⟩ => ?_
  subst he
  have hlt : ∀ x ∈ p, x.block < W.heap.size := fun x hx => hW'.lt x (by simpa using hx)
  have hs : s.fn H (ds ++ []) = { results := [.lit (.bool true)], args := ds } := by rw [List.append_nil]; exact hspec ds (trodAll_length hA)
  refine ⟨_, rfl, post_of_below (pa := p) (pv := []) hW' (fun b sp hd => ?_) (fun sp h => ?_) (fun sp h => ?_) rfl hb ?_⟩
  · rw [hs, hres]
    exact trodAll_mk1 ⟨1, by simp [DataW.trod, Value.cells, hbool]⟩
  · rw [hs]
    exact trodAll_below laid hb hp hA hlt (fun x hx => h x (by simpa using hx))
  · rw [hs, hvars]
    rfl
  · intro j t r hj hr
    rw [hres] at hj hr
    match j, hj, hr with
    | 0, hj, hr =>
      simp [Value.resultList] at hj hr
      subst hj; subst hr
      simp [Value.okWide, hbool, Cell.okWide, Cell.ok]
end
section
variable {H : Type} {enc : TypeId × Value → H} {P : Program} {w : World} {base : Nat} {spare : Nat → Bool} {held : Bool}
theorem fintcell {k : IntKind} {n : Nat} {t : TypeId} {v : Value} {y : DataW H × List MemPlace} (ht : P.underlying t = some (.int k)) (h : DataW.trod enc P w base spare held n t [v] = some y) : ∃ x, v = .int k x ∧ (Lit.int k x).wf = true := trod_intcell ht h
theorem fboolcell {n : Nat} {t : TypeId} {v : Value} {y : DataW H × List MemPlace} (ht : P.underlying t = some .bool) (h : DataW.trod enc P w base spare held n t [v] = some y) : ∃ b, v = .bool b := by
  obtain ⟨b, hc, _⟩ := DataW.trod_bool ht h
  simp at hc
  exact ⟨b, hc⟩
theorem fstrcell {n : Nat} {t : TypeId} {v : Value} {y : DataW H × List MemPlace} (ht : P.underlying t = some .string) (h : DataW.trod enc P w base spare held n t [v] = some y) : ∃ l : List UInt8, v = .string ⟨⟨l⟩⟩ ∧ y.1 = .lit (.string l) := by
  obtain ⟨⟨⟨l⟩⟩, hc, hy, hw⟩ := DataW.trod_string ht h
  simp at hc
  exact ⟨l, hc, by rw [hy]⟩
end
end Go.Proofs.YtkdlmkbpfdogcaaGreatDoor
namespace Go.Proofs.YtkdlmkbpfdogcaaGreatDoor
open Go.ChangeShapes Go.WideShapes Go.ChangeAt Go.RowKit Go.Deep
section
variable {H : Type} {enc : TypeId × Value → H}
theorem law_lifted_laid {C : Checked} {os : Os} {f : FuncId} {fn : Func} {s : ChangeSpec} {F : Stop.Interp} {conds : List PathCond} {apart fresh handsOn again : Bool} {lay : List (String × DataW Unit)}
    (own : ownKnob C.prog.godebug = none) (laid : laidOutB C.prog = true) (started : os.Started) (noInit : C.prog.inits.idxOf? f = none) (hfn : C.prog.funcs[f]? = some fn)
    (hp : fn.params.toList.all (fun t => C.prog.readableRec t && decide (t < C.prog.types.size)) = true) {tb : TypeId} (hres : fn.resultTypes = #[tb]) (hbool : C.prog.underlying tb = some .bool) (hvars : s.vars = [])
    (hspec : ∀ ds : List (DataW H), ds.length = fn.params.toList.length → s.fn H ds = { results := [.lit (.bool true)], args := ds })
    (witness : ∃ (w : World) (tape : Tape) (i : Input), w.os = os ∧ (w.forCall tape i).Shaped C.prog ∧ i.vars = [] ∧ Input.okWide C.prog (w.forCall tape i) .any w.heap.size f i ∧
      (OpenSpec.ofChange s).preRow enc C.prog fn conds apart lay (w.forCall tape i).memory i.args ∧ ({} : Assume).holds C.prog (lone (Frame.enter C.prog f i.args .normal) [] (w.forCall tape i)))
    (walk : ∀ (W : World) (base : Nat) (args : Array Value) (ds : List (DataW H)) (ps : List MemPlace), (∀ (j : Nat) t v, fn.params[j]? = some t → args[j]? = some v → Value.okWide C.prog W .any base t v) →
      DataW.TrodAll enc C.prog W 0 (fun _ => true) true fn.params.toList args.toList ds ps → (∀ (j : Nat) t d, fn.params.toList[j]? = some t → ds[j]? = some d → Sized C.prog t d) → laidMetH C.prog lay W → Calls C.prog f args W fun e W' => e = .returned (.bool true) ∧ Below W.heap.size W W') :
    ReturnsInHanded {} C os f .any ((OpenSpec.ofChange s).preRow enc C.prog fn conds apart lay) (((OpenSpec.ofChange s).at F).post enc C.prog fn apart fresh handsOn again) := by
  refine returnsInHanded_of_row (C := C) (s := OpenSpec.ofChange s) own started noInit hfn witness ?_
  intro W base args ds gs before hval hW _ _ hsz hL _ _
  exact law_contract (s := s) laid hp hres hbool hvars hspec hval hW hsz (fun ps h1 h2 h3 => walk W base args ds ps h1 h2 h3 hL)
end
def putObj (cs : List Value) : Obj → Obj
  | .cells _ t fr => .cells ⟨cs⟩ t fr
  | o => o
end Go.Proofs.YtkdlmkbpfdogcaaGreatDoor
namespace Go.Proofs.YtkdlmkbpfdogcaaGreatDoor
open Go.ChangeShapes Go.WideShapes Go.ChangeAt Go.RowKit Vc Go.Deep
section
variable {H : Type} {enc : TypeId × Value → H} {W : World} {base b0 : Nat} {spare : Nat → Bool} {held : Bool} {r : Reach} {v : Value} {d : DataW H} {ps : List MemPlace}
set_option maxRecDepth 100000 in
theorem trod_strs {n : Nat} {y : DataW H × List MemPlace} (h : DataW.trod enc Tryz.prog W base spare held n 22 [v] = some y) (hs : Sized Tryz.prog 22 y.1) :
    ∃ p L C ls, v = .slice p L C ∧ StrsAt W p L ls ∧ (∀ x ∈ ls, x.length ≤ 140737488355328) ∧ L ≤ 140737488355328 := by
  rcases open_slice Tryz.underlying22 h with ⟨hc, _⟩ | ⟨a, len, cap, m, n, D, Pl, hc, _, hl, _, hm, hx, hi⟩
  · simp at hc
    exact ⟨none, 0, 0, [], hc, StrsAt.nil W, (fun x hx => by cases hx), by decide⟩
  · simp at hc
    subst hc hx
    have hc1 : Tryz.prog.cellsOf 9 = 1 := by kernel_rfl
    have hb16 : Tryz.prog.bytesOf 9 = 16 := by kernel_rfl
    have hlm : len ≤ m := by rw [hm]; split <;> omega
    have each : ∀ i, i < len → ∃ l : List UInt8, W.cell? (a.add i) = some (.string (S l)) ∧ l.length ≤ 140737488355328 := by
      intro i hil
      obtain ⟨cs', hcs, ht⟩ := hi i (by omega)
      rw [hc1] at hcs
      obtain ⟨_, hcl, hat⟩ := World.cells?_some hcs
      match cs', hcl with
      | [v0], _ =>
        obtain ⟨l, rfl, hD⟩ := fstrcell Tryz.underlying9 ht
        have h0 := hat (i := 0) (by decide)
        have h1 : Sized Tryz.prog 9 (D i) := hs.elem Tryz.underlying22 (List.mem_map.2 ⟨i, by simpa using hil, rfl⟩)
        rw [show D i = .lit (.string l) from hD] at h1
        refine ⟨l, ?_, h1.str⟩
        rw [← show (a.add (i * 1)).add 0 = a.add i by rw [Nat.mul_one]; rfl]
        simpa using h0
    have hall : ∀ k, k ≤ len → ∃ ls : List Txt, ls.length = k ∧ (∀ x ∈ ls, x.length ≤ 140737488355328) ∧ ∀ j l, ls[j]? = some l → W.cell? (a.add j) = some (.string (S l)) := by
      intro k
      induction k with
      | zero => exact fun _ => ⟨[], rfl, (fun x hx => by cases hx), fun j l h => by simp at h⟩
      | succ k ih =>
        intro hk
        obtain ⟨ls, h1, h2, h3⟩ := ih (by omega)
        obtain ⟨l, g1, g2⟩ := each k (by omega)
        refine ⟨ls ++ [l], by simp [h1], fun x hx => ?_, fun j u hu => ?_⟩
        · rcases List.mem_append.1 hx with hx | hx
          · exact h2 x hx
          · simp at hx
            rw [hx]
            exact g2
        · by_cases hj : j < ls.length
          · rw [List.getElem?_append_left hj] at hu
            exact h3 j u hu
          · rw [List.getElem?_append_right (by omega)] at hu
            have hj0 : j - ls.length = 0 := by
              by_cases e : j - ls.length = 0
              · exact e
              · rw [List.getElem?_eq_none (by simp; omega)] at hu; cases hu
            rw [hj0] at hu
            simp at hu
            subst hu
            rw [show j = k by omega]
            exact g1
    obtain ⟨ls, h1, h2, h3⟩ := hall len (Nat.le_refl _)
    refine ⟨some a, len, cap, ls, rfl, ⟨h1, fun _ => ⟨a, rfl, fun j u hu => ?_⟩⟩, h2, ?_⟩
    · simp only [strs, List.getElem?_map] at hu
      cases hj : ls[j]? with
      | none => rw [hj] at hu; cases hu
      | some l =>
        rw [hj] at hu
        injection hu with hu
        rw [← hu]
        exact h3 j l hj
    · have := Sized.slice hs Tryz.underlying22
      rw [hb16] at this
      have e : reachBytes = 140737488351232 := rfl
      simp only [List.length_map, List.length_range] at this
      omega
set_option maxRecDepth 100000 in
theorem open_strs (hval : Value.okWide Tryz.prog W r b0 22 v) (h : DataW.Trod enc Tryz.prog W base spare held 22 v d ps) (hs : Sized Tryz.prog 22 d) :
    ∃ p L C ls, v = .slice p L C ∧ StrsAt W p L ls ∧ (∀ x ∈ ls, x.length ≤ 140737488355328) ∧ L ≤ 140737488355328 := by
  obtain ⟨p, L, C, rfl⟩ := okWide_slice Tryz.underlying22 hval
  obtain ⟨fuel, h⟩ := h
  exact trod_strs h hs
end
end Go.Proofs.YtkdlmkbpfdogcaaGreatDoor
namespace Go.Proofs.YtkdlmkbpfdogcaaGreatDoor
open Go.ChangeShapes Go.WideShapes Go.RowKit Vc
theorem rowErr (u : TypeId) (h : Tryz.prog.typeName? 3 u = some "*errors.errorString") : u = 198 :=
  typeName_ptr_named (nm := "errors.errorString") (by rw [show "*" ++ "errors.errorString" = "*errors.errorString" by decide]; kernel_rfl) (by kernel_rfl) (by decide) u (by rw [show "*" ++ "errors.errorString" = "*errors.errorString" by decide]; exact h)
theorem var_one {W : World} {n : String} {g : Nat} {v : Value} (hg : Tryz.prog.globalNamed n = some g) (h : W.var? Tryz.prog n = some #[v]) : W.cell? ⟨g, 0, none⟩ = some v := by
  have := World.var?_cell hg h 0
  simpa using this
end Go.Proofs.YtkdlmkbpfdogcaaGreatDoor
namespace Go.Proofs.YtkdlmkbpfdogcaaGreatDoor
open Go.ChangeShapes Go.WideShapes Go.ChangeAt Go.RowKit Vc
theorem Mod.toBelow {W W' : World} (h : Still W W') : Below W.heap.size W W' := h.below (Nat.le_refl _) (fun _ h => h.elim)
section
variable {H : Type} {enc : TypeId × Value → H} {W : World} {base b0 : Nat} {spare : Nat → Bool} {held : Bool} {r : Reach} {v : Value} {d : DataW H} {ps : List MemPlace}
theorem trod_u8s {n : Nat} {y : DataW H × List MemPlace} (h : DataW.trod enc Tryz.prog W base spare held n 43 [v] = some y) : ∃ p L C vs, v = .slice p L C ∧ U8At W p L vs := by
  rcases open_ints Tryz.underlying43 Tryz.underlying5 (by kernel_rfl) h with ⟨hc, _⟩ | ⟨a, len, cap, zs, hc, _, hl, _, hz, _, hcell, hwf⟩
  · simp at hc
    exact ⟨none, 0, 0, [], hc, rfl, by simp, fun h => absurd h (Nat.lt_irrefl _)⟩
  · simp at hc
    have hlz : len ≤ zs.length := by rw [hz]; split <;> omega
    have hw : ∀ z ∈ zs, 0 ≤ z ∧ z < 256 := fun z hz => wf_u8 (hwf _ hz)
    refine ⟨some a, len, cap, (zs.take len).map (·.toNat), hc, by simp; omega, ?_, fun _ => ⟨a, rfl, fun j u hu => ?_⟩⟩
    · intro v hv
      obtain ⟨z, hz, rfl⟩ := List.mem_map.1 hv
      have := hw z (List.mem_of_mem_take hz)
      omega
    · have hj : j < len := by
        have := (List.getElem?_eq_some_iff.1 hu).1
        simp only [u8s, List.length_map, List.length_take] at this
        omega
      have hjz : j < zs.length := by omega
      have hzj := hw _ (List.getElem_mem hjz)
      rw [hcell j hjz]
      simp only [u8s, List.map_map, List.getElem?_map, List.getElem?_take, if_pos hj, List.getElem?_eq_getElem hjz, Option.map_some, Function.comp, Option.some.injEq] at hu
      rw [← hu, List.getD_eq_getElem?_getD, List.getElem?_eq_getElem hjz]
      congr 2
      show zs[j] = ((zs[j].toNat : Nat) : Int)
      omega
set_option maxRecDepth 100000 in
theorem open_u8s (hval : Value.okWide Tryz.prog W r b0 43 v) (h : DataW.Trod enc Tryz.prog W base spare held 43 v d ps) : ∃ p L C vs, v = .slice p L C ∧ U8At W p L vs := by
  obtain ⟨p, L, C, rfl⟩ := okWide_slice Tryz.underlying43 hval
  obtain ⟨fuel, h⟩ := h
  exact trod_u8s h
end
end Go.Proofs.YtkdlmkbpfdogcaaGreatDoor
namespace Go.Proofs.YtkdlmkbpfdogcaaGreatDoor
open Go.ChangeShapes Go.WideShapes Go.ChangeAt Go.RowKit Vc Go.Deep
theorem env4_of {W : World} {x : String × DataW Unit} {r : List (String × DataW Unit)} (h : laidMet Tryz.prog (("internal/strconv.uint64pow10", Rows.laid_internal_strconv_uint64pow10) :: x :: ("strconv.ErrRange", Rows.laid_strconv_ErrRange) :: ("strconv.ErrSyntax", Rows.laid_strconv_ErrSyntax) :: r) W) : Env W := by
  have ht : (Rows.laid_internal_strconv_uint64pow10 : DataW Unit) = Lib.tabData .u64 Lib.pow10Tab := by kernel_rfl
  rw [ht] at h
  have h1 := Lib.tabIs_of_head (n := 20) (by kernel_rfl : Tryz.prog.globalNamed "internal/strconv.uint64pow10" = some 3) (by kernel_rfl : (Tryz.prog.globals[3]?).map (·.type) = some 188) Tryz.underlying188 Tryz.underlying51 (by kernel_rfl) (by kernel_rfl) h
  obtain ⟨a2, s2, h2, _⟩ := laid_sentinel h.tail.tail (by kernel_rfl : Tryz.prog.globalNamed "strconv.ErrRange" = some 2) (by kernel_rfl : (Tryz.prog.globals[2]?).map (·.type) = some 117) Tryz.underlying117 rowErr Tryz.underlying198 Tryz.underlying200 rfl rfl Tryz.underlying9 (by kernel_rfl) (by kernel_rfl)
  obtain ⟨a3, s3, h3, _⟩ := laid_sentinel h.tail.tail.tail (by kernel_rfl : Tryz.prog.globalNamed "strconv.ErrSyntax" = some 1) (by kernel_rfl : (Tryz.prog.globals[1]?).map (·.type) = some 117) Tryz.underlying117 rowErr Tryz.underlying198 Tryz.underlying200 rfl rfl Tryz.underlying9 (by kernel_rfl) (by kernel_rfl)
  exact ⟨h1, ⟨_, rfl, var_one (by kernel_rfl) h3⟩, ⟨_, rfl, var_one (by kernel_rfl) h2⟩⟩
theorem Enc.Cs.re {α : Type} {e : Enc α} {w : World} {F G : Nat → Prop} (he : ∀ x cs, e.E w F x cs → e.E w G x cs) : ∀ {l : List α} {xs : List Value}, e.Cs w F l xs → e.Cs w G l xs
  | [], _, h => h
  | x :: r, _xs, ⟨cs, ys, h1, h2, h3⟩ => ⟨cs, ys, h1, he _ _ h2, Enc.Cs.re he h3⟩
theorem Enc.At.here {α : Type} {e : Enc α} {w : World} {l : List α} {v : Value} (hz : 0 < e.sz) (he : ∀ x cs, e.E w (fun _ => True) x cs → e.E w (fun k => k < w.heap.size) x cs) (h : e.At w (fun _ => True) l v) : e.At w (fun k => k < w.heap.size) l v := by
  obtain ⟨p, c, rfl, hc, h3⟩ := h
  refine ⟨p, c, rfl, hc, fun hl => ?_⟩
  obtain ⟨b, xs, rfl, _, h5, h6⟩ := h3 hl
  have hlen := h5.len
  have hn : 0 < l.length := List.length_pos_iff.2 hl
  have hx : 0 < xs.length := by rw [hlen]; exact Nat.mul_pos hn hz
  have := World.block_lt_of_cell? _ _ (h6 0 _ (getD_some hx))
  rw [add_block] at this
  exact ⟨b, xs, rfl, this, h5.re he, h6⟩
theorem tcE_here {w : World} {l : List Tc} {v : Value} (h : tcE.At w (fun _ => True) l v) : tcE.At w (fun k => k < w.heap.size) l v := h.here (by decide) fun _ _ h => h
theorem moE_here {w : World} {l : List Mo} {v : Value} (h : moE.At w (fun _ => True) l v) : moE.At w (fun k => k < w.heap.size) l v := h.here (by decide) fun _ _ ⟨vr, vw, h1, h2, h3⟩ => ⟨vr, vw, h1, tcE_here h2, tcE_here h3⟩
section
variable {H : Type} {enc : TypeId × Value → H} {W : World} {base b0 : Nat} {spare : Nat → Bool} {held : Bool} {r : Reach} {v : Value} {d : DataW H} {ps : List MemPlace} {α : Type}
set_option maxRecDepth 100000 in
theorem read_list {e : Enc α} (Q : α → Prop) {te ts : TypeId} (ht : Tryz.prog.underlying ts = some (.slice te)) (hC : Tryz.prog.cellsOf te = e.sz) (hB : Nat.ble 1 (Tryz.prog.bytesOf te) = true) {n : Nat} {cs : List Value} {y : DataW H × List MemPlace} (hs : Sized Tryz.prog ts y.1)
    (each : ∀ (n : Nat) (cs : List Value) (z : DataW H × List MemPlace), Sized Tryz.prog te z.1 → DataW.trod enc Tryz.prog W base spare held n te cs = some z → ∃ x, e.E W (fun _ => True) x cs ∧ Q x)
    (h : DataW.trod enc Tryz.prog W base spare held n ts cs = some y) : ∃ l v, cs = [v] ∧ e.At W (fun _ => True) l v ∧ (∀ x ∈ l, Q x) ∧ l.length ≤ 140737488355328 := by
  rcases open_slice ht h with ⟨hc, _⟩ | ⟨a, len, cap, m, n, D, Pl, hcs, hb, hl, hm, hmm, hx, hi⟩
  · exact ⟨[], _, hc, Enc.At.nil _ _ _ _ _, (fun x hx => by cases hx), Nat.zero_le _⟩
  · subst hx
    have hall : ∀ k, k ≤ len → ∃ (ls : List α) (xs : List Value), ls.length = k ∧ xs.length = k * e.sz ∧ e.Cs W (fun _ => True) ls xs ∧ (∀ (j : Nat) (u : Value), xs[j]? = some u → W.cell? (a.add j) = some u) ∧ ∀ x ∈ ls, Q x := by
      intro k
      induction k with
      | zero => exact fun _ => ⟨[], [], rfl, by simp, rfl, fun j u hu => (by cases hu), fun x hx => by cases hx⟩
      | succ k ih =>
        intro hk
        obtain ⟨ls, xs, h1, h2, h3, h4, h5⟩ := ih (by omega)
        obtain ⟨cs', hc, ht'⟩ := hi k (by rw [hmm]; split <;> omega)
        rw [hC] at hc
        obtain ⟨_, hcl, hat⟩ := World.cells?_some hc
        obtain ⟨x, hx, hw⟩ := each _ _ _ (hs.elem ht (List.mem_map.2 ⟨k, List.mem_range.2 (by omega), rfl⟩)) ht'
        refine ⟨ls ++ [x], xs ++ cs', by simp [h1], by rw [List.length_append, h2, hcl, Nat.succ_mul], h3.append (Enc.Cs.single hx), fun j u hu => ?_, fun y hy => ?_⟩
        · by_cases hj : j < xs.length
          · rw [List.getElem?_append_left hj] at hu
            exact h4 j u hu
          · rw [List.getElem?_append_right (by omega)] at hu
            have hj2 : j - xs.length < e.sz := by rw [← hcl]; exact (List.getElem?_eq_some_iff.1 hu).1
            have := hat (j - xs.length) hj2
            rw [hu, Go.Deep.add_add] at this
            rw [← this]
            congr 2
            rw [← h2]
            omega
        · rcases List.mem_append.1 hy with hy | hy
          · exact h5 y hy
          · rw [List.mem_singleton.1 hy]; exact hw
    obtain ⟨ls, xs, h1, h2, h3, h4, h5⟩ := hall len (Nat.le_refl _)
    refine ⟨ls, _, hcs, ⟨some a, cap, by rw [h1], by omega, fun _ => ⟨a, xs, rfl, trivial, h3, h4⟩⟩, h5, ?_⟩
    have := Sized.slice hs ht
    have e : reachBytes = 140737488351232 := rfl
    simp only [List.length_map, List.length_range] at this
    have h6 : len * 1 ≤ (len + (m - len)) * Tryz.prog.bytesOf te := Nat.mul_le_mul (by omega) (Nat.le_of_ble_eq_true hB)
    omega
set_option maxRecDepth 100000 in
theorem read_touch {n : Nat} {cs : List Value} {z : DataW H × List MemPlace} (hs : Sized Tryz.prog 65 z.1) (h : DataW.trod enc Tryz.prog W base spare held n 65 cs = some z) : ∃ x : Tc, tcE.E W (fun _ => True) x cs ∧ x.p.length ≤ 140737488355328 ∧ x.v.length ≤ 140737488355328 := by
  obtain ⟨xs, m, _, rfl, hl, hlen, hf⟩ := DataW.trod_struct Tryz.underlying65 h
  rw [show Tryz.prog.cellsOf 65 = 3 by kernel_rfl] at hl
  match xs, hlen, cs, hl with
  | [y0, y1, y2], _, [v0, v1, v2], _ =>
    have h0 : DataW.trod enc Tryz.prog W base spare held m 9 (([v0, v1, v2].drop 0).take (Tryz.prog.cellsOf 9)) = some y0 := hf 0 _ rfl
    have h1 : DataW.trod enc Tryz.prog W base spare held m 4 (([v0, v1, v2].drop 1).take (Tryz.prog.cellsOf 4)) = some y1 := hf 1 _ rfl
    have h2 : DataW.trod enc Tryz.prog W base spare held m 9 (([v0, v1, v2].drop 2).take (Tryz.prog.cellsOf 9)) = some y2 := hf 2 _ rfl
    rw [show Tryz.prog.cellsOf 9 = 1 by kernel_rfl] at h0 h2
    rw [show Tryz.prog.cellsOf 4 = 1 by kernel_rfl] at h1
    obtain ⟨x0, e0, d0⟩ := fstrcell Tryz.underlying9 (v := v0) h0
    obtain ⟨x1, e1⟩ := fboolcell Tryz.underlying4 (v := v1) h1
    obtain ⟨x2, e2, d2⟩ := fstrcell Tryz.underlying9 (v := v2) h2
    subst e0 e1 e2
    have z0 : Sized Tryz.prog 9 y0.1 := hs.field Tryz.underlying65 (j := 0) rfl rfl
    have z2 : Sized Tryz.prog 9 y2.1 := hs.field Tryz.underlying65 (j := 2) rfl rfl
    rw [d0] at z0
    rw [d2] at z2
    exact ⟨⟨x0, x1, x2⟩, rfl, z0.str, z2.str⟩
set_option maxRecDepth 100000 in
theorem read_touches {n : Nat} {cs : List Value} {z : DataW H × List MemPlace} (hs : Sized Tryz.prog 46 z.1) (h : DataW.trod enc Tryz.prog W base spare held n 46 cs = some z) : ∃ l v, cs = [v] ∧ tcE.At W (fun _ => True) l v ∧ (∀ x ∈ l, x.p.length ≤ 140737488355328 ∧ x.v.length ≤ 140737488355328) ∧ l.length ≤ 140737488355328 :=
  read_list (e := tcE) (fun x => x.p.length ≤ 140737488355328 ∧ x.v.length ≤ 140737488355328) Tryz.underlying46 (by kernel_rfl) (by kernel_rfl) hs (fun _ _ _ hs h => read_touch hs h) h
set_option maxRecDepth 100000 in
theorem read_memo {n : Nat} {cs : List Value} {z : DataW H × List MemPlace} (hs : Sized Tryz.prog 48 z.1) (h : DataW.trod enc Tryz.prog W base spare held n 48 cs = some z) : ∃ x : Mo, moE.E W (fun _ => True) x cs ∧ x.Sz := by
  obtain ⟨xs, m, _, rfl, hl, hlen, hf⟩ := DataW.trod_struct Tryz.underlying48 h
  rw [show Tryz.prog.cellsOf 48 = 6 by kernel_rfl] at hl
  match xs, hlen, cs, hl with
  | [y0, y1, y2, y3], _, [v0, v1, v2, v3, v4, v5], _ =>
    have h0 : DataW.trod enc Tryz.prog W base spare held m 9 (([v0, v1, v2, v3, v4, v5].drop 0).take (Tryz.prog.cellsOf 9)) = some y0 := hf 0 _ rfl
    have h1 : DataW.trod enc Tryz.prog W base spare held m 46 (([v0, v1, v2, v3, v4, v5].drop 1).take (Tryz.prog.cellsOf 46)) = some y1 := hf 1 _ rfl
    have h2 : DataW.trod enc Tryz.prog W base spare held m 46 (([v0, v1, v2, v3, v4, v5].drop 2).take (Tryz.prog.cellsOf 46)) = some y2 := hf 2 _ rfl
    have h3 : DataW.trod enc Tryz.prog W base spare held m 45 (([v0, v1, v2, v3, v4, v5].drop 3).take (Tryz.prog.cellsOf 45)) = some y3 := hf 3 _ rfl
    rw [show Tryz.prog.cellsOf 9 = 1 by kernel_rfl] at h0
    rw [show Tryz.prog.cellsOf 46 = 1 by kernel_rfl] at h1 h2
    rw [show Tryz.prog.cellsOf 45 = 3 by kernel_rfl] at h3
    obtain ⟨x0, e0, d0⟩ := fstrcell Tryz.underlying9 (v := v0) h0
    subst e0
    have z0 : Sized Tryz.prog 9 y0.1 := hs.field Tryz.underlying48 (j := 0) rfl rfl
    have z1 : Sized Tryz.prog 46 y1.1 := hs.field Tryz.underlying48 (j := 1) rfl rfl
    have z2 : Sized Tryz.prog 46 y2.1 := hs.field Tryz.underlying48 (j := 2) rfl rfl
    have z3 : Sized Tryz.prog 45 y3.1 := hs.field Tryz.underlying48 (j := 3) rfl rfl
    rw [d0] at z0
    obtain ⟨lr, w1, e1, a1, s1, n1⟩ := read_touches z1 h1
    obtain ⟨lw, w2, e2, a2, s2, n2⟩ := read_touches z2 h2
    obtain rfl : v1 = w1 := by simpa using e1
    obtain rfl : v2 = w2 := by simpa using e2
    obtain ⟨ys, m', _, rfl, hl', hlen', hf'⟩ := DataW.trod_struct Tryz.underlying45 h3
    match ys, hlen' with
    | [u0, u1, u2], _ =>
      have g0 : DataW.trod enc Tryz.prog W base spare held m' 3 (([v3, v4, v5].drop 0).take (Tryz.prog.cellsOf 3)) = some u0 := hf' 0 _ rfl
      have g1 : DataW.trod enc Tryz.prog W base spare held m' 9 (([v3, v4, v5].drop 1).take (Tryz.prog.cellsOf 9)) = some u1 := hf' 1 _ rfl
      have g2 : DataW.trod enc Tryz.prog W base spare held m' 9 (([v3, v4, v5].drop 2).take (Tryz.prog.cellsOf 9)) = some u2 := hf' 2 _ rfl
      rw [show Tryz.prog.cellsOf 3 = 1 by kernel_rfl] at g0
      rw [show Tryz.prog.cellsOf 9 = 1 by kernel_rfl] at g1 g2
      obtain ⟨x3, e3, _⟩ := fintcell Tryz.underlying3 (v := v3) g0
      obtain ⟨x4, e4, d4⟩ := fstrcell Tryz.underlying9 (v := v4) g1
      obtain ⟨x5, e5, d5⟩ := fstrcell Tryz.underlying9 (v := v5) g2
      subst e3 e4 e5
      have z4 : Sized Tryz.prog 9 u1.1 := z3.field Tryz.underlying45 (j := 1) rfl rfl
      have z5 : Sized Tryz.prog 9 u2.1 := z3.field Tryz.underlying45 (j := 2) rfl rfl
      rw [d4] at z4
      rw [d5] at z5
      exact ⟨⟨x0, lr, lw, x3, x4, x5⟩, ⟨_, _, rfl, a1, a2⟩, z0.str, z4.str, z5.str, s1, s2, n1, n2⟩
set_option maxRecDepth 100000 in
theorem read_memos {n : Nat} {cs : List Value} {z : DataW H × List MemPlace} (hs : Sized Tryz.prog 23 z.1) (h : DataW.trod enc Tryz.prog W base spare held n 23 cs = some z) : ∃ l p C, cs = [.slice p l.length C] ∧ Arg22 W l (.slice p l.length C) := by
  obtain ⟨l, v, h1, h2, h3, h4⟩ := read_list (e := moE) Mo.Sz Tryz.underlying23 (by kernel_rfl) (by kernel_rfl) hs (fun _ _ _ hs h => read_memo hs h) h
  obtain ⟨p, c, rfl⟩ := h2.form
  exact ⟨l, p, c, h1, moE_here h2, h3, h4⟩
set_option maxRecDepth 100000 in
theorem open_memos (hval : Value.okWide Tryz.prog W r b0 23 v) (h : DataW.Trod enc Tryz.prog W base spare held 23 v d ps) (hs : Sized Tryz.prog 23 d) : ∃ p L C la, v = .slice p L C ∧ Arg22 W la (.slice p L C) := by
  obtain ⟨p, L, C, rfl⟩ := okWide_slice Tryz.underlying23 hval
  obtain ⟨fuel, h⟩ := h
  obtain ⟨l, p', C', hc, ha⟩ := read_memos hs h
  simp [Value.cells] at hc
  obtain ⟨rfl, rfl, rfl⟩ := hc
  exact ⟨p, _, C, l, rfl, ha⟩
set_option maxRecDepth 100000 in
theorem open_u8s22 (hval : Value.okWide Tryz.prog W r b0 43 v) (h : DataW.Trod enc Tryz.prog W base spare held 43 v d ps) (_ : Sized Tryz.prog 43 d) : ∃ p L C vs, v = .slice p L C ∧ U8At W p L vs := open_u8s hval h
set_option maxRecDepth 100000 in
theorem open_acts22 (hval : Value.okWide Tryz.prog W r b0 50 v) (h : DataW.Trod enc Tryz.prog W base spare held 50 v d ps) (hs : Sized Tryz.prog 50 d) : ∃ p L C, v = .slice p L C ∧ Acts22 W p L := by
  obtain ⟨p, L, C, rfl⟩ := okWide_slice Tryz.underlying50 hval
  refine ⟨p, L, C, rfl, ?_⟩
  obtain ⟨fuel, h⟩ := h
  rcases open_slice_fields Tryz.underlying50 Tryz.underlying53 (by kernel_rfl) (by kernel_rfl) h with ⟨hc, _⟩ | ⟨a, len, cap, m, D, Pl, hc, _, hl, _, hm, hx, hf⟩
  · simp [Value.cells] at hc
    obtain ⟨rfl, rfl, rfl⟩ := hc
    intro i hi
    omega
  · simp [Value.cells] at hc
    obtain ⟨rfl, rfl, rfl⟩ := hc
    obtain ⟨hx, _⟩ := Prod.mk.injEq .. ▸ hx
    intro i hi
    obtain ⟨ys, n, hD, _, _, hf⟩ := hf i (by rw [hm]; split <;> omega)
    obtain ⟨v0, y0, c0, _, t0⟩ := hf 0 _ rfl
    obtain ⟨v1, y1, c1, _, t1⟩ := hf 1 _ rfl
    obtain ⟨v2, y2, c2, z2, t2⟩ := hf 2 _ rfl
    obtain ⟨v3, y3, c3, z3, t3⟩ := hf 3 _ rfl
    obtain ⟨x0, rfl, w0⟩ := fintcell Tryz.underlying5 t0
    obtain ⟨x1, rfl, w1⟩ := fintcell Tryz.underlying5 t1
    obtain ⟨x3, rfl, w3⟩ := fintcell Tryz.underlying51 t3
    have h1 := wf_u8 w1
    have h3 := wf_u64 w3
    have sD : Sized Tryz.prog 53 (D i) := by
      rw [hx] at hs
      exact hs.elem Tryz.underlying50 (List.mem_map.2 ⟨i, List.mem_range.2 hi, rfl⟩)
    rw [hD] at sD
    have s2 : Sized Tryz.prog 23 y2.1 := sD.field Tryz.underlying53 (j := 2) rfl (by rw [List.getElem?_map, z2]; rfl)
    obtain ⟨la, pl, cl, e2, harg⟩ := read_memos s2 t2
    obtain rfl : v2 = .slice pl la.length cl := by simpa using e2
    refine ⟨a, x0, x1, x3, la, pl, cl, rfl, c0, ?_, ?_, ?_, h1.1, h1.2, h3.1, h3.2, harg⟩
    · rw [Go.Deep.add_add]; exact c1
    · rw [Go.Deep.add_add]; exact c2
    · rw [Go.Deep.add_add]; exact c3
end
end Go.Proofs.YtkdlmkbpfdogcaaGreatDoor
