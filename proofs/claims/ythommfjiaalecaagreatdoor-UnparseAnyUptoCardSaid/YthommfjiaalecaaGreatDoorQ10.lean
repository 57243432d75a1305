/- Texts of one proof, one behind the other. Conditions: as each theorem names them. -/
import Derived.Test.YthommfjiaalecaaGreatDoorQ9
import Derived.Test.YthommfjiaalecaaGreatDoorRows
import Derived.ProofKit
import Derived.Deep.Slices
import Derived.Deep.Fields
import Derived.ChangeSame
import Derived.Lib.SmallJoins
import Derived.SizedLaws
import Derived.Deep.DeepHandedRow
import Derived.ChangeSlices
namespace Go.Proofs.YthommfjiaalecaaGreatDoor
open Go.ChangeShapes Go.WideShapes Go.ChangeAt Go.RowKit
theorem Tryz.own : ownKnob Tryz.prog.godebug = none := by kernel_rfl
theorem Tryz.laidOut : laidOutB Tryz.prog = true := by kernel_rfl
section
variable {H : Type} {enc : TypeId × Value → H} {P : Program}
theorem post_of_below {f : Func} {s : ChangeSpec} {apart fresh handsOn again : Bool} {W W' : World} {args : Array Value} {v : Value} {ds gs : List (DataW H)} {before pa pv : List MemPlace}
    (hW : DataW.Whole enc P f.params.toList s.vars apart W args.toList ds gs before)
    (hres : ∀ (b : Nat) (sp : Nat → Bool) (hd : Bool), DataW.TrodAll enc P W' b sp hd f.resultTypes.toList (v.resultList f.resultTypes.size) (s.fn H (ds ++ gs)).results [])
    (hargs : ∀ sp : Nat → Bool, (∀ p ∈ before, sp p.block = true) → DataW.TrodAll enc P W' 0 sp true f.params.toList args.toList (s.fn H (ds ++ gs)).args pa)
    (hvars : ∀ sp : Nat → Bool, (∀ p ∈ before, sp p.block = true) → DataW.TrodVars enc P W' sp s.vars (s.fn H (ds ++ gs)).vars pv)
    (hps : before = pa ++ pv) (hb : Below W.heap.size W W')
    (hok : ∀ (j : Nat) (t : TypeId) (r : Value), f.resultTypes[j]? = some t → (v.resultList f.resultTypes.size)[j]? = some r → Value.okWide P W' .any 0 t r) :
    s.post enc P f apart fresh handsOn again W args v W' := by
  have hlt : ∀ p ∈ before, p.block < W.heap.size := fun p hp => hW.lt p hp
  have hold : ∀ p ∈ before, (fun b => decide (b < W.heap.size)) p.block = true := fun p hp => by simpa using hlt p hp
  refine ⟨ds, gs, before, [], pa, pv, hW, hres _ _ _, hargs _ hold, hvars _ hold, World.keptBut_mono (fun p hp => ⟨hp, ?_⟩) (hb.frame (· ∈ before)), fun _ => ?_⟩
  · rw [hps, List.mem_append] at hp
    exact Or.inr hp
  · obtain ⟨_, _, _, _, _, hz, hn⟩ := hW
    refine ⟨hok, _, _, ([] ++ pa) ++ pv, ⟨[] ++ pa, pv, trodAll_append (hargs _ (fun _ _ => rfl)) (hres _ _ _), hvars _ (fun _ _ => rfl), rfl, ?_, ?_⟩, ?_⟩
    · intro b off hp
      have hin : MemPlace.cell b off ∈ before := by rw [hps]; simpa using hp
      rw [hb.frozen (hlt _ hin)]
      exact hz b off hin
    · intro ha
      have := hn ha
      rw [hps] at this
      simpa using this
    · intro p hp _
      rw [hps]
      simpa using hp
theorem trodAll_below {W W' : World} (hl : laidOutB P = true) (hb : Below W.heap.size W W') {sp : Nat → Bool} : ∀ {ts : List TypeId} {vs : List Value} {ds : List (DataW H)} {ps : List MemPlace},
    ts.all (fun t => P.readableRec t && decide (t < P.types.size)) = true → DataW.TrodAll enc P W 0 (fun _ => true) true ts vs ds ps → (∀ x ∈ ps, x.block < W.heap.size) → (∀ x ∈ ps, sp x.block = true) →
    DataW.TrodAll enc P W' 0 sp true ts vs ds ps := by
  intro ts
  induction ts with
  | nil =>
    intro vs ds ps _ h _ _
    obtain ⟨rfl, rfl, rfl⟩ := trodAll_nil h
    exact trodAll_mk0
  | cons t ts ih =>
    intro vs ds ps hts h hlt hsp
    obtain ⟨v, vs, d, ds, p, q, rfl, rfl, rfl, h0, h1⟩ := trodAll_cons h
    simp only [List.all_cons, Bool.and_eq_true, decide_eq_true_eq] at hts
    exact ⟨p, q, (WideElems.Trod_stays hl hts.1.1 hts.1.2 h0 (fun x hx => hb.same (hlt x (List.mem_append_left _ hx))) (fun x hx => hsp x (List.mem_append_left _ hx))),
      (ih hts.2 h1 (fun x hx => hlt x (List.mem_append_right _ hx)) (fun x hx => hsp x (List.mem_append_right _ hx))), rfl⟩
theorem trodAll_length {W : World} {b : Nat} {sp : Nat → Bool} {hd : Bool} : ∀ {ts : List TypeId} {vs : List Value} {ds : List (DataW H)} {ps : List MemPlace}, DataW.TrodAll enc P W b sp hd ts vs ds ps → ds.length = ts.length := by
  intro ts
  induction ts with
  | nil =>
    intro vs ds ps h
    obtain ⟨rfl, rfl, rfl⟩ := trodAll_nil h
    rfl
  | cons t ts ih =>
    intro vs ds ps h
    obtain ⟨v, vs, d, ds, p, q, rfl, rfl, rfl, h0, h1⟩ := trodAll_cons h
    simp [ih h1]
end
end Go.Proofs.YthommfjiaalecaaGreatDoor
namespace Go.Proofs.YthommfjiaalecaaGreatDoor
open Go.ChangeShapes Go.WideShapes Go.Deep Go.RowKit
section
variable {H : Type} {enc : TypeId × Value → H} {P : Program} {w : World} {base : Nat} {spare : Nat → Bool} {held : Bool}
theorem open_slice_fields {t e : TypeId} {fs : Array Field} {fuel : Nat} {cs : List Value} {x : DataW H × List MemPlace} (ht : P.underlying t = some (.slice e)) (he : P.underlying e = some (.struct fs))
    (hone : oneCellFields P fs = true) (hC : P.cellsOf e = fs.size) (h : DataW.trod enc P w base spare held fuel t cs = some x) :
    (cs = [.slice none 0 0] ∧ x = (.nil, [])) ∨
    ∃ (a : Addr) (len cap m : Nat) (D : Nat → DataW H) (Pl : Nat → List MemPlace), cs = [.slice (some a) len cap] ∧ base ≤ a.block ∧ len ≤ cap ∧ cap ≤ maxLen ∧ m = (if spare a.block then cap else len) ∧
      x = (.slice ((List.range len).map D) ((List.range (m - len)).map fun j => D (len + j)), MemPlace.row a (m * fs.size) ++ (List.range m).flatMap Pl) ∧
      ∀ i, i < m → ∃ (ys : List (DataW H × List MemPlace)) (n : Nat), D i = .agg (ys.map (·.1)) ∧ Pl i = ys.flatMap (·.2) ∧ ys.length = fs.size ∧
        ∀ (j : Nat) (f : Field), fs[j]? = some f → ∃ (v : Value) (y : DataW H × List MemPlace), w.cell? (a.add (i * fs.size + j)) = some v ∧ ys[j]? = some y ∧ DataW.trod enc P w base spare held n f.type [v] = some y := by
  rcases open_slice ht h with h0 | ⟨a, len, cap, m, n, D, Pl, hcs, hb, hl, hm, hmm, hx, hi⟩
  · exact .inl h0
  · refine .inr ⟨a, len, cap, m, D, Pl, hcs, hb, hl, hm, hmm, by rw [hC] at hx; exact hx, fun i him => ?_⟩
    obtain ⟨cs', hc, ht'⟩ := hi i him
    rw [hC] at hc
    obtain ⟨ys, n', hn', hy, hlen, hyl, hf⟩ := DataW.trod_struct he ht'
    obtain ⟨_, hcl, hat⟩ := World.cells?_some hc
    simp only [Prod.mk.injEq] at hy
    refine ⟨ys, n', hy.1, hy.2, hyl, fun j f hj => ?_⟩
    obtain ⟨ho, hk⟩ := hone_of hone j f hj
    have hjl : j < fs.size := (Array.getElem?_eq_some_iff.1 hj).1
    have hcell := hat j hjl
    have hv : cs'[j]? = some (cs'[j]'(by omega)) := List.getElem?_eq_getElem (by omega)
    have h1 := hf j f hj
    rw [ho, hk] at h1
    have hone' : (cs'.drop j).take 1 = [cs'[j]'(by omega)] := by
      rw [List.drop_eq_getElem_cons (by omega)]
      rfl
    rw [hone'] at h1
    have hys : ys[j]? = some (ys[j]'(by omega)) := List.getElem?_eq_getElem (by omega)
    refine ⟨_, _, ?_, hys, h1.trans hys⟩
    rw [← Go.Deep.add_add, hcell, hv]
theorem trod_intcell {k : IntKind} {n : Nat} {t : TypeId} {v : Value} {y : DataW H × List MemPlace} (ht : P.underlying t = some (.int k)) (h : DataW.trod enc P w base spare held n t [v] = some y) : ∃ x, v = .int k x ∧ (Lit.int k x).wf = true := by
  obtain ⟨x, hc, _, hw⟩ := DataW.trod_int ht h
  simp at hc
  exact ⟨x, hc, hw⟩
theorem wf_u8 {n : Int} (h : (Lit.int .u8 n).wf = true) : 0 ≤ n ∧ n < 256 := by
  simp [Lit.wf, IntKind.min, IntKind.max, IntKind.signed, IntKind.bits] at h
  omega
end
end Go.Proofs.YthommfjiaalecaaGreatDoor
namespace Go.Proofs.YthommfjiaalecaaGreatDoor
open Go.ChangeShapes Go.WideShapes Go.ChangeAt Go.RowKit Go.Deep
section
variable {H : Type} {enc : TypeId × Value → H} {P : Program}
def Sized (P : Program) (t : TypeId) (d : DataW H) : Prop := ∀ n ∈ d.weights P t, n ≤ reachBytes
theorem Sized.str {t : TypeId} {l : List UInt8} (h : Sized P t (.lit (.string l) : DataW H)) : l.length ≤ 140737488355328 := by
  have := h l.length (by simp [DataW.weights])
  have e : reachBytes = 140737488351232 := rfl
  omega
theorem Sized.field {t : TypeId} {fs : Array Field} {parts : List (DataW H)} (h : Sized P t (.agg parts : DataW H)) (hu : P.underlying t = some (.struct fs)) {j : Nat} {f : Field} {d : DataW H} (hf : fs[j]? = some f) (hd : parts[j]? = some d) : Sized P f.type d := by
  intro n hn
  refine h n ?_
  simp only [DataW.weights, hu]
  exact DataW.weights_mem_each (j := j) (t := f.type) (by simp [hf]) hd n hn
theorem Sized.slice {t e : TypeId} {elems spare : List (DataW H)} (h : Sized P t (.slice elems spare : DataW H)) (hu : P.underlying t = some (.slice e)) : (elems.length + spare.length) * P.bytesOf e ≤ reachBytes := by
  refine h _ ?_
  simp only [DataW.weights, hu, List.mem_cons]
  exact .inl trivial
theorem law_contract {C : Checked} {f : FuncId} {fn : Func} {s : ChangeSpec} {apart fresh handsOn again : Bool} (laid : laidOutB C.prog = true)
    (hp : fn.params.toList.all (fun t => C.prog.readableRec t && decide (t < C.prog.types.size)) = true) {tb : TypeId} (hres : fn.resultTypes = #[tb]) (hbool : C.prog.underlying tb = some .bool) (hvars : s.vars = [])
    (hspec : ∀ ds : List (DataW H), ds.length = fn.params.toList.length → s.fn H ds = { results := [.lit (.bool true)], args := ds })
    {W : World} {base : Nat} {args : Array Value} {ds gs : List (DataW H)} {before : List MemPlace} {vs : List TypeId}
    (hval : ∀ (j : Nat) t v, fn.params[j]? = some t → args[j]? = some v → Value.okWide C.prog W .any base t v)
    (hW : DataW.Whole enc C.prog fn.params.toList s.vars apart W args.toList ds gs before)
    (hsz : (DataW.weightsEach C.prog (fn.params.toList ++ vs) (ds ++ gs)).all (· ≤ reachBytes) = true)
    (walk : ∀ ps : List MemPlace, (∀ (j : Nat) t v, fn.params[j]? = some t → args[j]? = some v → Value.okWide C.prog W .any base t v) →
      DataW.TrodAll enc C.prog W 0 (fun _ => true) true fn.params.toList args.toList ds ps → (∀ (j : Nat) t d, fn.params.toList[j]? = some t → ds[j]? = some d → Sized C.prog t d) → Calls C.prog f args W fun e W' => e = .returned (.bool true) ∧ Below W.heap.size W W') :
    Calls C.prog f args W fun e W' => ∃ v, e = .returned v ∧ s.post enc C.prog fn apart fresh handsOn again W args v W' := by
  have hW' := hW
  obtain ⟨p, q, hA, hV, rfl, _, _⟩ := hW
  rw [hvars] at hV
  obtain ⟨rfl, rfl⟩ := trodVars_none hV
  have hsize : ∀ (j : Nat) t d, fn.params.toList[j]? = some t → ds[j]? = some d → Sized C.prog t d := by
    intro j t d ht hd n hn
    have hlt : j < fn.params.toList.length := (List.getElem?_eq_some_iff.1 ht).1
    have hlt' : j < ds.length := (List.getElem?_eq_some_iff.1 hd).1
    have := List.all_eq_true.1 hsz n (DataW.weights_mem_each (j := j) (t := t) (d := d) (by rw [List.getElem?_append_left hlt]; exact ht) (by rw [List.getElem?_append_left hlt']; exact hd) n hn)
    simpa using this
  refine (walk p hval hA hsize).mono fun e W' ⟨he, hb⟩ => ?_
  subst he
  have hlt : ∀ x ∈ p, x.block < W.heap.size := fun x hx => hW'.lt x (by simpa using hx)
  have hs : s.fn H (ds ++ []) = { results := [.lit (.bool true)], args := ds } := by rw [List.append_nil]; exact hspec ds (trodAll_length hA)
  refine ⟨_, rfl, post_of_below (pa := p) (pv := []) hW' (fun b sp hd => ?_) (fun sp h => ?_) (fun sp h => ?_) rfl hb ?_⟩
  · rw [hs, hres]
    exact trodAll_mk1 ⟨1, by simp [DataW.trod, Value.cells, hbool]⟩
  · rw [hs]
    exact trodAll_below laid hb hp hA hlt (fun x hx => h x (by simpa using hx))
  · rw [hs, hvars]
    rfl
  · intro j t r hj hr
    rw [hres] at hj hr
    match j, hj, hr with
    | 0, hj, hr =>
      simp [Value.resultList] at hj hr
      subst hj; subst hr
      simp [Value.okWide, hbool, Cell.okWide, Cell.ok]
end
section
variable {H : Type} {enc : TypeId × Value → H} {P : Program} {w : World} {base : Nat} {spare : Nat → Bool} {held : Bool}
theorem fintcell {k : IntKind} {n : Nat} {t : TypeId} {v : Value} {y : DataW H × List MemPlace} (ht : P.underlying t = some (.int k)) (h : DataW.trod enc P w base spare held n t [v] = some y) : ∃ x, v = .int k x ∧ (Lit.int k x).wf = true := trod_intcell ht h
theorem fboolcell {n : Nat} {t : TypeId} {v : Value} {y : DataW H × List MemPlace} (ht : P.underlying t = some .bool) (h : DataW.trod enc P w base spare held n t [v] = some y) : ∃ b, v = .bool b := by
  obtain ⟨b, hc, _⟩ := DataW.trod_bool ht h
  simp at hc
  exact ⟨b, hc⟩
theorem fstrcell {n : Nat} {t : TypeId} {v : Value} {y : DataW H × List MemPlace} (ht : P.underlying t = some .string) (h : DataW.trod enc P w base spare held n t [v] = some y) : ∃ l : List UInt8, v = .string ⟨⟨l⟩⟩ ∧ y.1 = .lit (.string l) := by
  obtain ⟨⟨⟨l⟩⟩, hc, hy, hw⟩ := DataW.trod_string ht h
  simp at hc
  exact ⟨l, hc, by rw [hy]⟩
end
end Go.Proofs.YthommfjiaalecaaGreatDoor
namespace Go.Proofs.YthommfjiaalecaaGreatDoor
open Go.ChangeShapes Go.WideShapes Go.ChangeAt Go.RowKit Go.Deep
section
variable {H : Type} {enc : TypeId × Value → H}
theorem law_lifted_laid {C : Checked} {os : Os} {f : FuncId} {fn : Func} {s : ChangeSpec} {F : Stop.Interp} {conds : List PathCond} {apart fresh handsOn again : Bool} {lay : List (String × DataW Unit)}
    (own : ownKnob C.prog.godebug = none) (laid : laidOutB C.prog = true) (started : os.Started) (noInit : C.prog.inits.idxOf? f = none) (hfn : C.prog.funcs[f]? = some fn)
    (hp : fn.params.toList.all (fun t => C.prog.readableRec t && decide (t < C.prog.types.size)) = true) {tb : TypeId} (hres : fn.resultTypes = #[tb]) (hbool : C.prog.underlying tb = some .bool) (hvars : s.vars = [])
    (hspec : ∀ ds : List (DataW H), ds.length = fn.params.toList.length → s.fn H ds = { results := [.lit (.bool true)], args := ds })
    (witness : ∃ (w : World) (tape : Tape) (i : Input), w.os = os ∧ (w.forCall tape i).Shaped C.prog ∧ i.vars = [] ∧ Input.okWide C.prog (w.forCall tape i) .any w.heap.size f i ∧
      (OpenSpec.ofChange s).preRow enc C.prog fn conds apart lay (w.forCall tape i).memory i.args ∧ ({} : Assume).holds C.prog (lone (Frame.enter C.prog f i.args .normal) [] (w.forCall tape i)))
    (walk : ∀ (W : World) (base : Nat) (args : Array Value) (ds : List (DataW H)) (ps : List MemPlace), (∀ (j : Nat) t v, fn.params[j]? = some t → args[j]? = some v → Value.okWide C.prog W .any base t v) →
      DataW.TrodAll enc C.prog W 0 (fun _ => true) true fn.params.toList args.toList ds ps → (∀ (j : Nat) t d, fn.params.toList[j]? = some t → ds[j]? = some d → Sized C.prog t d) → laidMetH C.prog lay W → Calls C.prog f args W fun e W' => e = .returned (.bool true) ∧ Below W.heap.size W W') :
    ReturnsInHanded {} C os f .any ((OpenSpec.ofChange s).preRow enc C.prog fn conds apart lay) (((OpenSpec.ofChange s).at F).post enc C.prog fn apart fresh handsOn again) := by
  refine returnsInHanded_of_row (C := C) (s := OpenSpec.ofChange s) own started noInit hfn witness ?_
  intro W base args ds gs before hval hW _ _ hsz hL _ _
  exact law_contract (s := s) laid hp hres hbool hvars hspec hval hW hsz (fun ps h1 h2 h3 => walk W base args ds ps h1 h2 h3 hL)
end
end Go.Proofs.YthommfjiaalecaaGreatDoor
namespace Go.Proofs.YthommfjiaalecaaGreatDoor
open Go.ChangeShapes Go.WideShapes Go.ChangeAt Go.RowKit Vc
theorem Mod.toBelow {W W' : World} (h : Still W W') : Below W.heap.size W W' := h.below (Nat.le_refl _) (fun _ h => h.elim)
section
variable {H : Type} {enc : TypeId × Value → H} {W : World} {base b0 : Nat} {spare : Nat → Bool} {held : Bool} {r : Reach} {v : Value} {d : DataW H} {ps : List MemPlace}
theorem trod_u8s {n : Nat} {y : DataW H × List MemPlace} (h : DataW.trod enc Tryz.prog W base spare held n 33 [v] = some y) : ∃ p L C vs, v = .slice p L C ∧ U8At W p L vs := by
  rcases open_ints Tryz.underlying33 Tryz.underlying5 (by kernel_rfl) h with ⟨hc, _⟩ | ⟨a, len, cap, zs, hc, _, hl, _, hz, _, hcell, hwf⟩
  · simp at hc
    exact ⟨none, 0, 0, [], hc, rfl, by simp, fun h => absurd h (Nat.lt_irrefl _)⟩
  · simp at hc
    have hlz : len ≤ zs.length := by rw [hz]; split <;> omega
    have hw : ∀ z ∈ zs, 0 ≤ z ∧ z < 256 := fun z hz => wf_u8 (hwf _ hz)
    refine ⟨some a, len, cap, (zs.take len).map (·.toNat), hc, by simp; omega, ?_, fun _ => ⟨a, rfl, fun j u hu => ?_⟩⟩
    · intro v hv
      obtain ⟨z, hz, rfl⟩ := List.mem_map.1 hv
      have := hw z (List.mem_of_mem_take hz)
      omega
    · have hj : j < len := by
        have := (List.getElem?_eq_some_iff.1 hu).1
        simp only [u8s, List.length_map, List.length_take] at this
        omega
      have hjz : j < zs.length := by omega
      have hzj := hw _ (List.getElem_mem hjz)
      rw [hcell j hjz]
      simp only [u8s, List.map_map, List.getElem?_map, List.getElem?_take, if_pos hj, List.getElem?_eq_getElem hjz, Option.map_some, Function.comp, Option.some.injEq] at hu
      rw [← hu, List.getD_eq_getElem?_getD, List.getElem?_eq_getElem hjz]
      congr 2
      show zs[j] = ((zs[j].toNat : Nat) : Int)
      omega
set_option maxRecDepth 100000 in
theorem open_u8s (hval : Value.okWide Tryz.prog W r b0 33 v) (h : DataW.Trod enc Tryz.prog W base spare held 33 v d ps) : ∃ p L C vs, v = .slice p L C ∧ U8At W p L vs := by
  obtain ⟨p, L, C, rfl⟩ := okWide_slice Tryz.underlying33 hval
  obtain ⟨fuel, h⟩ := h
  exact trod_u8s h
end
end Go.Proofs.YthommfjiaalecaaGreatDoor
namespace Go.Proofs.YthommfjiaalecaaGreatDoor
open Go.ChangeShapes Go.WideShapes Go.ChangeAt Go.RowKit Vc
section
variable {H : Type} {enc : TypeId × Value → H} {W : World} {base b0 : Nat} {spare : Nat → Bool} {held : Bool} {r : Reach} {v : Value} {d : DataW H} {ps : List MemPlace}
set_option maxRecDepth 100000 in
theorem open_u8l (hval : Value.okWide Tryz.prog W r b0 33 v) (h : DataW.Trod enc Tryz.prog W base spare held 33 v d ps) (_ : Sized Tryz.prog 33 d) : ∃ p L C vs, v = .slice p L C ∧ U8At W p L vs := open_u8s hval h
end
end Go.Proofs.YthommfjiaalecaaGreatDoor
namespace Go.Proofs.YthommfjiaalecaaGreatDoor
open Go.ChangeShapes Go.WideShapes Go.ChangeAt Go.RowKit Go.Deep
section
variable {H : Type} {enc : TypeId × Value → H}
theorem bulk_append (l r : List (DataW H)) : Rows.uptoBulkAll (l ++ r) = Rows.uptoBulkAll l + Rows.uptoBulkAll r := by
  induction l with
  | nil => simp [Rows.uptoBulkAll]
  | cons x l ih => simp only [List.cons_append, Rows.uptoBulkAll, ih]; omega
theorem law_lifted_upto {C : Checked} {os : Os} {f : FuncId} {fn : Func} {s : ChangeSpec} {F : Stop.Interp} {conds : List PathCond} {apart fresh handsOn again : Bool} {lay : List (String × DataW Unit)}
    (own : ownKnob C.prog.godebug = none) (laid : laidOutB C.prog = true) (started : os.Started) (noInit : C.prog.inits.idxOf? f = none) (hfn : C.prog.funcs[f]? = some fn)
    (hp : fn.params.toList.all (fun t => C.prog.readableRec t && decide (t < C.prog.types.size)) = true) {tb : TypeId} (hres : fn.resultTypes = #[tb]) (hbool : C.prog.underlying tb = some .bool) (hvars : s.vars = [])
    (hspec : ∀ ds : List (DataW H), ds.length = fn.params.toList.length → s.fn H ds = { results := [.lit (.bool true)], args := ds })
    (witness : ∃ (w : World) (tape : Tape) (i : Input), w.os = os ∧ (w.forCall tape i).Shaped C.prog ∧ i.vars = [] ∧ Input.okWide C.prog (w.forCall tape i) .any w.heap.size f i ∧
      (Rows.OpenSpec.upto s).preRow enc C.prog fn conds apart lay (w.forCall tape i).memory i.args ∧ ({} : Assume).holds C.prog (lone (Frame.enter C.prog f i.args .normal) [] (w.forCall tape i)))
    (walk : ∀ (W : World) (base : Nat) (args : Array Value) (ds : List (DataW H)) (ps : List MemPlace), (∀ (j : Nat) t v, fn.params[j]? = some t → args[j]? = some v → Value.okWide C.prog W .any base t v) →
      DataW.TrodAll enc C.prog W 0 (fun _ => true) true fn.params.toList args.toList ds ps → (∀ (j : Nat) t d, fn.params.toList[j]? = some t → ds[j]? = some d → Sized C.prog t d) → Rows.uptoBulkAll ds ≤ 1048576 → laidMetH C.prog lay W → Calls C.prog f args W fun e W' => e = .returned (.bool true) ∧ Below W.heap.size W W') :
    ReturnsInHanded {} C os f .any ((Rows.OpenSpec.upto s).preRow enc C.prog fn conds apart lay) (((Rows.OpenSpec.upto s).at F).post enc C.prog fn apart fresh handsOn again) := by
  refine returnsInHanded_of_row (C := C) (s := Rows.OpenSpec.upto s) own started noInit hfn witness ?_
  intro W base args ds gs before hval hW _ hcond hsz hL _ _
  have hk : Rows.uptoSmall H (ds ++ gs) = true := hcond _ rfl
  have hb := of_decide_eq_true hk
  have hle : Rows.uptoBulkAll ds ≤ Rows.uptoBulkAll (ds ++ gs) := by
    rw [bulk_append]
    omega
  exact law_contract (s := s) laid hp hres hbool hvars hspec hval hW hsz (fun ps h1 h2 h3 => walk W base args ds ps h1 h2 h3 (Nat.le_trans hle hb) hL)
theorem bulk_one (d : DataW H) : 1 ≤ Rows.uptoBulk d := by
  cases d with
  | lit l => cases l <;> simp [Rows.uptoBulk]
  | nil => simp [Rows.uptoBulk]
  | ptr d => simp [Rows.uptoBulk]
  | slice elems spare => simp [Rows.uptoBulk]
  | agg parts => simp [Rows.uptoBulk]
  | iface t d => simp [Rows.uptoBulk]
  | map entries => simp [Rows.uptoBulk]
  | held h => simp [Rows.uptoBulk]
theorem bulk_mem {d : DataW H} {l : List (DataW H)} (h : d ∈ l) : Rows.uptoBulk d ≤ Rows.uptoBulkAll l := by
  induction l with
  | nil => cases h
  | cons x r ih =>
    simp only [Rows.uptoBulkAll]
    rcases List.mem_cons.1 h with rfl | h
    · omega
    · have := ih h; omega
theorem bulk_str (bytes : List UInt8) : Rows.uptoBulk (DataW.lit (H := H) (.string bytes)) = bytes.length + 1 := by
  simp [Rows.uptoBulk]
end
end Go.Proofs.YthommfjiaalecaaGreatDoor
namespace Go.Proofs.YthommfjiaalecaaGreatDoor
open Go.ChangeShapes Go.WideShapes Go.ChangeAt Go.RowKit Vc
section
variable {H : Type} {enc : TypeId × Value → H} {W : World} {base b0 : Nat} {spare : Nat → Bool} {held : Bool} {r : Reach} {v : Value} {d : DataW H} {ps : List MemPlace}
end
end Go.Proofs.YthommfjiaalecaaGreatDoor
namespace Go.Proofs.YthommfjiaalecaaGreatDoor
open Go.ChangeShapes Go.WideShapes Go.ChangeAt Go.RowKit Vc
section
variable {H : Type} {enc : TypeId × Value → H} {W : World} {base b0 : Nat} {spare : Nat → Bool} {held : Bool} {r : Reach} {v : Value} {d : DataW H} {ps : List MemPlace}
def PartsRead (W : World) (v : Value) (b : Nat) : Prop := ∃ p C l, v = .slice p (List.length l) C ∧ SlAt W (fun _ => True) l (.slice p l.length C) ∧ wtL l ≤ 8 * b
set_option maxRecDepth 100000 in
theorem trod_parts : ∀ (k : Nat) (n : Nat) (v : Value) (y : DataW H × List MemPlace), Rows.uptoBulk y.1 < k → DataW.trod enc Tryz.prog W base spare held n 41 [v] = some y → PartsRead W v (Rows.uptoBulk y.1)
  | 0, _, _, _, h, _ => by omega
  | k + 1, n, v, y, hk, h => by
    rcases open_slice_fields Tryz.underlying41 Tryz.underlying63 (by kernel_rfl) (by kernel_rfl) h with ⟨hc, _⟩ | ⟨a, len, cap, m, D, Pl, hc, _, hl, _, hm, hx, hf⟩
    · simp at hc
      exact ⟨none, 0, [], hc, SlAt.nil _ _ _ _, Nat.zero_le _⟩
    · simp at hc
      subst hc hx
      have hb : Rows.uptoBulk (DataW.slice ((List.range len).map D) ((List.range (m - len)).map fun j => D (len + j))) = Rows.uptoBulkAll ((List.range len).map D) + Rows.uptoBulkAll ((List.range (m - len)).map fun j => D (len + j)) + 1 := by simp only [Rows.uptoBulk]
      rw [hb] at hk ⊢
      have each : ∀ i, i < len → ∃ x : Pt, PtAt W (fun _ => True) x (a.add (i * 6)) ∧ x.wt ≤ 8 * Rows.uptoBulk (D i) := by
        intro i hi
        have hDi : Rows.uptoBulk (D i) ≤ Rows.uptoBulkAll ((List.range len).map D) := bulk_mem (List.mem_map.2 ⟨i, List.mem_range.2 hi, rfl⟩)
        obtain ⟨ys, n, hD, _, hlen, hf⟩ := hf i (by rw [hm]; split <;> omega)
        rw [hD] at hDi ⊢
        match ys, hlen with
        | [y0, y1, y2, y3, y4, y5], _ =>
          obtain ⟨v0, z0, c0, q0, t0⟩ := hf 0 _ rfl
          obtain ⟨v1, z1, c1, q1, t1⟩ := hf 1 _ rfl
          obtain ⟨v2, z2, c2, q2, t2⟩ := hf 2 _ rfl
          obtain ⟨v3, z3, c3, q3, t3⟩ := hf 3 _ rfl
          obtain ⟨v4, z4, c4, q4, t4⟩ := hf 4 _ rfl
          obtain ⟨v5, z5, c5, q5, t5⟩ := hf 5 _ rfl
          obtain rfl := Option.some.inj q0
          obtain rfl := Option.some.inj q1
          obtain rfl := Option.some.inj q2
          obtain rfl := Option.some.inj q3
          obtain rfl := Option.some.inj q4
          obtain rfl := Option.some.inj q5
          obtain ⟨x0, rfl, _⟩ := fintcell Tryz.underlying3 t0
          obtain ⟨x1, rfl⟩ := fboolcell Tryz.underlying4 t1
          obtain ⟨x2, rfl, d2⟩ := fstrcell Tryz.underlying9 t2
          obtain ⟨x3, rfl, d3⟩ := fstrcell Tryz.underlying9 t3
          obtain ⟨x4, rfl, d4⟩ := fstrcell Tryz.underlying9 t4
          have b0 := bulk_one y0.1
          have b1 := bulk_one y1.1
          have hbi : Rows.uptoBulk (DataW.agg ([y0, y1, y2, y3, y4, y5].map (·.1))) = Rows.uptoBulk y0.1 + (Rows.uptoBulk y1.1 + ((x2.length + 1) + ((x3.length + 1) + ((x4.length + 1) + (Rows.uptoBulk y5.1 + 0))))) + 1 := by
            simp only [List.map_cons, List.map_nil, Rows.uptoBulk, Rows.uptoBulkAll, d2, d3, d4]
          rw [hbi] at hDi ⊢
          obtain ⟨p5, C5, l5, rfl, hs5, hw5⟩ := trod_parts k _ v5 y5 (by omega) t5
          refine ⟨.mk x0 x1 x2 x3 x4 l5, PtAt.of (v := .slice p5 l5.length C5) (fun j u hu => ?_) hs5, ?_⟩
          · rw [adds]
            match j, hu with
            | 0, hu => obtain rfl := Option.some.inj hu; exact c0
            | 1, hu => obtain rfl := Option.some.inj hu; exact c1
            | 2, hu => obtain rfl := Option.some.inj hu; exact c2
            | 3, hu => obtain rfl := Option.some.inj hu; exact c3
            | 4, hu => obtain rfl := Option.some.inj hu; exact c4
            | 5, hu => obtain rfl := Option.some.inj hu; exact c5
            | j + 6, hu => cases hu
          · simp only [Pt.wt_eq, Pt.t, Pt.n, Pt.o, Pt.w]
            omega
      have hall : ∀ k, k ≤ len → ∃ ls : List Pt, ls.length = k ∧ (∀ i x, ls[i]? = some x → PtAt W (fun _ => True) x (a.add (i * 6))) ∧ wtL ls ≤ 8 * Rows.uptoBulkAll ((List.range k).map D) := by
        intro k
        induction k with
        | zero => exact fun _ => ⟨[], rfl, fun i x h => by simp at h, Nat.zero_le _⟩
        | succ k ih =>
          intro hk
          obtain ⟨ls, h1, h2, h3⟩ := ih (by omega)
          obtain ⟨x, g1, g2⟩ := each k (by omega)
          refine ⟨ls ++ [x], by simp [h1], fun i z hz => ?_, ?_⟩
          · by_cases hi : i < ls.length
            · rw [List.getElem?_append_left hi] at hz
              exact h2 i z hz
            · rw [List.getElem?_append_right (by omega)] at hz
              have h0 : i - ls.length = 0 := by
                by_cases e : i - ls.length = 0
                · exact e
                · rw [List.getElem?_eq_none (by simp; omega)] at hz; cases hz
              rw [h0] at hz
              obtain rfl := Option.some.inj hz
              rw [show i = k by omega]
              exact g1
          · rw [List.range_succ, List.map_append, bulk_append, wtL_append, wtL_one]
            simp only [List.map_cons, List.map_nil, Rows.uptoBulkAll]
            omega
      obtain ⟨ls, h1, h2, h3⟩ := hall len (Nat.le_refl _)
      refine ⟨some a, cap, ls, by rw [h1], ⟨some a, cap, rfl, by omega, fun _ => ⟨a, rfl, trivial, PsAt.of h2⟩⟩, by omega⟩
end
end Go.Proofs.YthommfjiaalecaaGreatDoor
namespace Go.Proofs.YthommfjiaalecaaGreatDoor
open Go.ChangeShapes Go.WideShapes Go.ChangeAt Go.RowKit Go.Deep Vc
section
variable {H : Type} {enc : TypeId × Value → H} {W : World} {base b0 : Nat} {spare : Nat → Bool} {held : Bool} {r : Reach} {v : Value} {d : DataW H} {ps : List MemPlace} {α : Type}
def sumW (f : α → Nat) : List α → Nat
  | [] => 0
  | x :: r => f x + sumW f r
theorem sumW_append (f : α → Nat) : ∀ a b, sumW f (a ++ b) = sumW f a + sumW f b
  | [], b => by simp [sumW]
  | x :: a, b => by simp only [List.cons_append, sumW, sumW_append f a b]; omega
theorem sumW_words : ∀ l, wtW l = sumW (fun x => 2 + wtL x) l
  | [] => rfl
  | x :: r => by simp only [wtW, sumW, sumW_words r]
theorem sumW_pairs : ∀ l, wtP l = sumW (fun x => 2 + x.1.length + wtL x.2) l
  | [] => rfl
  | x :: r => by simp only [wtP, sumW, sumW_pairs r]
theorem sumW_ops : ∀ l, wtO l = sumW (fun x => 2 + x.length) l
  | [] => rfl
  | x :: r => by simp only [wtO, sumW, sumW_ops r]
theorem sumW_kids : ∀ l, wtNs l = sumW Nd.wt l
  | [] => rfl
  | x :: r => by simp only [wtNs, sumW, sumW_kids r]
set_option maxRecDepth 100000 in
theorem read_slice {e : Enc α} {c : Nat} (wt : α → Nat) {te ts : TypeId} (ht : Tryz.prog.underlying ts = some (.slice te)) (hC : Tryz.prog.cellsOf te = e.sz) {n : Nat} {cs : List Value} {y : DataW H × List MemPlace}
    (each : ∀ (n : Nat) (cs : List Value) (z : DataW H × List MemPlace), Rows.uptoBulk z.1 < Rows.uptoBulk y.1 → DataW.trod enc Tryz.prog W base spare held n te cs = some z → ∃ x, e.E W (fun _ => True) x cs ∧ wt x ≤ c * Rows.uptoBulk z.1)
    (h : DataW.trod enc Tryz.prog W base spare held n ts cs = some y) : ∃ l v, cs = [v] ∧ e.At W (fun _ => True) l v ∧ sumW wt l ≤ c * Rows.uptoBulk y.1 := by
  rcases open_slice ht h with ⟨hc, _⟩ | ⟨a, len, cap, m, n, D, Pl, hcs, hb, hl, hm, hmm, hx, hi⟩
  · exact ⟨[], _, hc, Enc.At.nil _ _ _ _ _, Nat.zero_le _⟩
  · subst hx
    have hbk : Rows.uptoBulk (DataW.slice ((List.range len).map D) ((List.range (m - len)).map fun j => D (len + j))) = Rows.uptoBulkAll ((List.range len).map D) + Rows.uptoBulkAll ((List.range (m - len)).map fun j => D (len + j)) + 1 := by simp only [Rows.uptoBulk]
    dsimp only at each ⊢
    rw [hbk] at each ⊢
    have hall : ∀ k, k ≤ len → ∃ (ls : List α) (xs : List Value), ls.length = k ∧ xs.length = k * e.sz ∧ e.Cs W (fun _ => True) ls xs ∧ (∀ (j : Nat) (u : Value), xs[j]? = some u → W.cell? (a.add j) = some u) ∧ sumW wt ls ≤ c * Rows.uptoBulkAll ((List.range k).map D) := by
      intro k
      induction k with
      | zero => exact fun _ => ⟨[], [], rfl, by simp, rfl, fun j u hu => (by cases hu), Nat.zero_le _⟩
      | succ k ih =>
        intro hk
        obtain ⟨ls, xs, h1, h2, h3, h4, h5⟩ := ih (by omega)
        obtain ⟨cs', hc, ht'⟩ := hi k (by rw [hmm]; split <;> omega)
        rw [hC] at hc
        obtain ⟨_, hcl, hat⟩ := World.cells?_some hc
        have hDk : Rows.uptoBulk (D k) ≤ Rows.uptoBulkAll ((List.range len).map D) := bulk_mem (List.mem_map.2 ⟨k, List.mem_range.2 (by omega), rfl⟩)
        obtain ⟨x, hx, hw⟩ := each _ _ _ (by dsimp only; omega) ht'
        refine ⟨ls ++ [x], xs ++ cs', by simp [h1], by rw [List.length_append, h2, hcl, Nat.succ_mul], h3.append (Enc.Cs.single hx), fun j u hu => ?_, ?_⟩
        · by_cases hj : j < xs.length
          · rw [List.getElem?_append_left hj] at hu
            exact h4 j u hu
          · rw [List.getElem?_append_right (by omega)] at hu
            have hj2 : j - xs.length < e.sz := by rw [← hcl]; exact (List.getElem?_eq_some_iff.1 hu).1
            have := hat (j - xs.length) hj2
            rw [hu, Go.Deep.add_add] at this
            rw [← this]
            congr 2
            rw [← h2]
            omega
        · rw [List.range_succ, List.map_append, bulk_append, sumW_append]
          simp only [List.map_cons, List.map_nil, Rows.uptoBulkAll, sumW, Nat.add_zero]
          dsimp only at hw
          rw [Nat.mul_add]
          omega
    obtain ⟨ls, xs, h1, h2, h3, h4, h5⟩ := hall len (Nat.le_refl _)
    refine ⟨ls, _, hcs, ⟨some a, cap, by rw [h1], by omega, fun _ => ⟨a, xs, rfl, trivial, h3, h4⟩⟩, ?_⟩
    have : c * Rows.uptoBulkAll ((List.range len).map D) ≤ c * (Rows.uptoBulkAll ((List.range len).map D) + Rows.uptoBulkAll ((List.range (m - len)).map fun j => D (len + j)) + 1) := Nat.mul_le_mul_left _ (by omega)
    omega
set_option maxRecDepth 100000 in
theorem read_word {n : Nat} {cs : List Value} {y : DataW H × List MemPlace} (h : DataW.trod enc Tryz.prog W base spare held n 41 cs = some y) : ∃ (l : List Pt) (v : Value), cs = [v] ∧ SlAt W (fun _ => True) l v ∧ wtL l ≤ 8 * Rows.uptoBulk y.1 := by
  have h' := h
  rcases open_slice Tryz.underlying41 h with ⟨hc, _⟩ | ⟨a, len, cap, m, n, D, Pl, hcs, _⟩
  · exact ⟨[], _, hc, SlAt.nil _ _ _ _, Nat.zero_le _⟩
  · subst hcs
    obtain ⟨p, C, l, h1, h2, h3⟩ := trod_parts _ _ _ _ (Nat.lt_succ_self _) h'
    exact ⟨l, _, rfl, by rw [h1]; exact h2, h3⟩
end
end Go.Proofs.YthommfjiaalecaaGreatDoor
namespace Go.Proofs.YthommfjiaalecaaGreatDoor
open Go.ChangeShapes Go.WideShapes Go.ChangeAt Go.RowKit Go.Deep Vc
section
variable {H : Type} {enc : TypeId × Value → H} {W : World} {base b0 : Nat} {spare : Nat → Bool} {held : Bool}
set_option maxRecDepth 100000 in
theorem read_pair {t : TypeId} {f0 f1 : Field} (ht : Tryz.prog.underlying t = some (.struct #[f0, f1])) (e0 : f0.type = 9) (o0 : f0.offset = 0) (e1 : f1.type = 41) (o1 : f1.offset = 1) (hC : Tryz.prog.cellsOf t = 2) {n : Nat} {cs : List Value} {y : DataW H × List MemPlace} (h : DataW.trod enc Tryz.prog W base spare held n t cs = some y) :
    ∃ x : Txt × List Pt, nsE.E W (fun _ => True) x cs ∧ 2 + x.1.length + wtL x.2 ≤ 8 * Rows.uptoBulk y.1 := by
  obtain ⟨y0, y1, m, rfl, hl, h0, h1⟩ := trod_struct2 ht h
  rw [hC] at hl
  match cs, hl with
  | [v0, v1], _ =>
    rw [e0, o0, show Tryz.prog.cellsOf 9 = 1 by kernel_rfl] at h0
    rw [e1, o1, show Tryz.prog.cellsOf 41 = 1 by kernel_rfl] at h1
    obtain ⟨s, rfl, hs⟩ := fstrcell Tryz.underlying9 h0
    obtain ⟨l, v, hv, hS, hw⟩ := read_word h1
    obtain rfl : v1 = v := by simpa using hv
    have hb : Rows.uptoBulk (DataW.agg [y0.1, y1.1]) = (s.length + 1) + (Rows.uptoBulk y1.1 + 0) + 1 := by
      simp only [Rows.uptoBulk, Rows.uptoBulkAll, hs, bulk_str]
    exact ⟨(s, l), ⟨v1, rfl, hS⟩, by dsimp only; rw [hb]; omega⟩
end
end Go.Proofs.YthommfjiaalecaaGreatDoor
namespace Go.Proofs.YthommfjiaalecaaGreatDoor
open Go.ChangeShapes Go.WideShapes Go.ChangeAt Go.RowKit Go.Deep Vc
section
variable {H : Type} {enc : TypeId × Value → H} {W : World} {base b0 : Nat} {spare : Nat → Bool} {held : Bool}
set_option maxRecDepth 100000 in
theorem read_node : ∀ (k n : Nat) (cs : List Value) (y : DataW H × List MemPlace), Rows.uptoBulk y.1 < k → DataW.trod enc Tryz.prog W base spare held n 28 cs = some y → ∃ x : Nd, ndE.E W (fun _ => True) x cs ∧ x.wt ≤ 10 * Rows.uptoBulk y.1
  | 0, _, _, _, h, _ => by omega
  | k + 1, n, cs, y, hk, h => by
    obtain ⟨xs, m, _, rfl, hl, hlen, hf⟩ := DataW.trod_struct Tryz.underlying28 h
    rw [show Tryz.prog.cellsOf 28 = 8 by kernel_rfl] at hl
    match xs, hlen, cs, hl with
    | [y0, y1, y2, y3, y4, y5, y6, y7], _, [v0, v1, v2, v3, v4, v5, v6, v7], _ =>
      have h0 : DataW.trod enc Tryz.prog W base spare held m 3 (([v0, v1, v2, v3, v4, v5, v6, v7].drop 0).take (Tryz.prog.cellsOf 3)) = some y0 := hf 0 _ rfl
      rw [show Tryz.prog.cellsOf 3 = 1 by kernel_rfl] at h0
      have h0 : DataW.trod enc Tryz.prog W base spare held m 3 [v0] = some y0 := h0
      have h1 : DataW.trod enc Tryz.prog W base spare held m 4 (([v0, v1, v2, v3, v4, v5, v6, v7].drop 1).take (Tryz.prog.cellsOf 4)) = some y1 := hf 1 _ rfl
      rw [show Tryz.prog.cellsOf 4 = 1 by kernel_rfl] at h1
      have h1 : DataW.trod enc Tryz.prog W base spare held m 4 [v1] = some y1 := h1
      have h2 : DataW.trod enc Tryz.prog W base spare held m 9 (([v0, v1, v2, v3, v4, v5, v6, v7].drop 2).take (Tryz.prog.cellsOf 9)) = some y2 := hf 2 _ rfl
      rw [show Tryz.prog.cellsOf 9 = 1 by kernel_rfl] at h2
      have h2 : DataW.trod enc Tryz.prog W base spare held m 9 [v2] = some y2 := h2
      have h3 : DataW.trod enc Tryz.prog W base spare held m 22 (([v0, v1, v2, v3, v4, v5, v6, v7].drop 3).take (Tryz.prog.cellsOf 22)) = some y3 := hf 3 _ rfl
      rw [show Tryz.prog.cellsOf 22 = 1 by kernel_rfl] at h3
      have h3 : DataW.trod enc Tryz.prog W base spare held m 22 [v3] = some y3 := h3
      have h4 : DataW.trod enc Tryz.prog W base spare held m 23 (([v0, v1, v2, v3, v4, v5, v6, v7].drop 4).take (Tryz.prog.cellsOf 23)) = some y4 := hf 4 _ rfl
      rw [show Tryz.prog.cellsOf 23 = 1 by kernel_rfl] at h4
      have h4 : DataW.trod enc Tryz.prog W base spare held m 23 [v4] = some y4 := h4
      have h5 : DataW.trod enc Tryz.prog W base spare held m 24 (([v0, v1, v2, v3, v4, v5, v6, v7].drop 5).take (Tryz.prog.cellsOf 24)) = some y5 := hf 5 _ rfl
      rw [show Tryz.prog.cellsOf 24 = 1 by kernel_rfl] at h5
      have h5 : DataW.trod enc Tryz.prog W base spare held m 24 [v5] = some y5 := h5
      have h6 : DataW.trod enc Tryz.prog W base spare held m 25 (([v0, v1, v2, v3, v4, v5, v6, v7].drop 6).take (Tryz.prog.cellsOf 25)) = some y6 := hf 6 _ rfl
      rw [show Tryz.prog.cellsOf 25 = 1 by kernel_rfl] at h6
      have h6 : DataW.trod enc Tryz.prog W base spare held m 25 [v6] = some y6 := h6
      have h7 : DataW.trod enc Tryz.prog W base spare held m 26 (([v0, v1, v2, v3, v4, v5, v6, v7].drop 7).take (Tryz.prog.cellsOf 26)) = some y7 := hf 7 _ rfl
      rw [show Tryz.prog.cellsOf 26 = 1 by kernel_rfl] at h7
      have h7 : DataW.trod enc Tryz.prog W base spare held m 26 [v7] = some y7 := h7
      obtain ⟨x0, rfl, _⟩ := fintcell Tryz.underlying3 h0
      obtain ⟨x1, rfl⟩ := fboolcell Tryz.underlying4 h1
      obtain ⟨x2, rfl, d2⟩ := fstrcell Tryz.underlying9 h2
      have hb : Rows.uptoBulk (DataW.agg ([y0, y1, y2, y3, y4, y5, y6, y7].map (·.1))) = Rows.uptoBulk y0.1 + (Rows.uptoBulk y1.1 + ((x2.length + 1) + (Rows.uptoBulk y3.1 + (Rows.uptoBulk y4.1 + (Rows.uptoBulk y5.1 + (Rows.uptoBulk y6.1 + (Rows.uptoBulk y7.1 + 0))))))) + 1 := by
        simp only [List.map_cons, List.map_nil, Rows.uptoBulk, Rows.uptoBulkAll, d2]
      dsimp only at hk ⊢
      rw [hb] at hk ⊢
      obtain ⟨ws, w3, e3, hws, b3⟩ := read_slice (e := wsE) (c := 10) (fun x => 2 + wtL x) Tryz.underlying22 (by kernel_rfl) (fun n cs z _ h => by
        obtain ⟨l, v, rfl, hS, hw⟩ := read_word h
        have := bulk_one z.1
        exact ⟨l, ⟨v, rfl, hS⟩, by omega⟩) h3
      obtain ⟨as', w4, e4, has, b4⟩ := read_slice (e := nsE) (c := 10) (fun x => 2 + x.1.length + wtL x.2) Tryz.underlying23 (by kernel_rfl) (fun n cs z _ h => by
        obtain ⟨x, hx, hw⟩ := read_pair Tryz.underlying43 rfl rfl rfl rfl (by kernel_rfl) h
        exact ⟨x, hx, by omega⟩) h4
      obtain ⟨rs, w5, e5, hrs, b5⟩ := read_slice (e := nsE) (c := 10) (fun x => 2 + x.1.length + wtL x.2) Tryz.underlying24 (by kernel_rfl) (fun n cs z _ h => by
        obtain ⟨x, hx, hw⟩ := read_pair Tryz.underlying45 rfl rfl rfl rfl (by kernel_rfl) h
        exact ⟨x, hx, by omega⟩) h5
      obtain ⟨os, w6, e6, hos, b6⟩ := read_slice (e := osE) (c := 10) (fun x => 2 + x.length) Tryz.underlying25 (by kernel_rfl) (fun n cs z _ h => by
        obtain ⟨⟨⟨l⟩⟩, hc, hy, _⟩ := DataW.trod_string Tryz.underlying9 h
        refine ⟨l, hc, ?_⟩
        rw [show z.1 = .lit (.string l) by rw [hy], bulk_str]
        omega) h6
      obtain ⟨ks, w7, e7, hks, b7⟩ := read_slice (e := ndE) (c := 10) Nd.wt Tryz.underlying26 (by kernel_rfl) (fun n cs z hz h => read_node k n cs z (by omega) h) h7
      obtain rfl : v3 = w3 := by simpa using e3
      obtain rfl : v4 = w4 := by simpa using e4
      obtain rfl : v5 = w5 := by simpa using e5
      obtain rfl : v6 = w6 := by simpa using e6
      obtain rfl : v7 = w7 := by simpa using e7
      rw [← sumW_words] at b3
      rw [← sumW_pairs] at b4 b5
      rw [← sumW_ops] at b6
      rw [← sumW_kids] at b7
      refine ⟨.mk x0 x1 x2 ws as' rs os ks, NdE.of (x := .mk x0 x1 x2 ws as' rs os ks) hws has hrs hos hks, ?_⟩
      rw [Nd.wt_eq]
      simp only [Nd.nm, Nd.ws, Nd.as, Nd.rs, Nd.os, Nd.ks]
      omega
end
end Go.Proofs.YthommfjiaalecaaGreatDoor
namespace Go.Proofs.YthommfjiaalecaaGreatDoor
open Go.ChangeShapes Go.WideShapes Go.ChangeAt Go.RowKit Vc
section
variable {H : Type} {enc : TypeId × Value → H} {W : World} {base b0 : Nat} {spare : Nat → Bool} {held : Bool} {r : Reach} {v : Value} {d : DataW H} {ps : List MemPlace}
set_option maxRecDepth 100000 in
theorem open_node (hval : Value.okWide Tryz.prog W r b0 28 v) (h : DataW.Trod enc Tryz.prog W base spare held 28 v d ps) (_ : Sized Tryz.prog 28 d) (hb : Rows.uptoBulkAll [d] ≤ 1048576) : ∃ cs x, v = .agg ⟨cs⟩ ∧ NdE W (fun _ => True) x cs ∧ x.wt ≤ 800000000 := by
  unfold Value.okWide at hval
  simp only [Tryz.underlying28] at hval
  obtain ⟨⟨cs⟩, rfl, _, _⟩ := hval
  obtain ⟨fuel, h⟩ := h
  obtain ⟨x, hx, hw⟩ := read_node _ fuel cs _ (Nat.lt_succ_self _) h
  simp only [Rows.uptoBulkAll] at hb
  exact ⟨cs, x, rfl, hx, by dsimp only at hw; omega⟩
end
end Go.Proofs.YthommfjiaalecaaGreatDoor
