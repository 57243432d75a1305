/- The verification condition of whole functions: operations that turn the world, regions, loops, calls; 'vc_sound', 'calls_vc'. Conditions: none; no program is named. -/
import Derived.Test.YtgincpkggnndeaaGreatDoorVc
import Derived.Test.YtgincpkggnndeaaGreatDoorHeap
import Derived.Lib.ConvBytes
import Derived.Maps.AppendAt
import Derived.Deep.Quiet
import Derived.StillTail
import Derived.Lib.OthersKept
import Derived.Laws.Externs
namespace Go.Proofs.YtgincpkggnndeaaGreatDoor.Vc
open Go.RowKit

/-! ### Operations that turn the world -/
abbrev KW := Value → World → Prop
def Wr (w : World) (a : Addr) : Prop := (w.cell? a).isSome = true ∧ w.frozen? a = false
def stCells (a : Addr) (K : World → Prop) : Nat → List Value → World → Prop
  | _, [], w => K w
  | i, v :: r, w => bsel v.oneCell' (Wr w (a.add i) ∧ stCells a K (i + 1) r (w.setCell (a.add i) v)) False
theorem store_run {P : Program} {w : World} {a : Addr} {v : Value} (hv : v.oneCell' = true) (h : Wr w a) : (store a v).run P w = .ok () (w.setCell a v) := by
  rw [run_store P w a v _ hv]
  obtain ⟨h1, h2⟩ := h
  cases hc : w.cell? a with
  | none => simp [hc] at h1
  | some u => simp [h2]
theorem stCells_out {P : Program} {a : Addr} {K : World → Prop} {vs : List Value} : ∀ {i : Nat} {w : World}, stCells a K i vs w → ∃ w', (storeCells a vs i).run P w = .ok () w' ∧ K w' := by
  induction vs with
  | nil => intro i w h; exact ⟨w, rfl, h⟩
  | cons v r ih =>
    intro i w h
    obtain ⟨hv, h1, h2⟩ := bsel_true_out h
    obtain ⟨w', h3, h4⟩ := ih h2
    exact ⟨w', by simp only [storeCells, Sem.run_bind, store_run hv h1, Result.andThen_ok, h3], h4⟩
def storeV (P : Program) (t : TypeId) (a : Addr) (vs : List Value) (w : World) (K : World → Prop) : Prop :=
  bsel (hasInfo P t) (bsel (Nat.ble (szOf P t) 16)
    (bsel (Nat.beq vs.length (szOf P t)) (stCells a K 0 vs w) False)
    (vs.length = szOf P t ∧ (∀ v ∈ vs, v.oneCell' = true) ∧ ∃ (g o : Nat) (cur : List Value) (e : TypeId), a = ⟨g, o, none⟩ ∧ Row w g e ⟨cur⟩ ∧ o + vs.length ≤ cur.length ∧
      K (w.setRow g ⟨cur.take o ++ (vs ++ cur.drop (o + vs.length))⟩))) False
theorem storeV_out {P : Program} {t : TypeId} {a : Addr} {v : Value} {w : World} {K : World → Prop} (h : storeV P t a (cellsOf v) w K) : ∃ w', (storeVar t a v).run P w = .ok () w' ∧ K w' := by
  obtain ⟨hi, h⟩ := bsel_true_out h
  have fin : ∀ w', (cellsOf v).length = szOf P t → (storeCells a (cellsOf v)).run P w = .ok () w' → (storeVar t a v).run P w = .ok () w' := by
    intro w' hl hr
    simp only [storeVar, Sem.run_bind, run_size hi, Result.andThen_ok, cellsOf_eq, List.size_toArray, hl, ne_eq, not_true_eq_false, if_false, hr]
  rw [bsel_iff] at h
  cases hb : Nat.ble (szOf P t) 16 with
  | true =>
    obtain ⟨hl, h⟩ := bsel_true_out (h.1 hb)
    obtain ⟨w', h1, h2⟩ := stCells_out (P := P) h
    exact ⟨w', fin w' (Nat.eq_of_beq_eq_true hl) h1, h2⟩
  | false =>
    obtain ⟨hl, h1, g, o, cur, e, rfl, hg, hf, hk⟩ := h.2 hb
    refine ⟨_, fin _ hl ?_, hk⟩
    have := run_storeRow P g o e (cellsOf v) 0 ⟨cur⟩ w hg (by simpa using hf) h1
    rw [this]
    simp [List.append_assoc]

def repL (zs : List Value) : Nat → List Value
  | 0 => []
  | n + 1 => zs ++ repL zs n
theorem repL_length (zs : List Value) (n : Nat) : (repL zs n).length = n * zs.length := by
  induction n with
  | zero => simp [repL]
  | succ n ih => simp [repL, ih, Nat.add_mul, Nat.add_comm]
theorem repL_get (zs : List Value) (n : Nat) : ∀ i, i < n * zs.length → (repL zs n)[i]? = zs[i % zs.length]? := by
  induction n with
  | zero => intro i hi; simp at hi
  | succ n ih =>
    intro i hi
    simp only [repL]
    by_cases h : i < zs.length
    · rw [List.getElem?_append_left h, Nat.mod_eq_of_lt h]
    · have hz : zs.length ≤ i := Nat.le_of_not_lt h
      rw [List.getElem?_append_right hz, ih _ (by rw [Nat.add_mul] at hi; omega)]
      congr 1
      have : i = (i - zs.length) + zs.length := by omega
      rw [this, Nat.add_mod_right]
      simp
theorem madeCells_repL (zs : List Value) (n : Nat) : madeCells ⟨zs⟩ (n * zs.length) = ⟨repL zs n⟩ := by
  apply Array.ext'
  apply List.ext_getElem?
  intro i
  by_cases h : i < n * zs.length
  · rw [repL_get zs n i h]
    have hz : 0 < zs.length := by
      rcases Nat.eq_zero_or_pos zs.length with h0 | h0
      · rw [h0] at h; simp at h
      · exact h0
    have hm : i % zs.length < zs.length := Nat.mod_lt _ hz
    simp [madeCells, h, hm]
  · have h1 : n * zs.length ≤ i := Nat.le_of_not_lt h
    rw [List.getElem?_eq_none (l := (madeCells ⟨zs⟩ (n * zs.length)).toList) (by simpa [madeCells] using h1), List.getElem?_eq_none (l := repL zs n) (by rw [repL_length]; exact h1)]

def makeV (P : Program) (t : TypeId) (n c : Value) (w : World) (K : KW) : Prop := intK n fun _ n => intK c fun _ c => match P.underlying t with
  | some (.slice e) => match P.info? e with
    | some i => match i.zero with
      | some z => 0 ≤ n ∧ n ≤ c ∧ (i.bytes : Int) * c ≤ 281474976710656 ∧ c ≤ 9223372036854775807 ∧
          K (.slice (some ⟨w.heap.size, 0, none⟩) n.toNat c.toNat) (w.alloc (.cells (madeCells ⟨cellsOf z⟩ (c.toNat * i.size)) e))
      | none => False
    | none => False
  | _ => False
theorem makeV_out {P : Program} {t : TypeId} {n c : Value} {w : World} {K : KW} (h : makeV P t n c w K) : ∃ v w', (Instr.makeSlice t n c).run P w = .ok v w' ∧ K v w' := by
  obtain ⟨kn, n, rfl, h1⟩ := intK_out h
  obtain ⟨kc, c, rfl, h2⟩ := intK_out h1
  clear h h1
  have h := h2
  clear h2
  split at h
  · rename_i e hu
    split at h
    · rename_i i hi
      split at h
      · rename_i z hz
        obtain ⟨h0, h1, h2, h3, hk⟩ := h
        have := run_make (P := P) w t e i z hu hi hz kn kc n c h0 h1 h2 h3
        rw [cellsOf_eq] at this
        exact ⟨_, _, this, hk⟩
      · exact h.elim
    · exact h.elim
  · exact h.elim

theorem spl_all : ∀ (vs l : Fr) (n : Nat), n + vs.length ≤ l.length → spl l n vs = l.take n ++ (vs ++ l.drop (n + vs.length))
  | [], l, n, _ => by simp [spl]
  | v :: r, l, n, h => by
    have h' : n + 1 + r.length ≤ l.length := by simp at h; omega
    rw [spl, spl_all r (l.set n v) (n + 1) (by simpa using h')]
    apply List.ext_getElem?
    intro j
    simp only [List.getElem?_append, List.getElem?_take, List.getElem?_drop, List.length_take, List.length_set, List.getElem?_set, List.length_cons, List.getElem?_cons]
    grind
/-- The parts of a row of elements: one whole element, or several. -/
def fillOneK (sz : Nat) (z : Fr) (len : Nat) (parts : List (Nat × Value)) (K : Fr → Prop) : Prop := match len, parts with
  | 1, [(0, .agg ⟨cs⟩)] => bsel (Nat.beq cs.length sz) (K cs) False
  | _, _ => fillK (fun i => some (i * sz, sz)) z parts K
theorem fillOneK_out {sz len : Nat} {z : Fr} {parts : List (Nat × Value)} {K : Fr → Prop} (hz : z.length = len * sz) (h : fillOneK sz z len parts K) : ∃ l', Instr.fill (fun i => some (i * sz, sz)) ⟨z⟩ parts = some ⟨l'⟩ ∧ K l' := by
  unfold fillOneK at h
  split at h
  · rename_i cs
    obtain ⟨hb, h⟩ := bsel_true_out h
    have hb := Nat.eq_of_beq_eq_true hb
    refine ⟨cs, ?_, h⟩
    simp only [Instr.fill, cellsOf_eq, cellsOf, List.size_toArray, Nat.zero_mul]
    rw [if_neg (by simp; omega), spl_array, spl_all _ _ _ (by omega)]
    have : z.length = cs.length := by omega
    simp [← this]
  · exact fillK_out h
def buildSomeV (P : Program) (t : TypeId) (len : Nat) (parts : List (Nat × Value)) (w : World) (K : KW) : Prop := match P.underlying t with
  | some (.slice e) => bsel (hasInfo P e && hasZero P e && Nat.beq (zeroOf P e).length (szOf P e) && !Nat.beq (len * szOf P e) 0 && Nat.ble (len * szOf P e) 16777216)
      (fillOneK (szOf P e) (repL (zeroOf P e) len) len parts fun l => K (.slice (some ⟨w.heap.size, 0, none⟩) len len) (w.alloc (.cells ⟨l⟩ e))) False
  | _ => False
theorem buildSomeV_out {P : Program} {t : TypeId} {len : Nat} {parts : List (Nat × Value)} {w : World} {K : KW} (h : buildSomeV P t len parts w K) :
    ∃ v w', (Instr.buildSlice t len ⟨parts⟩).run P w = .ok v w' ∧ K v w' := by
  unfold buildSomeV at h
  split at h
  · rename_i e hu
    obtain ⟨hb, h⟩ := bsel_true_out h
    simp only [Bool.and_eq_true, Bool.not_eq_true'] at hb
    obtain ⟨⟨⟨⟨h1, h2⟩, h3⟩, h4⟩, h5⟩ := hb
    obtain ⟨z, hz, hr⟩ := run_zero h2
    have h3 := Nat.eq_of_beq_eq_true h3
    obtain ⟨l', h6, h7⟩ := fillOneK_out (by rw [repL_length, h3]) h
    have h4 : ¬ len * szOf P e = 0 := fun he => by rw [he] at h4; cases h4
    have h5 := Nat.le_of_ble_eq_true h5
    refine ⟨_, _, ?_, h7⟩
    have hcells : (Array.range (len * szOf P e)).map (fun i => (Array.mk (zeroOf P e))[i % (Array.mk (zeroOf P e)).size]!) = ⟨repL (zeroOf P e) len⟩ := by
      rw [← madeCells_repL, h3]
      rfl
    have h5' : ¬ (2 ^ 24 < len * szOf P e) := by omega
    simp only [Instr.buildSlice, Sem.run_bind, run_underlying hu, Result.andThen_ok, run_size h1, gt_iff_lt, if_neg h5', if_neg h4, hr, cellsOf_eq, hz, hcells, h6, Sem.run_pure, newRow]
    rfl
  · exact h.elim
def buildNoneV (P : Program) (t : TypeId) (w : World) (K : KW) : Prop := match P.underlying t with
  | some (.slice e) => bsel (hasInfo P e) (K (.slice (some ⟨w.heap.size, 0, none⟩) 0 0) (w.alloc (.cells ⟨[]⟩ e))) False
  | _ => False
def buildSliceV (P : Program) (t : TypeId) (len : Nat) (parts : List (Nat × Value)) (w : World) (K : KW) : Prop :=
  bsel (Nat.beq len 0 && parts.isEmpty) (buildNoneV P t w K) (buildSomeV P t len parts w K)
theorem buildSliceV_out {P : Program} {t : TypeId} {len : Nat} {parts : List (Nat × Value)} {w : World} {K : KW} (h : buildSliceV P t len parts w K) :
    ∃ v w', (Instr.buildSlice t len ⟨parts⟩).run P w = .ok v w' ∧ K v w' := by
  unfold buildSliceV at h
  cases hb : (Nat.beq len 0 && parts.isEmpty) with
  | false => rw [hb] at h; exact buildSomeV_out h
  | true =>
    rw [hb] at h
    simp only [Bool.and_eq_true, List.isEmpty_iff] at hb
    obtain ⟨h0, rfl⟩ := hb
    obtain rfl := Nat.eq_of_beq_eq_true h0
    have h : buildNoneV P t w K := h
    unfold buildNoneV at h
    split at h
    · rename_i e hu
      obtain ⟨h1, h⟩ := bsel_true_out h
      refine ⟨_, _, ?_, h⟩
      have hz : (Array.range 0).map (fun i => (#[] : Array Value)[i % (#[] : Array Value).size]!) = #[] := by simp
      simp only [Instr.buildSlice, Sem.run_bind, run_underlying hu, Result.andThen_ok, run_size h1, Nat.zero_mul, gt_iff_lt, Nat.not_lt_zero, if_true, if_false, Sem.run_pure, newRow, hz]
      rfl
    · exact h.elim

/-- Where a slice's row lies behind an append: as it did, or anew. -/
def Blk (p p' : Option Addr) (n' c c' s : Nat) : Prop := (p' = p ∧ c' = c) ∨ ((Value.slice p' n' c').ownBlock = some s ∧ 0 < n')
theorem Blk.own {p p' : Option Addr} {n n' c c' s : Nat} (h : Blk p p' n' c c' s) : (Value.slice p' n' c').ownBlock = (Value.slice p n c).ownBlock ∨ (Value.slice p' n' c').ownBlock = some s := by
  rcases h with ⟨rfl, rfl⟩ | ⟨h, _⟩
  · exact .inl (by cases p' <;> rfl)
  · exact .inr h
/-- 'append' to a slice that is nil or owns its row: of another slice's elements, of a string's bytes. -/
def growK (w : World) (e : TypeId) (size bytes : Nat) (s : Value) (p : Option Addr) (n c m : Nat) (xs news : List Value) (K : KW) : Prop :=
  n + m ≤ 9223372036854775807 ∧ (n + m) * bytes ≤ 140737488355328 ∧
    ∀ (p' : Option Addr) (c' : Nat) (w' : World), Owns w' 0 e size (.slice p' (n + m) c') (n + m) (xs ++ news) → w.grownBy w' (Value.slice p n c).ownBlock →
      Blk p p' (n + m) c c' w.heap.size → K (.slice p' (n + m) c') w'
def appendV (P : Program) (t u : TypeId) (s x : Value) (w : World) (K : KW) : Prop := match s with
  | .slice p n c => match P.underlying t with
    | some (.slice e) => match P.info? e with
      | some i => bsel (hasZero P e && Nat.beq (zeroOf P e).length i.size && !Nat.beq i.size 0) (match x with
          | .slice q m _ => match P.underlying u with
            | some (.slice _) => ∃ xs news : List Value, Owns w 0 e i.size (.slice p n c) n xs ∧ news.length = m * i.size ∧ (∀ u ∈ news, u.oneCell' = true) ∧
                (0 < m → ∃ a, q = some a ∧ ∀ j u, news[j]? = some u → w.cell? (a.add j) = some u) ∧ n + m ≤ 9223372036854775807 ∧ (n + m) * i.bytes ≤ 140737488355328 ∧
                ∀ (p' : Option Addr) (c' : Nat) (w' : World), Owns w' 0 e i.size (.slice p' (n + m) c') (n + m) (xs ++ news) → w.grownBy w' (Value.slice p n c).ownBlock →
                  Blk p p' (n + m) c c' w.heap.size → K (.slice p' (n + m) c') w'
            | _ => False
          | .string ⟨⟨b⟩⟩ => match P.underlying u with
            | some .string => bsel (Nat.beq i.size 1) (∃ xs : List Value, Owns w 0 e i.size (.slice p n c) n xs ∧ n + b.length ≤ 9223372036854775807 ∧ (n + b.length) * i.bytes ≤ 140737488355328 ∧
                ∀ (p' : Option Addr) (c' : Nat) (w' : World), Owns w' 0 e i.size (.slice p' (n + b.length) c') (n + b.length) (xs ++ b.map (fun b => Value.int .u8 b.toNat)) → w.grownBy w' (Value.slice p n c).ownBlock →
                  Blk p p' (n + b.length) c c' w.heap.size → K (.slice p' (n + b.length) c') w') False
            | _ => False
          | _ => False) False
      | none => False
    | _ => False
  | _ => False
/-- A call's append, whatever its source, if that reads as 'news'. -/
theorem run_append_owns {P : Program} {w : World} {t u ty e : TypeId} {i : TypeInfo} {z : Value} (ht : P.underlying t = some (.slice e)) {d : TypeDesc} (hu : P.underlying u = some d) (hd : ∀ k, d ≠ .int k) (hi : P.info? e = some i) (hz : i.zero = some z)
    (hzs : z.cells.size = i.size) (_hsz : 0 < i.size) {x : Value} {p : Option Addr} {n c m : Nat} {xs news : List Value} (hown : Owns w 0 e i.size (.slice p n c) n xs) (hlen : ∀ w', (Builtin.lenOf x).run P w' = .ok m w')
    (hf : (Builtin.firstCells i.size m x).run P w = .ok ⟨news⟩ w) (hfd : (Builtin.firstCells i.size m x).run P w.drew = .ok ⟨news⟩ w.drew) (hl : news.length = m * i.size) (h1 : ∀ u ∈ news, u.oneCell' = true)
    (h63 : n + m ≤ 9223372036854775807) (hbytes : (n + m) * i.bytes ≤ 140737488355328) :
    ∃ p' c' w', (Builtin.append_ #[t, u] ty #[.slice p n c, x]).run P w = .ok (.slice p' (n + m) c') w' ∧ Owns w' 0 e i.size (.slice p' (n + m) c') (n + m) (xs ++ news) ∧ w.grownBy w' (Value.slice p n c).ownBlock ∧
      Blk p p' (n + m) c c' w.heap.size := by
  have hmax : n + m ≤ maxLen := by simpa [maxLen] using h63
  have hlx : (xs ++ news).length = (n + m) * i.size := by rw [List.length_append, hown.1, hl, Nat.add_mul]
  have hne : (match d with | .int _ => true | _ => false) = false := by
    cases d <;> first | rfl | exact (hd _ rfl).elim
  have grown : ∀ (old : Nat) (row : Option Nat),
      Owns (w.drew.alloc (.cells (xs.toArray ++ news.toArray ++ Builtin.zeroCells z.cells (grownCap w (n + m) old e - (n + m))) e)) 0 e i.size
        (.slice (some ⟨w.heap.size, 0, none⟩) (n + m) (grownCap w (n + m) old e)) (n + m) (xs ++ news) ∧
      w.grownBy (w.drew.alloc (.cells (xs.toArray ++ news.toArray ++ Builtin.zeroCells z.cells (grownCap w (n + m) old e - (n + m))) e)) row := by
    intro old row
    have hge := grownCap_ge w (n + m) old e
    have hcm : grownCap w (n + m) old e ≤ maxLen := grownCap_le_maxLen w (n + m) old e hmax
    refine ⟨⟨hlx, .inr ⟨w.heap.size, _, _, rfl, Nat.zero_le _, Row.new w.drew e _, hge, hcm, ?_, ?_⟩⟩, ⟨rfl, rfl, rfl, by simp, fun k hk _ => Below.heap_alloc w.drew _ k hk⟩⟩
    · simp only [Array.size_append, List.size_toArray, size_zeroCells, hzs, hown.1, hl, ← Nat.add_mul]
      congr 1
      omega
    · simp only [Array.toList_append, List.append_assoc]
      rw [← List.append_assoc, ← hlx]
      exact List.take_left
  have h63' : ¬ (9223372036854775807 < ((n : Int) + (m : Int))) := by omega
  rcases hown.2 with ⟨hv, rfl⟩ | ⟨g, cap, cur, hv, _, hg, hnc, hcm, hcs, htake⟩ <;> (injection hv with hv1 _ hv2; subst hv1; subst hv2)
  · have hx : xs = [] := List.eq_nil_of_length_eq_zero (by simpa using hown.1)
    subst hx
    rcases Nat.eq_zero_or_pos m with rfl | hm
    · have hn : news = [] := List.eq_nil_of_length_eq_zero (by simpa using hl)
      subst hn
      refine ⟨none, 0, w, ?_, by simpa using Owns.nil w 0 e i.size, World.grownBy.refl w _, .inl ⟨rfl, rfl⟩⟩
      simp [Builtin.append_, run_underlying ht, run_underlying hu, sizeOf, typeInfo, hi, hlen, hf]
    · have hm0 : m ≠ 0 := by omega
      have h63'' : ¬ (9223372036854775807 < (m : Int)) := by omega
      have h48' : ¬ (281474976710656 < Builtin.nextslicecap m 0 * i.bytes) := by
        rw [nextslicecap_zero hm]
        have : m * i.bytes ≤ 140737488355328 := by simpa using hbytes
        omega
      have hgr := grown 0 (Value.ownBlock (.slice none 0 0))
      simp only [Nat.zero_add, List.nil_append, Array.empty_append] at hgr ⊢
      refine ⟨_, _, _, ?_, hgr.1, hgr.2, .inr ⟨rfl, by omega⟩⟩
      simp [Builtin.append_, run_underlying ht, run_underlying hu, sizeOf, typeInfo, zeroValue, hi, hz, hlen, hm0, h63'', h48', Question.forced, run_firstCells_none, hfd, newRow, grownCap]
  · by_cases hroom : n + m ≤ c
    · have hfit : n * i.size + news.length ≤ cur.size := by rw [hl, hcs, ← Nat.add_mul]; exact Nat.mul_le_mul_right _ hroom
      have hst := run_storeRow P g (n * i.size) e news 0 cur w hg (by simpa using hfit) h1
      simp only [Nat.add_zero] at hst
      have hsize : (cur.toList.take (n * i.size) ++ news ++ cur.toList.drop (n * i.size + news.length)).toArray.size = cur.size := by
        simp only [List.size_toArray, List.length_append, List.length_take, List.length_drop, Array.length_toList]
        omega
      refine ⟨some ⟨g, 0, none⟩, c, w.setRow g (cur.toList.take (n * i.size) ++ news ++ cur.toList.drop (n * i.size + news.length)).toArray, ?_,
        ⟨hlx, .inr ⟨g, c, _, rfl, Nat.zero_le _, hg.setRow _ hsize, hroom, hcm, by rw [hsize, hcs], ?_⟩⟩, ⟨rfl, rfl, rfl, by simp, fun k _ hk => setRow_other w g k _ (fun e => hk (by simp [Value.ownBlock, e]))⟩, .inl ⟨rfl, rfl⟩⟩
      · simp [Builtin.append_, run_underlying ht, run_underlying hu, sizeOf, typeInfo, hi, hlen, hroom, hf, Addr.add_lit, hst]
      · rw [htake, ← hlx]
        exact List.take_left
    · have hgr := grown c (Value.ownBlock (.slice (some ⟨g, 0, none⟩) n c))
      have hfo := run_firstCells_some (P := P) w.drew i.size n ⟨g, 0, none⟩ n c xs hown.1 (fun j u hu => by
        have := hown.cells (g := g) rfl j u hu
        have e : (⟨g, 0, none⟩ : Addr).add j = ⟨g, j, none⟩ := by unfold Addr.add; split <;> simp_all
        rw [e]
        exact this)
      have h48' : ¬ (281474976710656 < Builtin.nextslicecap (n + m) c * i.bytes) := by
        have := growslice_fits (need := n + m) (old := c) (by omega) hbytes
        omega
      refine ⟨_, _, _, ?_, hgr.1, hgr.2, .inr ⟨rfl, by omega⟩⟩
      simp [Builtin.append_, run_underlying ht, run_underlying hu, sizeOf, typeInfo, zeroValue, hi, hz, hlen, hroom, h63', h48', Question.forced, hfd, hfo, newRow, grownCap]
      congr 2
      apply Array.ext'
      simp [List.append_assoc]

theorem appendV_out {P : Program} {t u ty : TypeId} {s x : Value} {w : World} {K : KW} (h : appendV P t u s x w K) : ∃ v w', (Builtin.append_ #[t, u] ty #[s, x]).run P w = .ok v w' ∧ K v w' := by
  unfold appendV at h
  split at h
  · rename_i p n c
    split at h
    · rename_i e ht
      split at h
      · rename_i i hi
        obtain ⟨hb, h⟩ := bsel_true_out h
        simp only [Bool.and_eq_true, Bool.not_eq_true'] at hb
        obtain ⟨⟨h1, h2⟩, h3⟩ := hb
        obtain ⟨i', z, hi', hz, hc⟩ := hasZero_out h1
        obtain rfl : i' = i := by rw [hi] at hi'; exact (Option.some.inj hi').symm
        have h2 := Nat.eq_of_beq_eq_true h2
        have h3 : 0 < i'.size := by
          rcases Nat.eq_zero_or_pos i'.size with h0 | h0
          · rw [h0] at h3; cases h3
          · exact h0
        have hzs : z.cells.size = i'.size := by rw [cellsOf_eq, hc]; exact h2
        split at h
        · rename_i q m c2 _
          split at h
          · rename_i e2 hu
            obtain ⟨xs, news, hown, hl, hone, hsrc, hm, hby, hk⟩ := h
            have hfirst : ∀ w', (∀ a, w'.cell? a = w.cell? a) → (Builtin.firstCells i'.size m (.slice q m c2)).run P w' = .ok ⟨news⟩ w' := by
              intro w' hw
              rcases Nat.eq_zero_or_pos m with h0 | h0
              · subst h0
                obtain rfl : news = [] := List.eq_nil_of_length_eq_zero (by simpa using hl)
                cases q with
                | none => rfl
                | some a => simp [Builtin.firstCells, loadCells, loadCellsFrom]
              · obtain ⟨a', h, hc⟩ := hsrc h0
                subst h
                have := run_firstCells_some (P := P) w' i'.size m a' m c2 news hl (fun j u hu => (hw _).trans (hc j u hu))
                simpa using this
            obtain ⟨p', c', w', hrun, h5, h6, h8⟩ := run_append_owns (ty := ty) ht hu (by simp) hi hz hzs h3 hown (x := .slice q m c2) (m := m) (news := news) (fun _ => rfl) (hfirst w (fun _ => rfl)) (hfirst w.drew (fun _ => rfl)) hl hone hm hby
            exact ⟨_, _, hrun, hk p' c' w' h5 h6 h8⟩
          · exact h.elim
        · rename_i b _
          split at h
          · rename_i hu
            obtain ⟨h1z, xs, hown, hm, hby, hk⟩ := bsel_true_out h
            have h1z := Nat.eq_of_beq_eq_true h1z
            have hfirst : ∀ w', (Builtin.firstCells i'.size b.length (.string ⟨⟨b⟩⟩)).run P w' = .ok ⟨b.map fun b => Value.int .u8 b.toNat⟩ w' := by
              intro w'
              simp only [Builtin.firstCells, Sem.run_pure]
              congr 1
              apply Array.ext'
              simp [List.extract_eq_take_drop]
            obtain ⟨p', c', w', hrun, h5, h6, h8⟩ := run_append_owns (ty := ty) ht hu (by simp) hi hz hzs h3 hown (x := .string ⟨⟨b⟩⟩) (m := b.length) (news := b.map fun b => Value.int .u8 b.toNat) (fun _ => rfl) (hfirst w) (hfirst w.drew) (by rw [h1z]; simp)
              (by intro u hu; simp only [List.mem_map] at hu; obtain ⟨_, _, rfl⟩ := hu; rfl) hm hby
            exact ⟨_, _, hrun, hk p' c' w' h5 h6 h8⟩
          · exact h.elim
        · exact h.elim
      · exact h.elim
    · exact h.elim
  · exact h.elim

/-- A string's bytes, in a row of their own. -/
def bytesOfV (P : Program) (dst : TypeId) (src : TypeId) (s : List UInt8) (w : World) (K : KW) : Prop := match P.underlying src, P.underlying dst with
  | some _, some (.slice e) => bsel (isU8 P e) (s.length ≤ 9223372036854775807 ∧ ∀ (c : Nat) (w' : World), Owns w' 0 e 1 (.slice (some ⟨w.heap.size, 0, none⟩) s.length c) s.length (s.map fun b => Value.int .u8 b.toNat) → w.grownBy w' none →
      K (.slice (some ⟨w.heap.size, 0, none⟩) s.length c) w') False
  | _, _ => False
theorem bytesOfV_out {P : Program} {src dst : TypeId} {s : List UInt8} {w : World} {K : KW} (h : bytesOfV P dst src s w K) : ∃ v w', (convert src dst (.string ⟨⟨s⟩⟩)).run P w = .ok v w' ∧ K v w' := by
  unfold bytesOfV at h
  split at h
  · rename_i u e hs hd
    obtain ⟨he, hlen, hk⟩ := bsel_true_out h
    have hr := Lib.run_convert_string_bytes w src dst e ⟨⟨s⟩⟩ hs hd (isU8_out he)
    refine ⟨_, _, hr, hk _ _ ⟨by simp, .inr ⟨w.heap.size, _, _, rfl, Nat.zero_le _, ⟨_, Lib.bytesWorld_at_new w e ⟨⟨s⟩⟩, .inr (Nat.le_refl _)⟩, ?_, ?_, ?_, ?_⟩⟩ ⟨rfl, rfl, rfl, ?_, ?_⟩⟩
    · exact grownCap_ge w s.length 0 e
    · exact grownCap_le_maxLen w s.length 0 e (by simpa [maxLen] using hlen)
    · have := grownCap_ge w s.length 0 e
      simp [Lib.bytesCells, ByteArray.size]
      omega
    · simp only [Lib.bytesCells, Nat.mul_one, Array.toList_append, Array.toList_map]
      rw [List.take_append_of_le_length (by simp)]
      rw [List.take_of_length_le (by simp)]
    · rw [Lib.bytesWorld_size]; omega
    · intro k hk _
      exact Lib.bytesWorld_at_old w e ⟨⟨s⟩⟩ k hk
  · exact h.elim

/-- 'copy' into a row that is known whole. -/
def copyV (P : Program) (t : TypeId) (d s : Value) (w : World) (K : KW) : Prop := match d with
  | .slice p dn _ => match P.underlying t with
    | some (.slice e) => bsel (hasInfo P e && Nat.beq (szOf P e) 1) (∃ cs : List Value, (∀ v ∈ cs, v.oneCell' = true) ∧ (match s with
        | .slice q sn _ => cs.length = min sn dn ∧ (0 < cs.length → ∃ a, q = some a ∧ ∀ j u, cs[j]? = some u → w.cell? (a.add j) = some u)
        | .string ⟨⟨s⟩⟩ => cs = (s.take (min s.length dn)).map (fun b => Value.int .u8 b.toNat)
        | _ => False) ∧
        ((cs.length = 0 ∧ K (.int .i64 0) w) ∨ ∃ (g o : Nat) (cur : List Value) (e' : TypeId), p = some ⟨g, o, none⟩ ∧ Row w g e' ⟨cur⟩ ∧ o + cs.length ≤ cur.length ∧
          K (.int .i64 cs.length) (w.setRow g ⟨cur.take o ++ (cs ++ cur.drop (o + cs.length))⟩))) False
    | _ => False
  | _ => False
theorem copyV_out {P : Program} {t t2 ty : TypeId} {d s : Value} {w : World} {K : KW} (h : copyV P t d s w K) : ∃ v w', (Builtin.copy_ #[t, t2] ty #[d, s]).run P w = .ok v w' ∧ K v w' := by
  unfold copyV at h
  split at h
  · rename_i p dn dc
    split at h
    · rename_i e hu
      obtain ⟨hb, cs, hone, hs, hk⟩ := bsel_true_out h
      simp only [Bool.and_eq_true] at hb
      have hsz := Nat.eq_of_beq_eq_true hb.2
      have hlen : ∃ n, (Builtin.lenOf s).run P w = .ok n w ∧ cs.length = min n dn := by
        split at hs
        · exact ⟨_, rfl, hs.1⟩
        · rename_i s
          refine ⟨s.length, rfl, ?_⟩
          rw [hs]
          simp
        · exact hs.elim
      have hfirst : (Builtin.firstCells 1 cs.length s).run P w = .ok ⟨cs⟩ w := by
        split at hs
        · rename_i q sn sc
          cases q with
          | none =>
            have h0 : cs.length = 0 := by
              rcases Nat.eq_zero_or_pos cs.length with h0 | h0
              · exact h0
              · obtain ⟨a, ha, _⟩ := hs.2 h0; cases ha
            obtain rfl := List.eq_nil_of_length_eq_zero h0
            rfl
          | some a =>
            have hc : ∀ j u, cs[j]? = some u → w.cell? (a.add j) = some u := by
              intro j u hj
              have h0 : 0 < cs.length := by
                have := (List.getElem?_eq_some_iff.1 hj).1
                omega
              obtain ⟨a', ha, hc⟩ := hs.2 h0
              obtain rfl := Option.some.inj ha
              exact hc j u hj
            simp only [Builtin.firstCells, Nat.mul_one]
            exact run_loadCells_list (P := P) w a cs hc
        · rename_i s
          subst hs
          simp only [Builtin.firstCells, Sem.run_pure, List.length_map, List.length_take]
          congr 1
          apply Array.ext'
          simp [List.extract_eq_take_drop, ByteArray.data_extract]
        · exact hs.elim
      obtain ⟨n, hn, hcl⟩ := hlen
      have hmin : Nat.min n dn = cs.length := hcl.symm
      have pre : ∀ (r : Result Value), (match p with
          | some a => ((storeCells a cs).run P w).andThen fun _ w' => .ok (goInt cs.length) w'
          | none => .ok (goInt cs.length) w) = r → (Builtin.copy_ #[t, t2] ty #[.slice p dn dc, s]).run P w = r := by
        intro r hr
        subst hr
        cases p <;> simp [Builtin.copy_, run_underlying hu, hn, hmin, run_size hb.1, hsz, hfirst, Result.andThen]
      rcases hk with ⟨h0, hk⟩ | ⟨g, o, cur, e', rfl, hg, hf, hk⟩
      · obtain rfl := List.eq_nil_of_length_eq_zero h0
        refine ⟨_, _, pre _ ?_, hk⟩
        cases p <;> rfl
      · refine ⟨_, _, pre _ ?_, hk⟩
        have := run_storeRow P g o e' cs 0 ⟨cur⟩ w hg (by simpa using hf) hone
        simp only [this, Result.andThen_ok, goInt, Nat.add_zero, List.append_assoc]
    · exact h.elim
  · exact h.elim

/-! ### Calls -/
def callable (P : Program) (f : FuncId) : Bool := match P.funcs[f]? with
  | some fn => match fn.body with
    | some _ => !(fn.name == "runtime.NumGoroutine")
    | none => false
  | none => false
theorem callFunc_run {P : Program} {f : FuncId} (h : callable P f = true) (args : Array Value) (w : World) : (callFunc f args).run P w = .ok (.enter f args) w := by
  unfold callable at h
  cases hf : P.funcs[f]? with
  | none => simp [hf] at h
  | some fn =>
    cases hb : fn.body with
    | none => simp [hf, hb] at h
    | some c =>
      have hn : fn.name ≠ "runtime.NumGoroutine" := by simpa [hf, hb] using h
      simp [callFunc, hf, hb, hn]
def calleeK (f : Value) (K : FuncId → List Value → List Value → Prop) : Prop := match f with
  | .func (.func g) ⟨first⟩ ⟨cap⟩ => K g first cap
  | _ => False
theorem calleeK_out {f : Value} {K : FuncId → List Value → List Value → Prop} (h : calleeK f K) : ∃ g first cap, f = .func (.func g) ⟨first⟩ ⟨cap⟩ ∧ K g first cap := by
  unfold calleeK at h
  split at h
  · exact ⟨_, _, _, rfl, h⟩
  · exact h.elim
theorem call_run {P : Program} {l : Fr} {ds : List Deferred} {o : Oper} {f : Operand} {xs : List Operand} {ts : Array TypeId} (ho : o.op = .call ⟨.value f, ⟨xs⟩, ts⟩) {g : FuncId} {first cap : List Value}
    (hf : (act l ds).eval f = .func (.func g) ⟨first⟩ ⟨cap⟩) (hc : callable P g = true) (w : World) :
    (execOp (act l ds).eval o).run P w = .ok (.enter g ⟨first ++ (xs.map (act l ds).eval ++ cap)⟩) w := by
  simp only [execOp, ho, resolve, hf, Deferred.ofValue, invoke, Sem.run_bind, Sem.run_pure, Result.andThen_ok]
  rw [callFunc_run hc]
  congr 2
  apply Array.ext'
  simp

/-- A range over a text begins, and goes on. -/
def rangeV (P : Program) (t : TypeId) (v : Value) (w : World) (K : KW) : Prop := match v with
  | .string ⟨⟨b⟩⟩ => match P.underlying t with
    | some .string => K (.pointer (some ⟨w.heap.size, 0, none⟩)) (w.alloc (.stringIter ⟨⟨b⟩⟩ 0))
    | _ => False
  | _ => False
def nextV (a : Addr) (w : World) (K : KW) : Prop := a.off = 0 ∧ ∃ (b : List UInt8) (pos : Nat), w.heap[a.block]? = some (.stringIter ⟨⟨b⟩⟩ pos) ∧
  bsel (decide (pos < b.length)) (K (.tuple #[.bool true, .int .i64 (pos : Int), .int .i32 ((Utf8.decode ⟨⟨b⟩⟩ pos).1 : Int)]) (w.iterAt a.block ⟨⟨b⟩⟩ (pos + (Utf8.decode ⟨⟨b⟩⟩ pos).2)))
    (K (.tuple #[.bool false]) w)
theorem rangeV_out {P : Program} {t : TypeId} {v : Value} {w : World} {K : KW} (h : rangeV P t v w K) : ∃ u w', (Instr.range t v).run P w = .ok u w' ∧ K u w' := by
  unfold rangeV at h
  split at h
  · split at h
    · rename_i ht
      refine ⟨_, _, ?_, h⟩
      simp only [Instr.range, Sem.run_bind, run_underlying ht, Result.andThen_ok, Sem.run_pure]
      rfl
    · exact h.elim
  · exact h.elim
theorem nextV_out {P : Program} {a : Addr} {w : World} {K : KW} {ty : TypeId} (h : nextV a w K) : ∃ u w', (Instr.next (.pointer (some a)) true ty).run P w = .ok u w' ∧ K u w' := by
  obtain ⟨h0, b, pos, hk, h⟩ := h
  obtain ⟨g, off, x⟩ := a
  dsimp only at h0 hk h
  subst h0
  have any : pos < b.length → (Instr.next (.pointer (some ⟨g, 0, x⟩)) true ty).run P w = .ok (.tuple #[.bool true, .int .i64 (pos : Int), .int .i32 ((Utf8.decode ⟨⟨b⟩⟩ pos).1 : Int)]) (w.iterAt g ⟨⟨b⟩⟩ (pos + (Utf8.decode ⟨⟨b⟩⟩ pos).2)) := by
    intro hlt
    have hlt' : pos < (⟨⟨b⟩⟩ : ByteArray).size := hlt
    simp only [Instr.next, getObj, setObj, Sem.run_bind, Sem.run, hk, Result.andThen, hlt', if_true]
    simp [goInt, World.iterAt]
  have over : ¬ pos < b.length → (Instr.next (.pointer (some ⟨g, 0, x⟩)) true ty).run P w = .ok (.tuple #[.bool false]) w := by
    intro hlt
    have hlt' : ¬ pos < (⟨⟨b⟩⟩ : ByteArray).size := hlt
    simp [Instr.next, getObj, Sem.run, hk, hlt']
  by_cases hlt : pos < b.length
  · rw [decide_eq_true hlt] at h
    exact ⟨_, _, any hlt, h⟩
  · rw [decide_eq_false hlt] at h
    exact ⟨_, _, over hlt, h⟩

/-- An address in a row of cells. -/
def InRow (w : World) (a : Addr) : Prop := ∃ e cells, w.shape? a.block = some (e, cells) ∧ a.off < cells
/-- An address at which a variable of type u lies. -/
def LiesU (P : Program) (u : TypeId) (w : World) (a : Addr) : Prop := ∃ e cells, w.shape? a.block = some (e, cells) ∧ liesAt P P.depth e (cells / P.cellsOf e) a.off u 1 = true
def convPtrV (P : Program) (sr d : TypeId) (p : Option Addr) (w : World) (K : KW) : Prop := match P.underlying sr, P.underlying d with
  | some (.pointer t), some .unsafePointer => bsel (hasInfo P t && !Nat.beq (szOf P t) 0) (someK p fun a => InRow w a ∧ K (.pointer (some a)) w) False
  | some .unsafePointer, some (.pointer u) => bsel (hasInfo P u) (someK p fun a => LiesU P u w a ∧ K (.pointer (some a)) w) False
  | _, _ => False
theorem info_of {P : Program} {t : TypeId} (h : hasInfo P t = true) : ∃ j, P.info? t = some j ∧ szOf P t = j.size := by
  unfold hasInfo at h
  unfold szOf
  cases hj : P.info? t with
  | none => rw [hj] at h; cases h
  | some j => exact ⟨j, rfl, rfl⟩
theorem convPtrV_out {P : Program} {sr d : TypeId} {p : Option Addr} {w : World} {K : KW} (h : convPtrV P sr d p w K) : ∃ v, K v w ∧ (convert sr d (.pointer p)).run P w = .ok v w := by
  unfold convPtrV at h
  split at h
  · rename_i t hs hd
    obtain ⟨hb, h⟩ := bsel_true_out h
    rw [Bool.and_eq_true] at hb
    obtain ⟨j, hj, hsz⟩ := info_of hb.1
    obtain ⟨a, rfl, ⟨e, cells, hsh, ho⟩, hk⟩ := someK_out h
    refine ⟨_, hk, Lib.run_to_unsafe w a hs hd hj ?_ hsh ho⟩
    intro h0
    rw [hsz, h0] at hb
    cases hb.2
  · rename_i u hs hd
    obtain ⟨hb, h⟩ := bsel_true_out h
    obtain ⟨j, hj, hsz⟩ := info_of hb
    obtain ⟨a, rfl, ⟨e, cells, hsh, ho⟩, hk⟩ := someK_out h
    exact ⟨_, hk, Lib.run_from_unsafe w a hs hd hj hsh ho⟩
  · exact h.elim
/-- A text read behind a pointer to bytes, that are frozen then. -/
def ustrK (e : TypeId) (p : Option Addr) (n : Int) (w : World) (K : List UInt8 → World → Prop) : Prop :=
  ∃ s : List UInt8, n = s.length ∧ s.length ≤ 9223372036854775807 ∧ ((s = [] ∧ K s w) ∨ (s ≠ [] ∧ ∃ g cells, p = some ⟨g, 0, none⟩ ∧ w.shape? g = some (e, cells) ∧ s.length ≤ cells ∧
    (∀ j x, s[j]? = some x → w.cell? ((⟨g, 0, none⟩ : Addr).add j) = some (.int .u8 x.toNat)) ∧ K s (w.freeze ⟨g, 0, none⟩ s.length)))
def unsafeStrV (P : Program) (pt : TypeId) (x n : Value) (w : World) (K : KW) : Prop := match x, n with
  | .pointer p, .int .i64 n => match P.underlying pt with
    | some (.pointer e) => bsel (Nat.beq (P.cellsOf e) 1) (ustrK e p n w fun s w' => K (.string (S s)) w') False
    | _ => False
  | _, _ => False
theorem unsafeStrV_out {P : Program} {pt it ty : TypeId} {x n : Value} {w : World} {K : KW} (h : unsafeStrV P pt x n w K) : ∃ v w', (Builtin.unsafeString_ #[pt, it] ty #[x, n]).run P w = .ok v w' ∧ K v w' := by
  unfold unsafeStrV at h
  split at h
  · rename_i p n
    split at h
    · rename_i e hu
      obtain ⟨hc, s, rfl, h63, ⟨rfl, hk⟩ | ⟨h0, g, cells, rfl, hsh, hn, hcell, hk⟩⟩ := bsel_true_out h
      · exact ⟨_, w, Lib.run_unsafeString_none w pt it ty p, hk⟩
      · exact ⟨_, _, Lib.run_unsafeString_row w pt it ty e hu (Nat.eq_of_beq_eq_true hc) g cells hsh s h0 hn h63 hcell, hk⟩
    · exact h.elim
  · exact h.elim
/-- A function without a body that gives back what it is given. -/
def ExtSame (P : Program) (g : FuncId) : Prop := ∃ fn, P.funcs[g]? = some fn ∧ (fn.name == "runtime.NumGoroutine") = false ∧ fn.body.isNone = true ∧ Extern.findNext fn = none ∧ Extern.find fn = some Extern.AbiNoEscape.same
def extK (P : Program) (g : FuncId) (args : List Value) (K : Value → Prop) : Prop := ExtSame P g ∧ match args with
  | [v] => K v
  | _ => False
theorem ext_run {P : Program} {l : Fr} {ds : List Deferred} {o : Oper} {f : Operand} {xs : List Operand} {ts : Array TypeId} (ho : o.op = .call ⟨.value f, ⟨xs⟩, ts⟩) {g : FuncId} {first cap : List Value}
    (hf : (act l ds).eval f = .func (.func g) ⟨first⟩ ⟨cap⟩) {K : Value → Prop} (h : extK P g (first ++ (xs.map (act l ds).eval ++ cap)) K) (w : World) :
    ∃ v, (execOp (act l ds).eval o).run P w = .ok (.value v) w ∧ K v := by
  obtain ⟨⟨fn, h1, h2, h3, h4, h5⟩, hk⟩ := h
  split at hk
  · rename_i v hv
    refine ⟨v, ?_, hk⟩
    simp only [execOp, ho, resolve, hf, Deferred.ofValue, invoke, Sem.run_bind, Sem.run_pure, Result.andThen_ok]
    have e : ({ toList := first } : Array Value) ++ Array.map (act l ds).eval { toList := xs } ++ ({ toList := cap } : Array Value) = #[v] := by
      apply Array.ext'
      simpa using hv
    rw [e, run_callFunc_extern h1 h2 h3 h4 h5]
    rfl
  · exact hk.elim

/-- An operation: what is asked of what follows (K) and of a panic (E). -/
def opv (P : Program) (l : Fr) (o : Oper) (w : World) (K : KW) (E : List PanicEntry → World → Prop) : Prop := match o.op with
  | .alloc e => bsel (hasZero P e) (K (.pointer (some ⟨w.heap.size, 0, none⟩)) (w.alloc (.cells ⟨zeroOf P e⟩ e))) False
  | .box e x => opK l x fun v => K (.pointer (some ⟨w.heap.size, 0, none⟩)) (w.alloc (.cells ⟨cellsOf v⟩ e))
  | .store t a x => opK l a fun a => opK l x fun v => ptrK a fun a => storeV P t a (cellsOf v) w fun w' => K undef w'
  | .makeSlice t n c => opK l n fun n => opK l c fun c => makeV P t n c w K
  | .buildSlice t len ⟨parts⟩ => partsK l parts fun ps => buildSliceV P t len ps w K
  | .panic x => opK l x fun v => match v with
    | .iface t u => E [{ v := .iface t u, recovered := false }] w
    | _ => False
  | .call ⟨.builtin .append, ⟨xs⟩, ⟨ts⟩⟩ => match ts, xs with
    | [t, u], [s, x] => opK l s fun s => opK l x fun x => appendV P t u s x w K
    | _, _ => False
  | .call ⟨.builtin .copy, ⟨xs⟩, ⟨ts⟩⟩ => match ts, xs with
    | [t, _], [d, s] => opK l d fun d => opK l s fun s => copyV P t d s w K
    | _, _ => False
  | .call ⟨.builtin .unsafeString, ⟨xs⟩, ⟨ts⟩⟩ => match ts, xs with
    | [pt, _], [x, n] => opK l x fun x => opK l n fun n => unsafeStrV P pt x n w K
    | _, _ => False
  | .call ⟨.value f0, ⟨xs⟩, _⟩ => opK l f0 fun f => calleeK f fun g first cap => opsK l xs fun vs => bsel (callable P g)
      (Calls P g ⟨first ++ (vs ++ cap)⟩ w fun e w' => (exRet P o.type fun v => e = .returned v ∧ K v w') ∨ ∃ c, e = .panicked c ∧ E c w') (match f0 with
        | .func _ => extK P g (first ++ (vs ++ cap)) fun v => K v w
        | _ => False)
  | .convert sr d x => opK l x fun v => match v with
    | .string ⟨⟨b⟩⟩ => match P.underlying d with
      | some (.slice _) => bytesOfV P d sr b w K
      | _ => convQ P sr d (.string ⟨⟨b⟩⟩) (fun a v => w.cell? a = some v) fun v => K v w
    | .pointer p => convPtrV P sr d p w K
    | v => convQ P sr d v (fun a v => w.cell? a = some v) fun v => K v w
  | .range t x => opK l x fun v => rangeV P t v w K
  | .next it true => opK l it fun v => ptrK v fun a => nextV a w K
  | _ => opq P l o (fun a v => w.cell? a = some v) fun v => K v w
theorem execV' {s : Sem Value} {P : Program} {v : Value} {w w' : World} (h : s.run P w = .ok v w') : (do pure (Next.value (← s)) : Sem Next).run P w = .ok (.value v) w' := by
  simp only [Sem.run_bind, h, Result.andThen_ok, Sem.run_pure]
theorem LetsOut_of {Q : Exit → Act → World → Prop} (h : ∃ a w, Q .outgrown a w) : LetsOut Q := h
theorem opv_sound {P : Program} {l : Fr} {ds : List Deferred} {o : Oper} {w : World} {K : KW} {E : List PanicEntry → World → Prop} {next : Act → World → Prop} {Q : Exit → Act → World → Prop}
    (h : opv P l o w K E) (hK : ∀ v w', K v w' → next ((act l ds).put o.dst v) w') (hE : ∀ c w', E c w' → Q (.panic c) (act l ds) w') : o.wp P (act l ds) w next Q := by
  have value : ∀ v w', (execOp (act l ds).eval o).run P w = .ok (.value v) w' → K v w' → o.wp P (act l ds) w next Q := by
    intro v w' hr hk
    unfold Oper.wp
    rw [hr]
    exact hK v w' hk
  unfold opv at h
  split at h
  · rename_i e ho
    obtain ⟨hz, h⟩ := bsel_true_out h
    obtain ⟨z, hz1, hr⟩ := run_zero hz
    refine value _ _ ?_ h
    simp only [execOp, ho]
    refine execV' ?_
    simp only [Instr.alloc, Sem.run_bind, hr, Result.andThen_ok, newVar, newRow, cellsOf_eq, hz1, Sem.run_pure]
    rfl
  · rename_i e x ho
    have h := opK_out (ds := ds) h
    refine value _ _ ?_ h
    simp only [execOp, ho]
    refine execV' ?_
    simp only [Instr.box, Sem.run_bind, newVar, newRow, cellsOf_eq, Sem.run_pure]
    rfl
  · rename_i t a x ho
    have h := opK_out (ds := ds) (opK_out (ds := ds) h)
    obtain ⟨a', ha, h⟩ := ptrK_out h
    obtain ⟨w', hr, hk⟩ := storeV_out h
    unfold Oper.wp
    simp only [execOp, ho, Instr.storeAt, ha, Instr.sureAddr, Sem.run_bind, Sem.run_pure, Result.andThen_ok, hr]
    exact hK _ _ hk
  · rename_i t n c ho
    obtain ⟨v, w', hr, hk⟩ := makeV_out (opK_out (ds := ds) (opK_out (ds := ds) h))
    refine value v w' ?_ hk
    simp only [execOp, ho]
    simp only [Sem.run_bind, hr, Result.andThen_ok, Sem.run_pure]
  · rename_i t len parts ho
    obtain ⟨v, w', hr, hk⟩ := buildSliceV_out (partsK_out (ds := ds) h)
    refine value v w' ?_ hk
    simp only [execOp, ho, List.map_toArray]
    simp only [Sem.run_bind]
    have hr' : (Instr.buildSlice t len (List.map (fun x : Nat × Operand => (x.1, (act l ds).eval x.2)) parts).toArray).run P w = .ok v w' := hr
    rw [hr']
    rfl
  · rename_i x ho
    have h := opK_out (ds := ds) h
    split at h
    · rename_i y t u hx
      unfold Oper.wp
      simp only [execOp, ho, hx, Instr.panic, goPanic, Sem.run_bind, Sem.run_halt, Result.andThen_halt]
      exact hE _ _ h
    · exact h.elim
  · rename_i xs ts ho
    split at h
    · rename_i t u s x
      obtain ⟨v, w', hr, hk⟩ := appendV_out (ty := o.type) (opK_out (ds := ds) (opK_out (ds := ds) h))
      refine value v w' ?_ hk
      simp only [execOp, ho, resolve, invoke, builtin, Sem.run_bind, Sem.run_pure, Result.andThen_ok, List.map_toArray, List.map_cons, List.map_nil, hr]
    · exact h.elim
  · rename_i xs ts ho
    split at h
    · rename_i t t' d s
      obtain ⟨v, w', hr, hk⟩ := copyV_out (t2 := t') (ty := o.type) (opK_out (ds := ds) (opK_out (ds := ds) h))
      refine value v w' ?_ hk
      simp only [execOp, ho, resolve, invoke, builtin, Sem.run_bind, Sem.run_pure, Result.andThen_ok, List.map_toArray, List.map_cons, List.map_nil, hr]
    · exact h.elim
  · rename_i xs ts ho
    split at h
    · rename_i pt it x n
      obtain ⟨v, w', hr, hk⟩ := unsafeStrV_out (it := it) (ty := o.type) (opK_out (ds := ds) (opK_out (ds := ds) h))
      refine value v w' ?_ hk
      simp only [execOp, ho, resolve, invoke, builtin, Sem.run_bind, Sem.run_pure, Result.andThen_ok, List.map_toArray, List.map_cons, List.map_nil, hr]
    · exact h.elim
  · rename_i f xs ts ho
    obtain ⟨g, first, cap, hf, h⟩ := calleeK_out (opK_out (ds := ds) h)
    have h := opsK_out (ds := ds) h
    rw [bsel_iff] at h
    cases hc : callable P g with
    | true =>
      have h := h.1 hc
      unfold Oper.wp
      rw [call_run ho hf hc]
      refine Calls.mono h ?_
      rintro e w' (h | ⟨c, rfl, h⟩)
      · obtain ⟨v, rfl, hk⟩ := exRet_out h
        exact hK v w' hk
      · exact hE c w' h
    | false =>
      have h := h.2 hc
      split at h
      · obtain ⟨v, hr, hk⟩ := ext_run ho hf h w
        exact value v w hr hk
      · exact h.elim
  · rename_i sr d x ho
    have h := opK_out (ds := ds) h
    have quiet : convQ P sr d ((act l ds).eval x) (fun a v => w.cell? a = some v) (fun v => K v w) → o.wp P (act l ds) w next Q := by
      intro h
      obtain ⟨v, hk, hr⟩ := convQ_out (P := P) h
      exact value v w (by simp only [execOp, ho]; exact execV' (hr w fun a u h => h)) hk
    split at h
    · rename_i b hx
      split at h
      · obtain ⟨v, w', hr, hk⟩ := bytesOfV_out h
        refine value v w' ?_ hk
        simp only [execOp, ho, hx]
        exact execV' hr
      · exact quiet (by rw [hx]; exact h)
    · rename_i p hx
      obtain ⟨v, hk, hr⟩ := convPtrV_out h
      refine value v w ?_ hk
      simp only [execOp, ho, hx]
      exact execV' hr
    · exact quiet h
  · rename_i t x ho
    obtain ⟨v, w', hr, hk⟩ := rangeV_out (opK_out (ds := ds) h)
    refine value v w' ?_ hk
    simp only [execOp, ho]
    exact execV' hr
  · rename_i it ho
    have h := opK_out (ds := ds) h
    obtain ⟨a, ha, h⟩ := ptrK_out h
    obtain ⟨v, w', hr, hk⟩ := nextV_out (ty := o.type) h
    refine value v w' ?_ hk
    simp only [execOp, ho, ha]
    exact execV' hr
  · obtain ⟨v, hk, hr⟩ := opq_out (ds := ds) h
    exact value v w (hr w fun a u h => h) hk
end Go.Proofs.YtgincpkggnndeaaGreatDoor.Vc
