/- Texts of one proof, one behind the other. Conditions: as each theorem names them. -/
import Derived.Test.YtcoeiiihmpnagaaGreatDoorK4
import Derived.Shelf.Lay
import Derived.Shelf.Strings.Trim
import Derived.Shelf.Small.Utf8
import Derived.Shelf.Small.Strs
import Derived.Shelf.Small.Wraps
import Derived.Shelf.Strings.Search1
import Derived.Shelf.Strings.Prefix
import Derived.Shelf.Unicode.Decode
import Derived.Shelf.Strings.Runes
import Derived.Shelf.Strings.AsciiSet
import Derived.Shelf.Unicode.DecodeSlow
import Derived.Shelf.Unicode.DecodeAny
import Derived.Shelf.Slices.Turned
import Derived.Test.YtcoeiiihmpnagaaGreatDoorProg
import Derived.Laws.RangeString
import Derived.Shelf.Strings.SlTrimAscii
import Derived.Tactics
import Derived.Tactics2
import Derived.Defers
import Derived.Recover
import Derived.Laws.Pointers
namespace Go.Proofs.YtcoeiiihmpnagaaGreatDoor
open Go.RowKit Vc
abbrev Still (w w' : World) : Prop := Mod (fun _ => False) w w'
theorem Still.trans {a b c : World} (h : Still a b) (k : Still b c) : Still a c := Mod.trans h k (fun _ h => h) (fun _ _ h => h)
theorem Still.refl (w : World) : Still w w := Mod.refl _ _
theorem Still.toDrew {a b : World} (h : Still a b) : Still a b.drew := Mod.drew h
theorem Still.ofDrew {a b : World} (h : Still a.drew b) : Still a b := ⟨h.os, h.tape, h.output, h.size, h.block⟩
theorem Still.cell {w w' : World} {a : Addr} {v : Value} (hm : Still w w') (h : w.cell? a = some v) : w'.cell? a = some v :=
  (World.cell?_of_block (hm.block _ (World.block_lt_of_cell? _ _ h) (fun h => h))).trans h
theorem Still.box {w w1 w2 : World} {g : Nat} (h : Still w w1) (hg : w.heap.size ≤ g) (hm : Mod (fun i => i = g) w1 w2) : Still w w2 := Mod.trans h hm (fun _ h => h) (fun i hi e => by omega)
theorem Still.trans' {a b c : World} (h : Still a b) {B : Nat} (k : Below B b c) (hB : a.heap.size ≤ B) : Still a c :=
  ⟨k.os.trans h.os, k.tape.trans h.tape, k.output.trans h.output, Nat.le_trans h.size k.size, fun i hi hn => (k.block i (by omega)).trans (h.block i hi hn)⟩
theorem Row.still {w w' : World} {g : Nat} {t : TypeId} {cs : Array Value} (h : Row w g t cs) (hm : Still w w') : Row w' g t cs := h.mod hm (fun h => h)
theorem Owns.still {w w' : World} {B : Nat} {e : TypeId} {size : Nat} {v : Value} {n : Nat} {xs : List Value} (h : Owns w B e size v n xs) (hm : Still w w') : Owns w' B e size v n xs := h.mod hm (fun _ _ h => h)
theorem Row.lget {w : World} {g : Nat} {t : TypeId} {l : List Value} (h : Row w g t ⟨l⟩) {i : Nat} {v : Value} (hv : l[i]? = some v) : w.cell? ⟨g, i, none⟩ = some v := h.cellv (by simpa using hv)
theorem adds (a : Addr) (i j : Nat) : (a.add i).add j = a.add (i + j) := by
  unfold Addr.add
  by_cases hi : i = 0 <;> by_cases hj : j = 0 <;> simp [hi, hj, Nat.add_assoc]
theorem letIn {w : World} {C : World → Prop} (h : C w) : letW w C := h
theorem allocK {w : World} {cs : List Value} {t : TypeId} {C : World → Prop} (h : ∀ w1, Row w1 w.heap.size t ⟨cs⟩ → Still w w1 → w1.heap.size = w.heap.size + 1 → C w1) : letW (w.alloc (.cells ⟨cs⟩ t)) C :=
  h _ (Row.new w t ⟨cs⟩) ((Mod.refl _ _).alloc _) (World.size_alloc ..)
def ovw (cs : List Value) : Nat → List Value → List Value
  | _, [] => cs
  | o, v :: vs => ovw (cs.set o v) (o + 1) vs
theorem stCells_row {g : Nat} {t : TypeId} : ∀ {vs : List Value} {w : World} {cs : List Value} {i o : Nat} {K : World → Prop}, Row w g t ⟨cs⟩ → o + i + vs.length ≤ cs.length → (∀ v ∈ vs, v.oneCell' = true) →
    (∀ w', Row w' g t ⟨ovw cs (o + i) vs⟩ → Mod (fun k => k = g) w w' → w'.heap.size = w.heap.size → K w') → stCells (Addr.mk g o none) K i vs w
  | [], w, cs, i, o, K, hr, _, _, h => h w hr (Mod.refl _ _) rfl
  | v :: vs, w, cs, i, o, K, hr, hl, h1, h => by
    simp only [List.length_cons] at hl
    refine bsel_of (fun _ => ?_) (fun hv => by rw [h1 v (by simp)] at hv; cases hv)
    rw [add_row]
    have hr2 := hr.setl (o + i) v
    refine ⟨hr.wr (o + i) (by simp; omega), stCells_row hr2 (by simp; omega) (fun u hu => h1 u (by simp [hu])) fun w' h3 h4 h5 => h w' h3 ?_ (h5.trans (by simp [World.setCell]))⟩
    exact Mod.trans ((Mod.refl (fun k => k = g) w).setCell (p := Addr.mk g (o + i) none) (.inl rfl) v) h4 (fun _ h => h) (fun _ _ h => h)
theorem stK {g : Nat} {t : TypeId} {vs : List Value} {w : World} {cs : List Value} {o : Nat} {K : World → Prop} (hr : Row w g t ⟨cs⟩) (hl : o + vs.length ≤ cs.length) (h1 : ∀ v ∈ vs, v.oneCell' = true)
    (h : ∀ w', Row w' g t ⟨ovw cs o vs⟩ → Mod (fun k => k = g) w w' → w'.heap.size = w.heap.size → K w') : stCells (Addr.mk g o none) K 0 vs w :=
  stCells_row hr (by simpa using hl) h1 fun w' h2 h3 h4 => h w' (by simpa using h2) h3 h4
theorem boxK {w : World} {cs : List Value} {t : TypeId} {vs : List Value} {K : World → Prop} (hl : vs.length = cs.length) (h1 : ∀ v ∈ vs, v.oneCell' = true)
    (h : ∀ w', Row w' w.heap.size t ⟨vs⟩ → Still w w' → w'.heap.size = w.heap.size + 1 → K w') : letW (w.alloc (.cells ⟨cs⟩ t)) (fun w1 => stCells (Addr.mk w.heap.size 0 none) K 0 vs w1) := by
  refine allocK fun w1 hr hs hz => stK hr (by omega) h1 fun w' h2 h3 h4 => h w' ?_ (hs.box (Nat.le_refl _) h3) (by omega)
  have e : ∀ (vs cs : List Value) (pre : List Value), vs.length = cs.length → ovw (pre ++ cs) pre.length vs = pre ++ vs := by
    intro vs
    induction vs with
    | nil => intro cs pre h; cases cs with
      | nil => rfl
      | cons c cs => cases h
    | cons v vs ih => intro cs pre h; cases cs with
      | nil => cases h
      | cons c cs =>
        have := ih cs (pre ++ [v]) (by simpa using h)
        simp only [ovw, List.set_append_right _ _ (Nat.le_refl pre.length), Nat.sub_self, List.set_cons_zero]
        simpa using this
  have := e vs cs [] hl
  simp only [List.nil_append, List.length_nil] at this
  rwa [this] at h2
theorem Owns.ownLt {w : World} {B : Nat} {e : TypeId} {size : Nat} {v : Value} {n : Nat} {xs : List Value} (h : Owns w B e size v n xs) {k : Nat} (hk : v.ownBlock = some k) : B ≤ k := (h.lt k hk).1
theorem Still.own {w0 w w' : World} {B : Nat} {e : TypeId} {size : Nat} {v : Value} {n : Nat} {xs : List Value} (h : Still w0 w) (ho : Owns w B e size v n xs) (hB : w0.heap.size ≤ B) (hm : Mod (fun k => v.ownBlock = some k) w w') : Still w0 w' :=
  Mod.trans h hm (fun _ h => h) (fun i hi e => by have := ho.ownLt e; omega)
theorem Row.own {w w' : World} {B g : Nat} {e t : TypeId} {cs : Array Value} {size : Nat} {v : Value} {n : Nat} {xs : List Value} (h : Row w g t cs) (ho : Owns w B e size v n xs) (hg : g < B ∨ t ≠ e) (hm : Mod (fun k => v.ownBlock = some k) w w') : Row w' g t cs :=
  h.mod hm fun hk => by
    rcases hg with hg | hg
    · have := ho.ownLt hk; omega
    · obtain ⟨cur, hc⟩ := ho.typed hk
      exact h.ne hc hg rfl
theorem appK_push {w : World} {B : Nat} {e : TypeId} {sz bytes : Nat} {p q : Option Addr} {n c m : Nat} {xs : List Value} {K : Option Addr → Nat → World → Prop} (ho : Owns w B e sz (.slice p n c) n xs) (hB : B ≤ w.heap.size) (news : List Value)
    (hn : news.length = m * sz) (h1 : ∀ u ∈ news, u.oneCell' = true) (hq : 0 < m → ∃ a, q = some a ∧ ∀ j u, news[j]? = some u → w.cell? (a.add j) = some u) (hs : n + m ≤ 9223372036854775807) (hb : (n + m) * bytes ≤ 140737488355328)
    (h : ∀ p' c' w', Owns w' B e sz (.slice p' (n + m) c') (n + m) (xs ++ news) → Mod (fun k => (Value.slice p n c).ownBlock = some k) w w' → Blk p p' (n + m) c c' w.heap.size → K p' c' w') : appK w e sz bytes p n c q m K := by
  refine ⟨xs, news, ho.base0, hn, h1, hq, hs, hb, fun p' c' w' ho' hg hk => h p' c' w' (ho'.base fun k hk' => ?_) ((Mod.refl _ _).grown hg fun g hg => .inl hg) hk⟩
  rcases hk.own (n := n) with hk | hk
  · exact (ho.lt k (hk.symm.trans hk')).1
  · rw [hk'] at hk
    obtain rfl := Option.some.inj hk
    exact hB
theorem Owns.apart {w : World} {B B' : Nat} {e e' : TypeId} {size size' : Nat} {v v' : Value} {n n' : Nat} {xs xs' : List Value} (h : Owns w B e size v n xs) (h' : Owns w B' e' size' v' n' xs') (hne : e ≠ e') {k : Nat} (hk : v.ownBlock = some k) : v'.ownBlock ≠ some k := by
  intro hk'
  obtain ⟨cur, hr⟩ := h.typed hk
  obtain ⟨cur', hr'⟩ := h'.typed hk'
  exact hr.ne hr' hne rfl
def At (w : World) (p : Option Addr) (n : Nat) (cs : List Value) : Prop := 0 < n → ∃ a, p = some a ∧ ∀ (j : Nat) (u : Value), cs[j]? = some u → w.cell? (a.add j) = some u
theorem At.still {w w' : World} {p : Option Addr} {n : Nat} {cs : List Value} (h : At w p n cs) (hm : Still w w') : At w' p n cs := fun hn => by
  obtain ⟨a, h1, h2⟩ := h hn
  exact ⟨a, h1, fun j u hu => hm.cell (h2 j u hu)⟩
def Ahead (B : Nat) (p : Option Addr) : Prop := ∀ a, p = some a → a.block < B
theorem At.from {w w' : World} {p : Option Addr} {n B : Nat} {cs : List Value} (h : At w p n cs) (hp : Ahead B p) {S : Nat → Prop} (hm : Mod S w w') (hS : ∀ k, S k → B ≤ k) : At w' p n cs := fun hn => by
  obtain ⟨a, rfl, h2⟩ := h hn
  refine ⟨a, rfl, fun j u hu => ?_⟩
  have hc := h2 j u hu
  have hb : (a.add j).block = a.block := by unfold Addr.add; split <;> rfl
  refine (World.cell?_of_block (hm.block _ (World.block_lt_of_cell? _ _ hc) (fun e => ?_))).trans hc
  have := hS _ e
  have := hp a rfl
  omega
theorem At.own {w : World} {B : Nat} {e : TypeId} {size : Nat} {p : Option Addr} {n C : Nat} {cs : List Value} (h : Owns w B e size (.slice p n C) n cs) : At w p n cs := fun hn => by
  obtain ⟨g, cap, he, _, _, _, hc⟩ := h.ownAddr hn
  injection he with e1 e2 e3
  subst e1
  refine ⟨_, rfl, fun j u hu => ?_⟩
  rw [add_row, Nat.zero_add]
  exact hc j u hu
theorem At.row {w : World} {g n : Nat} {t : TypeId} {cs : List Value} (h : Row w g t ⟨cs⟩) : At w (some ⟨g, 0, none⟩) n cs := fun _ => ⟨_, rfl, fun j u hu => by
  rw [add_row, Nat.zero_add]
  exact h.lget hu⟩
end Go.Proofs.YtcoeiiihmpnagaaGreatDoor
namespace Go.Proofs.YtcoeiiihmpnagaaGreatDoor
open Go.RowKit Vc
variable {w : World}
theorem getD_some {α : Type} {p : List α} {i : Nat} (h : i < p.length) : p[i]? = some p[i] := List.getElem?_eq_getElem h
theorem byte_eq {a b : UInt8} : (a.toNat : Int) = (b.toNat : Int) ↔ a = b := ⟨fun h => UInt8.toNat_inj.1 (by omega), fun h => by rw [h]⟩
theorem tmod_nat (k m : Nat) : Int.tmod (k : Int) (m : Int) = ((k % m : Nat) : Int) := (Int.ofNat_tmod k m).symm
def strs (l : List Txt) : List Value := l.map fun x => .string (S x)
theorem strs_length (l : List Txt) : (strs l).length = l.length := by simp [strs]
def StrsAt (w : World) (p : Option Addr) (n : Nat) (l : List Txt) : Prop := l.length = n ∧ At w p n (strs l)
theorem StrsAt.still {p : Option Addr} {n : Nat} {l : List Txt} {w' : World} (h : StrsAt w p n l) (hm : Still w w') : StrsAt w' p n l := ⟨h.1, h.2.still hm⟩
theorem StrsAt.of {B : Nat} {p : Option Addr} {n C : Nat} {l : List Txt} (h : Owns w B 9 1 (.slice p n C) n (strs l)) : StrsAt w p n l := ⟨by have := h.length; rw [strs_length] at this; omega, At.own h⟩
theorem StrsAt.row {g : Nat} {t : TypeId} {l : List Txt} (h : Row w g t ⟨strs l⟩) : StrsAt w (some ⟨g, 0, none⟩) l.length l := ⟨rfl, At.row h⟩
theorem StrsAt.nil (w : World) : StrsAt w none 0 [] := ⟨rfl, fun h => absurd h (Nat.lt_irrefl _)⟩
theorem StrsAt.get {p : Option Addr} {n : Nat} {l : List Txt} (h : StrsAt w p n l) {k : Nat} (hk : k < n) : ∃ a, p = some a ∧ w.cell? (a.add k) = some (.string (S (l[k]'(by have := h.1; omega)))) := by
  obtain ⟨a, h1, h2⟩ := h.2 (by omega)
  refine ⟨a, h1, h2 k _ ?_⟩
  have := h.1
  simp [strs, show k < l.length by omega]
def u8s (vs : List Nat) : List Value := vs.map fun v : Nat => .int .u8 (v : Int)
def U8At (w : World) (p : Option Addr) (n : Nat) (vs : List Nat) : Prop := vs.length = n ∧ (∀ v ∈ vs, v < 256) ∧ At w p n (u8s vs)
theorem U8At.still {p : Option Addr} {n : Nat} {vs : List Nat} {w' : World} (h : U8At w p n vs) (hm : Still w w') : U8At w' p n vs := ⟨h.1, h.2.1, h.2.2.still hm⟩
theorem U8At.get {p : Option Addr} {n : Nat} {vs : List Nat} (h : U8At w p n vs) {k : Nat} (hk : k < n) : ∃ a v, p = some a ∧ vs[k]? = some v ∧ v < 256 ∧ w.cell? (a.add k) = some (.int .u8 (v : Int)) := by
  obtain ⟨h1, h2, h3⟩ := h
  obtain ⟨a, h4, h5⟩ := h3 (by omega)
  refine ⟨a, vs[k]'(by omega), h4, getD_some _, h2 _ (List.getElem_mem _), h5 k _ ?_⟩
  simp [u8s, show k < vs.length by omega]
def piecesR (sg : List Txt) (vs : List Nat) : Txt := (vs.take 14).flatMap fun v => sg.getD (v % sg.length) []
theorem pieces_spec {l q : Option Addr} {lL lC qC : Nat} {vs : List Nat} {sg : List Txt} (hl : U8At w l lL vs) (hr : StrsAt w q sg.length sg) (h0 : 0 < sg.length) (h1 : sg.length < 1000) (h8 : ∀ x ∈ sg, x.length ≤ 1000) :
    Calls Tryz.prog fn_law07_Pieces #[.slice l lL lC, .slice q sg.length qC] w (fun e w' => e = .returned (.string (S (piecesR sg vs))) ∧ w' = w) := by
  refine law07_Pieces_calls _ _ _ _ _ _ _ _ ?_
  have hlen := hl.1
  refine ⟨fun s i w1 => ∃ n : Nat, i = (n : Int) ∧ n ≤ 14 ∧ n ≤ lL ∧ s.length ≤ n * 1000 ∧ s = piecesR sg (vs.take n) ∧ w1 = w, fun _ i _ => 14 - i.toNat, ⟨0, rfl, by omega, Nat.zero_le _, by simp, rfl, rfl⟩, ?_⟩
  rintro s _ _ w1 ⟨n, rfl, hn, hnl, hs, he, rfl⟩
  have e1 : IntKind.i64.wrap ((n : Int) + 1) = ((n + 1 : Nat) : Int) := by rw [wrap_i64 (by omega) (by omega)]; omega
  refine bsel_of (fun hx => bsel_of (fun hy => ?_) (fun hy => ⟨?_, rfl⟩)) (fun hx => ⟨?_, rfl⟩)
  · have hx : n < lL := by have := of_decide_eq_true hx; omega
    have hy : n < 14 := by have := of_decide_eq_true hy; omega
    obtain ⟨a, v, rfl, hg, hv, hc⟩ := hl.get hx
    have ev : IntKind.i64.wrap (v : Int) = (v : Int) := wrap_i64 (by omega) (by omega)
    have hlt : v % sg.length < sg.length := Nat.mod_lt _ h0
    have hl8 := h8 _ (List.getElem_mem hlt)
    obtain ⟨b, rfl, cb⟩ := hr.get hlt
    refine ⟨by omega, by omega, (v : Int), by rw [Int.toNat_natCast, Nat.mul_one]; exact hc, by omega, ?_⟩
    rw [ev, tmod_nat, e1, Int.toNat_natCast]
    refine ⟨by omega, by omega, sg[v % sg.length], ?_, by omega, ⟨n + 1, rfl, hy, hx, by simp; omega, ?_, rfl⟩, by dsimp only; omega⟩
    · rw [Nat.mul_one]
      exact cb
    · rw [he, piecesR, piecesR, List.take_take, List.take_take, Nat.min_eq_right (by omega), Nat.min_eq_right (by omega), List.take_add_one, hg, List.flatMap_append]
      simp [List.getD, hlt]
  · have hy : n = 14 := by have := of_decide_eq_false hy; omega
    rw [he, piecesR, piecesR, List.take_take, hy, Nat.min_self]
  · have hx : n = lL := by have := of_decide_eq_false hx; omega
    rw [he, List.take_of_length_le (by omega)]
end Go.Proofs.YtcoeiiihmpnagaaGreatDoor
namespace Go.Proofs
open Go.Shelf
shelf_lay Lays.n231 Nm 231 at Tryz as Tryz.lays231
open Go.RowKit in
theorem Tryz.strings_trimLeftByte (s : ByteArray) (c : UInt8) (w : World) :
    Calls Tryz.prog 128 #[.string s, .int .u8 c.toNat] w fun e w' => e = .returned (.string ⟨(Lib.trimLeftB s.data.toList c).toArray⟩) ∧ w' = w := Any.strings_trimLeftByte Tryz.lays231 s c w
shelf_lay Lays.n161 Nm 161 at Tryz as Tryz.lays161
open Go.RowKit in
theorem Tryz.strings_TrimLeft_one (s : ByteArray) (c : UInt8) (hc : c.toNat < 128) (w : World) :
    Calls Tryz.prog 127 #[.string s, .string ⟨#[c]⟩] w fun e w' => e = .returned (.string ⟨(Lib.trimLeftB s.data.toList c).toArray⟩) ∧ w' = w := Any.strings_TrimLeft_one Tryz.lays161 s c hc w
shelf_lay Lays.n119 Nm 119 at Tryz as Tryz.lays119
theorem Tryz.utf8_ValidRune (r : Int) (w : World) :
    Calls Tryz.prog 137 #[.int .i32 r] w fun e w' => e = .returned (.bool (Lib.validRune r)) ∧ w' = w := Any.utf8_ValidRune Tryz.lays119 r w
shelf_lay Lays.n137 Nm 137 at Tryz as Tryz.lays137
open Go.RowKit in
theorem Tryz.strings_IndexByte (s : ByteArray) (c : Int) (w : World) :
    Calls Tryz.prog 40 #[.string s, .int .u8 c] w fun e w' => e = .returned (.int .i64 (Lib.indexByte s.data.toList c.toNat.toUInt8)) ∧ w' = w := Any.strings_IndexByte Tryz.lays137 s c w
shelf_lay Lays.n210 Nm 210 at Tryz as Tryz.lays210
open Go.RowKit in
theorem Tryz.stringslite_CutPrefix (s p : ByteArray) (w : World) :
    Calls Tryz.prog 103 #[.string s, .string p] w fun e w' => e = .returned (.tuple #[.string ⟨(Lib.trimPrefix s.data.toList p.data.toList).toArray⟩, .bool (Lib.hasPrefix s.data.toList p.data.toList)]) ∧ w' = w := Any.stringslite_CutPrefix Tryz.lays210 s p w
shelf_lay Lays.n103 Nm 103 at Tryz as Tryz.lays103
open Go.RowKit in
theorem Tryz.strings_CutPrefix (s p : ByteArray) (w : World) :
    Calls Tryz.prog 98 #[.string s, .string p] w fun e w' => e = .returned (.tuple #[.string ⟨(Lib.trimPrefix s.data.toList p.data.toList).toArray⟩, .bool (Lib.hasPrefix s.data.toList p.data.toList)]) ∧ w' = w := Any.strings_CutPrefix Tryz.lays103 s p w
shelf_lay Lays.n217 Nm 217 at Tryz as Tryz.lays217
open Go.RowKit Go.Lib in
theorem Tryz.stringslite_IndexByte (s : ByteArray) (c : Int) (w : World) :
    Calls Tryz.prog 51 #[.string s, .int .u8 c] w fun e w' => e = .returned (.int .i64 (Lib.indexByte s.data.toList c.toNat.toUInt8)) ∧ w' = w := Any.stringslite_IndexByte Tryz.lays217 s c w
shelf_lay Lays.n224 Nm 224 at Tryz as Tryz.lays224
open Go.RowKit Go.Lib in
theorem Tryz.bytealg_Cutover (n : Int) (h0 : 0 ≤ n) (h1 : n < 4611686018427387904) (w : World) :
    Calls Tryz.prog 138 #[.int .i64 n] w fun e w' => e = .returned (.int .i64 ((n + 16) / 8)) ∧ w' = w := Any.bytealg_Cutover Tryz.lays224 n h0 h1 w
shelf_lay Lays.n206 Nm 206 at Tryz as Tryz.lays206
open Go.RowKit Go.Lib in
theorem Tryz.stringslite_HasPrefix (s p : ByteArray) (w : World) :
    Calls Tryz.prog 58 #[.string s, .string p] w fun e w' => e = .returned (.bool (Lib.hasPrefix s.data.toList p.data.toList)) ∧ w' = w := Any.stringslite_HasPrefix Tryz.lays206 s p w
shelf_lay Lays.n99 Nm 99 at Tryz as Tryz.lays99
open Go.RowKit Go.Lib in
theorem Tryz.strings_HasPrefix (s p : ByteArray) (w : World) :
    Calls Tryz.prog 53 #[.string s, .string p] w fun e w' => e = .returned (.bool (Lib.hasPrefix s.data.toList p.data.toList)) ∧ w' = w := Any.strings_HasPrefix Tryz.lays99 s p w
shelf_lay Lays.n197 Nm 197 at Tryz as Tryz.lays197
open Go.RowKit Go.Lib in
theorem Tryz.utf8_DecodeRuneInString_ascii (s : ByteArray) (x : UInt8) (w : World) (h0 : s.data.toList[0]? = some x) (hx : x.toNat < 128) :
    Calls Tryz.prog 133 #[.string s] w fun e w' => e = .returned (.tuple #[.int .i32 x.toNat, .int .i64 1]) ∧ w' = w := Any.utf8_DecodeRuneInString_ascii Tryz.lays197 s x w h0 hx
shelf_lay Lays.n152 Nm 152 at Tryz as Tryz.lays152
open Go.RowKit Go.Lib in
theorem Tryz.strings_IndexRune_ascii (s : ByteArray) (r : Int) (w : World) (h0 : 0 ≤ r) (h1 : r < 128) :
    Calls Tryz.prog 136 #[.string s, .int .i32 r] w fun e w' => e = .returned (.int .i64 (Lib.indexByte s.data.toList r.toNat.toUInt8)) ∧ w' = w := Any.strings_IndexRune_ascii Tryz.lays152 s r w h0 h1
shelf_lay Lays.n151 Nm 151 at Tryz as Tryz.lays151
open Go.RowKit Go.Lib in
theorem Tryz.strings_ContainsRune_ascii (s : ByteArray) (r : Int) (w : World) (h0 : 0 ≤ r) (h1 : r < 128) :
    Calls Tryz.prog 134 #[.string s, .int .i32 r] w fun e w' => e = .returned (.bool (decide (0 ≤ Lib.indexByte s.data.toList r.toNat.toUInt8))) ∧ w' = w := Any.strings_ContainsRune_ascii Tryz.lays151 s r w h0 h1
shelf_lay Lays.n227 Nm 227 at Tryz as Tryz.lays227
open Go.RowKit Go.Lib in
theorem Tryz.strings_makeASCIISet (hv116 : ∀ w, (zeroValue 124).run Tryz.prog w = .ok (.agg (Array.replicate 256 (.bool false))) w) (chars : ByteArray) (w : World) (hs : chars.size < 4294967281) (hascii : ∀ (j : Nat) b, chars.data.toList[j]? = some b → b.toNat < 128) :
    Calls Tryz.prog 129 #[.string chars] w fun e w' => e = .returned (.tuple #[.agg (Lib.setCells chars.data.toList), .bool true]) ∧ w' = w.alloc (.cells (Lib.setCells chars.data.toList) 124) := Any.strings_makeASCIISet Tryz.lays227 hv116 (by kernel_rfl) chars w hs hascii
shelf_lay Lays.n228 Nm 228 at Tryz as Tryz.lays228
open Go.RowKit Go.Lib in
theorem Tryz.asciiSet_contains (b : Nat) (x : UInt8) (v : Bool) (w : World) (hc : w.cell? ⟨b, x.toNat, none⟩ = some (.bool v)) :
    Calls Tryz.prog 132 #[.pointer (some ⟨b, 0, none⟩), .int .u8 x.toNat] w fun e w' => e = .returned (.bool v) ∧ w' = w := Any.asciiSet_contains Tryz.lays228 b x v w hc
shelf_lay Lays.n260 Nm 260 at Tryz as Tryz.lays260
open Go.RowKit Go.Lib in
theorem Tryz.utf8_decodeRuneInStringSlow (s : ByteArray) (w : World) (hT : Lib.Utf8Tabs 1 2 w) :
    Calls Tryz.prog 135 #[.string s] w fun e w' => e = .returned (.tuple #[.int .i32 (Lib.decodeGo s).1, .int .i64 (Lib.decodeGo s).2]) ∧ Below w.heap.size w w' := Any.utf8_decodeRuneInStringSlow Tryz.lays260 s w hT
open Go.RowKit Go.Lib in
theorem Tryz.utf8_DecodeRuneInString (s : ByteArray) (w : World) (hT : Lib.Utf8Tabs 1 2 w) :
    Calls Tryz.prog 133 #[.string s] w fun e w' => e = .returned (.tuple #[.int .i32 (Lib.decodeGo s).1, .int .i64 (Lib.decodeGo s).2]) ∧ Below w.heap.size w w' := Any.utf8_DecodeRuneInString Tryz.lays197 s w hT
shelf_lay Lays.n109 Nm 109 at Tryz as Tryz.lays109
open Go.Lib in
theorem Tryz.slices_Index_string (b off n c : Nat) (zs : List ByteArray) (x : ByteArray) (w : World) (hz : n ≤ zs.length) (hbig : n ≤ 9223372036854775807) (hc : ∀ j, j < zs.length → w.cell? ⟨b, off + j, none⟩ = some (.string (zs.getD j ByteArray.empty))) :
    Calls Tryz.prog 55 #[.slice (some ⟨b, off, none⟩) n c, .string x] w fun e w' => e = .returned (.int .i64 (Lib.idxOfS (zs.take n) x)) ∧ w' = w := Any.slices_Index_string Tryz.lays109 b off n c zs x w hz hbig hc
open Go.Lib in
theorem Tryz.slices_Index_string_empty (a : Option Addr) (c : Nat) (x : ByteArray) (w : World) :
    Calls Tryz.prog 55 #[.slice a 0 c, .string x] w fun e w' => e = .returned (.int .i64 (Lib.idxOfS [] x)) ∧ w' = w := Any.slices_Index_string_empty Tryz.lays109 a c x w
shelf_lay Lays.n110 Nm 110 at Tryz as Tryz.lays110
open Go.Lib in
theorem Tryz.slices_Contains_string (b off n c : Nat) (zs : List ByteArray) (x : ByteArray) (w : World) (hz : n ≤ zs.length) (hbig : n ≤ 9223372036854775807) (hc : ∀ j, j < zs.length → w.cell? ⟨b, off + j, none⟩ = some (.string (zs.getD j ByteArray.empty))) :
    Calls Tryz.prog 46 #[.slice (some ⟨b, off, none⟩) n c, .string x] w fun e w' => e = .returned (.bool (Lib.containsS (zs.take n) x)) ∧ w' = w := Any.slices_Contains_string Tryz.lays110 b off n c zs x w hz hbig hc
open Go.Lib in
theorem Tryz.slices_Contains_string_empty (a : Option Addr) (c : Nat) (x : ByteArray) (w : World) :
    Calls Tryz.prog 46 #[.slice a 0 c, .string x] w fun e w' => e = .returned (.bool false) ∧ w' = w := Any.slices_Contains_string_empty Tryz.lays110 a c x w
end Go.Proofs
namespace Go.Proofs.YtcoeiiihmpnagaaGreatDoor
open Go.RowKit Vc
variable {w : World}
abbrev Scan (w : World) (g : Nat) (s : Txt) : Prop := Row w g 61 ⟨[.string (S s)]⟩
abbrev Only (g : Nat) (w w' : World) : Prop := Mod (fun i => i = g) w w'
theorem Only.trans {g : Nat} {a b c : World} (h : Only g a b) (k : Only g b c) : Only g a c := Mod.trans h k (fun _ h => h) (fun _ _ h => h)
def quoteP : List PanicEntry := [{ v := .iface 32 (.int .i64 80), recovered := false }]
def Took (g : Nat) (w : World) (o : Option Txt) (e : Ending) (w' : World) : Prop :=
  Only g w w' ∧ match o with
    | some t => e = .returned (.tuple #[]) ∧ Scan w' g t
    | none => e = .panicked quoteP ∧ ∃ t, Scan w' g t
theorem want_spec (ok : Bool) : Calls Tryz.prog fn_lexer_want #[.bool ok] w (fun e w' => e = (if ok = true then .returned (.tuple #[]) else .panicked quoteP) ∧ w' = w) := by
  refine lexer_want_calls _ _ _ ?_
  exact bsel_of (fun h => by have : ok = false := by simpa using h
                             subst this; exact ⟨rfl, rfl⟩) (fun h => by have : ok = true := by simpa using h
                                                                        subst this; exact ⟨rfl, rfl⟩)
theorem Scan.cell {g : Nat} {s : Txt} (h : Scan w g s) : w.cell? ⟨g, 0, none⟩ = some (.string (S s)) := h.cellv rfl
theorem Scan.put {g : Nat} {s : Txt} (h : Scan w g s) (t : Txt) : Scan (w.setCell ⟨g, 0, none⟩ (.string (S t))) g t := h.setl 0 _
theorem Only.put {g : Nat} (t : Value) : Only g w (w.setCell ⟨g, 0, none⟩ t) := (Mod.refl (fun i => i = g) w).setCell (p := ⟨g, 0, none⟩) (.inl rfl) _
theorem skip_spec {g : Nat} {s : Txt} (h : Scan w g s) (n : Nat) : Calls Tryz.prog fn_lexer_scanner_skip #[.pointer (some ⟨g, 0, none⟩), .int .i64 (n : Int)] w
    (fun e w' => Took g w (if n ≤ s.length then some (s.drop n) else none) e w') := by
  refine lexer_scanner_skip_calls _ _ _ _ ?_
  refine ⟨_, h.cell, (want_spec _).mono ?_⟩
  rintro _ w1 ⟨rfl, rfl⟩
  by_cases hn : n ≤ s.length
  · rw [if_pos hn, if_pos (decide_eq_true (by omega))]
    refine .inl ⟨rfl, _, h.cell, by omega, by omega, h.wr 0 (by simp), Only.put _, rfl, ?_⟩
    rw [Int.toNat_natCast]
    exact h.put _
  · rw [if_neg hn, if_neg (by simp; omega)]
    exact .inr ⟨_, rfl, Mod.refl _ _, rfl, s, h⟩
theorem Took.next {g : Nat} {o : Option Txt} {e : Ending} {w1 w' : World} (hm : Only g w w1) (h : Took g w1 o e w') : Took g w o e w' := ⟨hm.trans h.1, h.2⟩
theorem Took.on {g : Nat} {o : Option Txt} {f : Txt → Option Txt} {e : Ending} {w1 : World} {R : Ending → World → Prop} (hr : ∀ e w', Took g w (o.bind f) e w' → R e w') (h : Took g w o e w1) {K : World → Prop}
    (hk : ∀ t, o = some t → Only g w w1 → Scan w1 g t → (∀ e w', Took g w1 (f t) e w' → R e w') → K w1) : (e = .returned (.tuple #[]) ∧ K w1) ∨ (∃ ch, e = .panicked ch ∧ R (.panicked ch) w1) := by
  obtain ⟨hm, h⟩ := h
  cases o with
  | none =>
    obtain ⟨rfl, ht⟩ := h
    exact .inr ⟨_, rfl, hr _ _ ⟨hm, rfl, ht⟩⟩
  | some t =>
    obtain ⟨rfl, ht⟩ := h
    exact .inl ⟨rfl, hk t rfl hm ht (fun e w' h => hr _ _ (Took.next hm h))⟩
theorem indexQuote : ∀ s : Txt, (if 0 ≤ Go.Lib.indexByte s 39 then some (s.drop (Go.Lib.indexByte s 39 + 1).toNat) else none) = quoteEnd s ∧ (0 ≤ Go.Lib.indexByte s 39 → Go.Lib.indexByte s 39 < s.length) ∧ -1 ≤ Go.Lib.indexByte s 39
  | [] => ⟨rfl, by decide, by decide⟩
  | a :: r => by
    obtain ⟨h1, h2, h3⟩ := indexQuote r
    simp only [Go.Lib.indexByte, quoteEnd, beq_iff_eq]
    by_cases ha : a = 39
    · rw [if_pos ha, if_pos ha]
      refine ⟨rfl, fun _ => by simp only [List.length_cons]; omega, by decide⟩
    · rw [if_neg ha, if_neg ha, ← h1]
      by_cases hr : Go.Lib.indexByte r 39 = -1
      · rw [if_pos hr, hr]
        exact ⟨rfl, fun h => absurd h (by decide), by decide⟩
      · rw [if_neg hr, if_pos (by omega), if_pos (by omega)]
        refine ⟨?_, fun _ => by simp only [List.length_cons]; have := h2 (by omega); omega, by omega⟩
        congr 1
        rw [show (Go.Lib.indexByte r 39 + 1 + 1).toNat = (Go.Lib.indexByte r 39 + 1).toNat + 1 by omega, List.drop_succ_cons]
def UnitAt (d : Nat) : Prop := ∀ (w : World) (g : Nat) (s : Txt), s ≠ [] → Scan w g s → s.length < 1000000 → Calls Tryz.prog fn_lexer_scanner_unit #[.pointer (some ⟨g, 0, none⟩), .int .i64 (31 - (d : Int))] w (fun e w' => Took g w (unitD d s) e w')
def UntilAt (d : Nat) : Prop := ∀ (w : World) (g : Nat) (s : Txt) (c : UInt8), Scan w g s → s.length < 1000000 → Calls Tryz.prog fn_lexer_scanner_until #[.pointer (some ⟨g, 0, none⟩), .int .u8 (c.toNat : Int), .int .i64 (31 - (d : Int))] w (fun e w' => Took g w (untilD d c s) e w')
set_option maxHeartbeats 1000000 in
theorem unit_of {d : Nat} (hd : d ≤ 31) (ih : d ≠ 0 → UntilAt (d - 1)) : UnitAt d := by
  intro w g s hs h hlen
  refine lexer_scanner_unit_calls _ _ _ _ ?_
  refine (want_spec _).mono ?_
  rintro _ w1 ⟨rfl, rfl⟩
  by_cases hd0 : d = 0
  · subst hd0
    rw [if_neg (by simp), unitD_zero]
    exact .inr ⟨_, rfl, Mod.refl _ _, rfl, s, h⟩
  obtain ⟨k, rfl⟩ : ∃ k, d = k + 1 := ⟨d - 1, by omega⟩
  have ih := ih hd0
  rw [Nat.add_sub_cancel] at ih
  have e1 : IntKind.i64.wrap (31 - ((k + 1 : Nat) : Int) + 1) = 31 - (k : Int) := by rw [wrap_i64 (by omega) (by omega)]; omega
  rw [if_pos (decide_eq_true (by omega)), e1]
  obtain ⟨a, r, rfl⟩ := List.exists_cons_of_ne_nil hs
  simp only [List.length_cons] at hlen
  have hu : unitD (k + 1) (a :: r) = unitF (untilD k) (a :: r) := rfl
  rw [hu]
  -- a skip, and what ends
  have into : ∀ (n : Nat) (c : UInt8) (s2 : Txt), n ≤ (a :: r).length → (a :: r).drop n = s2 → ∀ R : Ending → World → Prop, (∀ e w', Took g w1 (untilD k c s2) e w' → R e w') →
      Calls Tryz.prog fn_lexer_scanner_skip #[(.pointer (some ⟨g, 0, none⟩)), (.int .i64 (n : Int))] w1 (fun ed5 w6 => (ed5 = .returned (.tuple #[]) ∧ Calls Tryz.prog fn_lexer_scanner_until #[(.pointer (some ⟨g, 0, none⟩)), (.int .u8 (c.toNat : Int)), (.int .i64 (31 - (k : Int)))] w6 (fun ed6 w7 => (ed6 = .returned (.tuple #[]) ∧ R (.returned (.tuple #[])) w7) ∨ (∃ ch6, ed6 = .panicked ch6 ∧ R (.panicked ch6) w7))) ∨ (∃ ch5, ed5 = .panicked ch5 ∧ R (.panicked ch5) w6)) := by
    intro n c s2 hn hdrop R hR
    refine (skip_spec h n).mono fun e w6 ht => ?_
    rw [if_pos hn, hdrop] at ht
    obtain ⟨hm, rfl, hs2⟩ := ht
    have hl2 : s2.length < 1000000 := by
      rw [← hdrop]
      simp only [List.length_drop, List.length_cons]
      omega
    refine .inl ⟨rfl, (ih w6 g s2 c hs2 hl2).mono fun e w7 ht => ?_⟩
    have ht := Took.next hm ht
    cases ho : untilD k c s2 with
    | none =>
      rw [ho] at ht
      obtain ⟨hm2, rfl, h3⟩ := ht
      exact .inr ⟨_, rfl, hR _ _ (by rw [ho]; exact ⟨hm2, rfl, h3⟩)⟩
    | some t =>
      rw [ho] at ht
      obtain ⟨hm2, rfl, h3⟩ := ht
      exact .inl ⟨rfl, hR _ _ (by rw [ho]; exact ⟨hm2, rfl, h3⟩)⟩
  have justSkip : ∀ (n : Nat) (o : Option Txt), (if n ≤ (a :: r).length then some ((a :: r).drop n) else none) = o → ∀ R : Ending → World → Prop, (∀ e w', Took g w1 o e w' → R e w') →
      Calls Tryz.prog fn_lexer_scanner_skip #[(.pointer (some ⟨g, 0, none⟩)), (.int .i64 (n : Int))] w1 (fun ed5 w6 => (ed5 = .returned (.tuple #[]) ∧ R (.returned (.tuple #[])) w6) ∨ (∃ ch5, ed5 = .panicked ch5 ∧ R (.panicked ch5) w6)) := by
    intro n o ho R hR
    refine (skip_spec h n).mono fun e w6 ht => ?_
    rw [ho] at ht
    cases o with
    | none =>
      obtain ⟨hm2, rfl, h3⟩ := ht
      exact .inr ⟨_, rfl, hR _ _ ⟨hm2, rfl, h3⟩⟩
    | some t =>
      obtain ⟨hm2, rfl, h3⟩ := ht
      exact .inl ⟨rfl, hR _ _ ⟨hm2, rfl, h3⟩⟩
  refine .inl ⟨rfl, _, h.cell, by decide, a, rfl, bsel_of (fun h92 => ?_) (fun h92 => ⟨_, h.cell, by decide, a, rfl, bsel_of (fun h39 => ?_) (fun h39 => ⟨_, h.cell, by decide, a, rfl, bsel_of (fun h34 => ?_) (fun h34 => ⟨_, h.cell, ?_⟩)⟩)⟩)⟩
  · have h92 : a = 92 := byte_eq.1 (of_decide_eq_true h92)
    refine justSkip 2 _ ?_ _ (fun e w' h => h)
    simp only [unitF, if_pos h92]
    cases r with
    | nil => rfl
    | cons b t => simp
  · have h92 : ¬ a = 92 := fun e => of_decide_eq_false h92 (byte_eq.2 e)
    have h39 : a = 39 := byte_eq.1 (of_decide_eq_true h39)
    refine ⟨_, h.cell, by decide, by simp only [List.length_cons]; omega, ?_⟩
    have hq : unitF (untilD k) (a :: r) = quoteEnd r := by simp only [unitF, if_neg h92, if_pos h39]
    rw [hq]
    obtain ⟨i1, i2, i3⟩ := indexQuote r
    refine (Tryz.strings_IndexByte (S r) 39 _).mono ?_
    rintro _ w3 ⟨rfl, rfl⟩
    have hix : Go.Lib.indexByte (S r).data.toList (Int.toNat 39).toUInt8 = Go.Lib.indexByte r 39 := rfl
    rw [hix]
    generalize Go.Lib.indexByte r 39 = ix at i1 i2 i3
    refine .inl ⟨_, rfl, (want_spec _).mono ?_⟩
    rintro _ w4 ⟨rfl, rfl⟩
    by_cases h0 : 0 ≤ ix
    · obtain ⟨n, rfl⟩ := Int.eq_ofNat_of_zero_le h0
      have i2 := i2 h0
      have e2 : IntKind.i64.wrap ((n : Int) + 2) = ((n + 2 : Nat) : Int) := by rw [wrap_i64 (by omega) (by omega)]; omega
      rw [if_pos (decide_eq_true h0), e2]
      refine .inl ⟨rfl, justSkip (n + 2) _ ?_ _ (fun e w' h => h)⟩
      rw [← i1, if_pos h0, if_pos (by simp only [List.length_cons]; omega), show ((n : Int) + 1).toNat = n + 1 by omega]
      rfl
    · rw [if_neg (by simpa using h0)]
      refine .inr ⟨_, rfl, ?_⟩
      rw [← i1, if_neg h0]
      exact ⟨Mod.refl _ _, rfl, _, h⟩
  · have h92 : ¬ a = 92 := fun e => of_decide_eq_false h92 (byte_eq.2 e)
    have h39 : ¬ a = 39 := fun e => of_decide_eq_false h39 (byte_eq.2 e)
    have h34 : a = 34 := byte_eq.1 (of_decide_eq_true h34)
    have hq : unitF (untilD k) (a :: r) = untilD k 34 r := by simp only [unitF, if_neg h92, if_neg h39, if_pos h34]
    rw [hq]
    exact into 1 34 r (by simp) rfl _ (fun e w' h => h)
  · have h92 : ¬ a = 92 := fun e => of_decide_eq_false h92 (byte_eq.2 e)
    have h39 : ¬ a = 39 := fun e => of_decide_eq_false h39 (byte_eq.2 e)
    have h34 : ¬ a = 34 := fun e => of_decide_eq_false h34 (byte_eq.2 e)
    have hq : unitF (untilD k) (a :: r) = dollar (untilD k) a r := by simp only [unitF, if_neg h92, if_neg h39, if_neg h34]
    rw [hq]
    have hp : ∀ x : UInt8, Go.Lib.hasPrefix (S (a :: r)).data.toList (S [36, x]).data.toList = (match r with
      | b :: _ => decide (a = 36 ∧ b = x)
      | [] => false) := by
      intro x
      show List.isPrefixOf [36, x] (a :: r) = _
      cases r with
      | nil => simp [List.isPrefixOf]
      | cons b t =>
        simp only [List.isPrefixOf, Bool.and_true]
        by_cases h1 : a = 36
        · by_cases h2 : b = x
          · simp [h1, h2]
          · have : ¬ x = b := fun e => h2 e.symm
            simp [h1, h2, this]
        · have : ¬ 36 = a := fun e => h1 e.symm
          simp [h1, this]
    refine (Tryz.strings_HasPrefix (S (a :: r)) (S [36, 40]) _).mono ?_
    rintro _ w3 ⟨rfl, rfl⟩
    rw [hp 40]
    refine .inl ⟨_, rfl, bsel_of (fun h40 => ?_) (fun h40 => ⟨_, h.cell, (Tryz.strings_HasPrefix (S (a :: r)) (S [36, 123]) _).mono ?_⟩)⟩
    · cases r with
      | nil => cases h40
      | cons b t =>
        have h40 := of_decide_eq_true h40
        simp only [dollar, if_pos h40]
        exact into 2 41 t (by simp) rfl _ (fun e w' h => h)
    · rintro _ w4 ⟨rfl, rfl⟩
      rw [hp 123]
      refine .inl ⟨_, rfl, bsel_of (fun h123 => ?_) (fun h123 => ?_)⟩
      · cases r with
        | nil => cases h123
        | cons b t =>
          have h40 := of_decide_eq_false h40
          have h123 := of_decide_eq_true h123
          simp only [dollar, if_neg h40, if_pos h123]
          exact into 2 125 t (by simp) rfl _ (fun e w' h => h)
      · refine justSkip 1 _ ?_ _ (fun e w' h => h)
        cases r with
        | nil => rfl
        | cons b t =>
          have h40 := of_decide_eq_false h40
          have h123 := of_decide_eq_false h123
          simp only [dollar, if_neg h40, if_neg h123]
          simp
def scanLen (g : Nat) (w : World) : Nat := match w.cell? ⟨g, 0, none⟩ with
  | some (.string s) => s.data.size
  | _ => 0
theorem Scan.len {g : Nat} {s : Txt} (h : Scan w g s) : scanLen g w = s.length := by
  unfold scanLen
  rw [h.cell]
  rfl
set_option maxHeartbeats 1000000 in
theorem until_of {d : Nat} (hd : d ≤ 31) (hu : UnitAt d) (ih : d ≠ 0 → UntilAt (d - 1)) : UntilAt d := by
  intro w g s c h hlen
  refine lexer_scanner_until_calls _ _ _ _ _ ?_
  refine ⟨fun w1 => ∃ s1, Scan w1 g s1 ∧ Only g w w1 ∧ untilD d c s1 = untilD d c s ∧ s1.length ≤ s.length, scanLen g, ⟨s, h, Mod.refl _ _, rfl, Nat.le_refl _⟩, ?_⟩
  rintro _ w1 ⟨s1, h1, hm1, he, hl⟩
  rw [← he]
  refine ⟨_, h1.cell, (want_spec _).mono ?_⟩
  rintro _ w2 ⟨rfl, rfl⟩
  cases s1 with
  | nil =>
    rw [if_neg (by simp), untilD_nil]
    exact .inr ⟨_, rfl, hm1, rfl, _, h1⟩
  | cons b r =>
    rw [if_pos (by simp)]
    rw [untilD_cons] at he ⊢
    simp only [List.length_cons] at hl
    refine .inl ⟨rfl, _, h1.cell, by decide, b, rfl, bsel_of (fun hb => ?_) (fun hb => ?_)⟩
    · have hb : b = c := byte_eq.1 (of_decide_eq_true hb)
      rw [if_pos hb]
      refine (skip_spec h1 1).mono fun e w3 ht => ?_
      rw [if_pos (by simp)] at ht
      obtain ⟨hm3, rfl, h3⟩ := ht
      exact .inl ⟨rfl, hm1.trans hm3, rfl, h3⟩
    · have hb : ¬ b = c := fun e => of_decide_eq_false hb (byte_eq.2 e)
      rw [if_neg hb] at he ⊢
      -- what goes on behind a taking
      have on : ∀ (o : Option Txt) (e : Ending) (w3 : World), Took g w2 o e w3 → o.bind (untilD d c) = untilD d c s → (∀ t, o = some t → t.length ≤ r.length) →
          (e = .returned (.tuple #[]) ∧ (∃ s1, Scan w3 g s1 ∧ Only g w w3 ∧ untilD d c s1 = untilD d c s ∧ s1.length ≤ s.length) ∧ scanLen g w3 < scanLen g w2) ∨ (∃ ch, e = .panicked ch ∧ Took g w (untilD d c s) (.panicked ch) w3) := by
        intro o e w3 ht ho hlo
        obtain ⟨hm3, ht⟩ := ht
        cases o with
        | none =>
          obtain ⟨rfl, h3⟩ := ht
          refine .inr ⟨_, rfl, hm1.trans hm3, ?_⟩
          rw [← ho]
          exact ⟨rfl, h3⟩
        | some t =>
          obtain ⟨rfl, h3⟩ := ht
          have := hlo t rfl
          refine .inl ⟨rfl, ⟨t, h3, hm1.trans hm3, ho, by omega⟩, ?_⟩
          rw [h3.len, h1.len]
          simp only [List.length_cons]
          omega
      have hrl : r.length < 1000000 := by omega
      have unit : (unitD d (b :: r)).bind (untilD d c) = untilD d c s → Calls Tryz.prog fn_lexer_scanner_unit #[(.pointer (some ⟨g, 0, none⟩)), (.int .i64 (31 - (d : Int)))] w2 (fun ed7 w10 => (ed7 = .returned (.tuple #[]) ∧ (∃ s1, Scan w10 g s1 ∧ Only g w w10 ∧ untilD d c s1 = untilD d c s ∧ s1.length ≤ s.length) ∧ scanLen g w10 < scanLen g w2) ∨ (∃ ch7, ed7 = .panicked ch7 ∧ Took g w (untilD d c s) (.panicked ch7) w10)) := by
        intro ho
        refine (hu w2 g (b :: r) (List.cons_ne_nil _ _) h1 (by simp only [List.length_cons]; omega)).mono fun e w3 ht => ?_
        refine on _ e w3 ht ho fun t ht => ?_
        have := unitD_takes d _ _ ht
        simp only [List.length_cons] at this
        omega
      have wd : decide (31 - (d : Int) ≤ 30) = decide (d ≠ 0) := by
        apply decide_eq_decide.2
        omega
      rw [wd]
      have hres : untilD d c s = (if c = 34 ∧ b = 39 then (if d = 0 then none else untilD d c r) else if c = 41 ∧ b = 40 then (if d = 0 then none else (untilD (d - 1) 41 r).bind (untilD d c)) else (unitD d (b :: r)).bind (untilD d c)) := he.symm
      rw [he]
      refine ⟨fun x w4 => x = decide (c = 34 ∧ b = 39) ∧ w4 = w2, bsel_of (fun hc => ⟨?_, rfl⟩) (fun hc => ⟨?_, rfl⟩), ?_⟩
      · have hc : c = 34 := byte_eq.1 (of_decide_eq_true hc)
        apply decide_eq_decide.2
        exact ⟨fun h => ⟨hc, byte_eq.1 h⟩, fun h => byte_eq.2 h.2⟩
      · rw [decide_eq_false (fun h => of_decide_eq_false hc (byte_eq.2 h.1))]
      rintro _ _ w4 ⟨rfl, rfl⟩
      refine bsel_of (fun hq => ?_) (fun hq => ?_)
      · have hq := of_decide_eq_true hq
        rw [if_pos hq] at hres
        refine (want_spec _).mono ?_
        rintro _ w5 ⟨rfl, rfl⟩
        by_cases hd0 : d = 0
        · rw [if_pos hd0] at hres
          rw [if_neg (by simp [hd0])]
          refine .inr ⟨_, rfl, ?_⟩
          rw [hres]
          exact ⟨hm1, rfl, _, h1⟩
        · rw [if_neg hd0] at hres
          rw [if_pos (by simp [hd0])]
          refine .inl ⟨rfl, (skip_spec h1 1).mono fun e w6 ht => ?_⟩
          rw [if_pos (by simp)] at ht
          refine on (some r) e w6 ht hres.symm fun t ht => ?_
          obtain rfl := Option.some.inj ht
          exact Nat.le_refl _
      · have hq := of_decide_eq_false hq
        rw [if_neg hq] at hres
        refine bsel_of (fun hc => bsel_of (fun hb40 => ?_) (fun hb40 => ?_)) (fun hc => ?_)
        · have hc : c = 41 := byte_eq.1 (of_decide_eq_true hc)
          have hb40 : b = 40 := byte_eq.1 (of_decide_eq_true hb40)
          rw [if_pos ⟨hc, hb40⟩] at hres
          refine (want_spec _).mono ?_
          rintro _ w5 ⟨rfl, rfl⟩
          by_cases hd0 : d = 0
          · rw [if_pos hd0] at hres
            rw [if_neg (by simp [hd0])]
            refine .inr ⟨_, rfl, ?_⟩
            rw [hres]
            exact ⟨hm1, rfl, _, h1⟩
          · rw [if_neg hd0] at hres
            rw [if_pos (by simp [hd0])]
            have e1 : IntKind.i64.wrap (31 - (d : Int) + 1) = 31 - ((d - 1 : Nat) : Int) := by rw [wrap_i64 (by omega) (by omega)]; omega
            rw [e1]
            refine .inl ⟨rfl, (skip_spec h1 1).mono fun e w6 ht => ?_⟩
            rw [if_pos (by simp)] at ht
            obtain ⟨hm6, rfl, h6⟩ := ht
            refine .inl ⟨rfl, (ih hd0 w6 g r 41 h6 hrl).mono fun e w7 ht => ?_⟩
            refine on _ e w7 (Took.next hm6 ht) hres.symm fun t ht => ?_
            exact Nat.le_of_lt (untilD_takes (d - 1) 41 _ _ ht)
        · have hb40 : ¬ b = 40 := fun e => of_decide_eq_false hb40 (byte_eq.2 e)
          rw [if_neg (fun h => hb40 h.2)] at hres
          exact unit hres.symm
        · have hc : ¬ c = 41 := fun e => of_decide_eq_false hc (byte_eq.2 e)
          rw [if_neg (fun h => hc h.1)] at hres
          exact unit hres.symm
theorem levels : ∀ d, d ≤ 31 → UnitAt d ∧ UntilAt d
  | 0, h => ⟨unit_of h (fun h => absurd rfl h), until_of h (unit_of h (fun h => absurd rfl h)) (fun h => absurd rfl h)⟩
  | d + 1, h => by
    have ih := (levels d (by omega)).2
    have hu : UnitAt (d + 1) := unit_of h (fun _ => ih)
    exact ⟨hu, until_of h hu (fun _ => ih)⟩
theorem unit_spec {g : Nat} {s : Txt} (hs : s ≠ []) (h : Scan w g s) (hl : s.length < 1000000) : Calls Tryz.prog fn_lexer_scanner_unit #[.pointer (some ⟨g, 0, none⟩), .int .i64 1] w (fun e w' => Took g w (unitD 30 s) e w') :=
  (levels 30 (by decide)).1 w g s hs h hl
def letR (r : Int) : Bool := decide ((97 ≤ r ∧ r ≤ 122) ∨ (65 ≤ r ∧ r ≤ 90) ∨ r = 95)
def digR (r : Int) : Bool := decide (48 ≤ r ∧ r ≤ 57)
theorem u8_le (a c : UInt8) : decide (a ≤ c) = decide ((a.toNat : Int) ≤ (c.toNat : Int)) := by
  apply decide_eq_decide.2
  rw [UInt8.le_iff_toNat_le]
  omega
theorem isLet_int (c : UInt8) : isLet c = letR (c.toNat : Int) := by
  unfold isLet letR
  rw [u8_le, u8_le, u8_le, u8_le, show (c == 95) = decide ((c.toNat : Int) = 95) by rw [Bool.eq_iff_iff]; simp [← UInt8.toNat_inj]; omega]
  rw [Bool.eq_iff_iff]
  simp
  omega
theorem isDig_int (c : UInt8) : isDig c = digR (c.toNat : Int) := by
  unfold isDig digR
  rw [u8_le, u8_le, Bool.eq_iff_iff]
  simp
theorem nt {p : Prop} [Decidable p] (h : (!decide p) = true) : ¬ p := by simpa using h
theorem nf {p : Prop} [Decidable p] (h : (!decide p) = false) : p := by simpa using h
theorem ret_bool {b b' : Bool} (h : b = b') : (Ending.returned (.bool b) = .returned (.bool b') ∧ w = w) := by rw [h]; exact ⟨rfl, rfl⟩
theorem word_letter_spec (r : Int) : Calls Tryz.prog fn_word_letter #[.int .i32 r] w (fun e w' => e = .returned (.bool (letR r)) ∧ w' = w) := by
  refine word_letter_calls _ _ _ ?_
  unfold letR
  repeat' refine bsel_of (fun h => ?_) (fun h => ?_)
  all_goals simp only [decide_eq_true_eq, decide_eq_false_iff_not] at *
  all_goals refine ⟨congrArg (fun b => Ending.returned (.bool b)) ?_, trivial⟩
  all_goals first | exact (decide_eq_true (by omega)).symm | exact decide_eq_decide.2 (by omega)
theorem word_digit_spec (r : Int) : Calls Tryz.prog fn_word_digit #[.int .i32 r] w (fun e w' => e = .returned (.bool (digR r)) ∧ w' = w) := by
  refine word_digit_calls _ _ _ ?_
  unfold digR
  repeat' refine bsel_of (fun h => ?_) (fun h => ?_)
  all_goals simp only [decide_eq_true_eq, decide_eq_false_iff_not] at *
  all_goals refine ⟨congrArg (fun b => Ending.returned (.bool b)) ?_, trivial⟩
  all_goals first | exact (decide_eq_false (by omega)).symm | exact decide_eq_decide.2 (by omega)
theorem ref_letter_spec (c : UInt8) : Calls Tryz.prog fn_ref08_letter #[.int .u8 (c.toNat : Int)] w (fun e w' => e = .returned (.bool (isLet c)) ∧ w' = w) := by
  refine ref08_letter_calls _ _ _ ?_
  rw [isLet_int]
  unfold letR
  repeat' refine bsel_of (fun h => ?_) (fun h => ?_)
  all_goals simp only [decide_eq_true_eq, decide_eq_false_iff_not] at *
  all_goals refine ⟨congrArg (fun b => Ending.returned (.bool b)) ?_, trivial⟩
  all_goals first | exact (decide_eq_true (by omega)).symm | exact decide_eq_decide.2 (by omega)
theorem ref_digit_spec (c : UInt8) : Calls Tryz.prog fn_ref08_digit #[.int .u8 (c.toNat : Int)] w (fun e w' => e = .returned (.bool (isDig c)) ∧ w' = w) := by
  refine ref08_digit_calls _ _ _ ?_
  rw [isDig_int]
  unfold digR
  repeat' refine bsel_of (fun h => ?_) (fun h => ?_)
  all_goals simp only [decide_eq_true_eq, decide_eq_false_iff_not] at *
  all_goals refine ⟨congrArg (fun b => Ending.returned (.bool b)) ?_, trivial⟩
  all_goals first | exact (decide_eq_false (by omega)).symm | exact decide_eq_decide.2 (by omega)
theorem spec_eq (c k : UInt8) : decide ((c.toNat : Int) = (k.toNat : Int)) = (c == k) := by
  rw [Bool.eq_iff_iff]
  simp only [decide_eq_true_eq, beq_iff_eq]
  exact byte_eq
theorem ref_special_spec (c : UInt8) : Calls Tryz.prog fn_ref08_special #[.int .u8 (c.toNat : Int)] w (fun e w' => e = .returned (.bool (isSpec c)) ∧ w' = w) := by
  refine ref08_special_calls _ _ _ ?_
  refine (ref_digit_spec c).mono ?_
  rintro _ w1 ⟨rfl, rfl⟩
  have e1 := spec_eq c 35
  have e2 := spec_eq c 63
  have e3 := spec_eq c 64
  have e4 := spec_eq c 42
  unfold isSpec
  rw [← e1, ← e2, ← e3, ← e4]
  refine .inl ⟨_, rfl, bsel_of (fun h => ret_bool (by rw [h]; rfl)) (fun h => bsel_of (fun h2 => ret_bool ?_) (fun h2 => bsel_of (fun h3 => ret_bool ?_) (fun h3 => bsel_of (fun h4 => ret_bool ?_) (fun h4 => ret_bool ?_))))⟩
  · have h2 : decide ((c.toNat : Int) = ((35 : UInt8).toNat : Int)) = true := h2
    rw [h2]; simp
  · have h3 : decide ((c.toNat : Int) = ((63 : UInt8).toNat : Int)) = true := h3
    rw [h3]; simp
  · have h4 : decide ((c.toNat : Int) = ((64 : UInt8).toNat : Int)) = true := h4
    rw [h4]; simp
  · have h2 : decide ((c.toNat : Int) = ((35 : UInt8).toNat : Int)) = false := h2
    have h3 : decide ((c.toNat : Int) = ((63 : UInt8).toNat : Int)) = false := h3
    have h4 : decide ((c.toNat : Int) = ((64 : UInt8).toNat : Int)) = false := h4
    rw [h, h2, h3, h4]
    rfl
theorem takeWhile_step {p : UInt8 → Bool} : ∀ {l : Txt} {k : Nat} (hk : k < l.length), k ≤ (l.takeWhile p).length → (p l[k] = true → k + 1 ≤ (l.takeWhile p).length) ∧ (p l[k] = false → (l.takeWhile p).length = k)
  | a :: l, 0, _, _ => by
    refine ⟨fun h => ?_, fun h => ?_⟩
    · have h : p a = true := h
      rw [List.takeWhile_cons, if_pos h]
      simp
    · have h : p a = false := h
      rw [List.takeWhile_cons, if_neg (by rw [h]; decide)]
      rfl
  | a :: l, k + 1, hk, h => by
    rw [List.takeWhile_cons] at h ⊢
    by_cases ha : p a = true
    · rw [if_pos ha] at h ⊢
      simp only [List.length_cons] at h hk ⊢
      have := takeWhile_step (p := p) (l := l) (k := k) (by omega) (by omega)
      refine ⟨fun hp => ?_, fun hp => ?_⟩
      · have := this.1 hp; omega
      · have := this.2 hp; omega
    · rw [if_neg ha] at h
      simp at h
theorem nameN_step {s : Txt} {k : Nat} (hk : k < s.length) (h : k ≤ nameN s) : ((isLet s[k] || (decide (0 < k) && isDig s[k])) = true → k + 1 ≤ nameN s) ∧ ((isLet s[k] || (decide (0 < k) && isDig s[k])) = false → nameN s = k) := by
  cases s with
  | nil => simp at hk
  | cons c r =>
    simp only [nameN] at h ⊢
    cases k with
    | zero =>
      have e : (c :: r)[0] = c := rfl
      rw [e]
      simp only [Nat.lt_irrefl, decide_false, Bool.false_and, Bool.or_false]
      refine ⟨fun hc => ?_, fun hc => ?_⟩
      · rw [if_pos hc]; omega
      · rw [if_neg (by rw [hc]; decide)]
    | succ k =>
      by_cases hc : isLet c = true
      · rw [if_pos hc] at h ⊢
        simp only [List.length_cons] at hk
        have := takeWhile_step (p := isNam) (l := r) (k := k) (by omega) (by omega)
        have e : (c :: r)[k + 1] = r[k]'(by omega) := rfl
        rw [e]
        simp only [Nat.zero_lt_succ, decide_true, Bool.true_and]
        refine ⟨fun hp => ?_, fun hp => ?_⟩
        · have := this.1 hp; omega
        · have := this.2 hp; omega
      · rw [if_neg hc] at h
        omega
theorem dec_low {b : Txt} {k : Nat} (hk : k < b.length) (h : b[k].toNat < 128) : Utf8.decode ⟨⟨b⟩⟩ k = (b[k].toNat, 1) := decode_ascii ⟨⟨b⟩⟩ k hk h
theorem dec_high {b : Txt} {k : Nat} (hk : k < b.length) (h : 128 ≤ b[k].toNat) : 128 ≤ (Utf8.decode ⟨⟨b⟩⟩ k).1 := by
  have e : (S b).get! (k + 0) = b[k] := by
    show (S b).get! k = _
    have hs : k < (S b).size := hk
    simp [ByteArray.get!, List.getElem?_eq_getElem hk]
  simp only [Utf8.decode, e]
  rw [if_neg (by omega)]
  unfold Utf8.runeError
  repeat' split
  all_goals simp_all
  all_goals omega
theorem rune_is {b : Txt} {k : Nat} (hk : k < b.length) : letR ((Utf8.decode ⟨⟨b⟩⟩ k).1 : Int) = isLet b[k] ∧ digR ((Utf8.decode ⟨⟨b⟩⟩ k).1 : Int) = isDig b[k] ∧ ((isLet b[k] || isDig b[k]) = true → (Utf8.decode ⟨⟨b⟩⟩ k).2 = 1) := by
  rcases Nat.lt_or_ge b[k].toNat 128 with hlt | hge
  · rw [dec_low hk hlt, isLet_int, isDig_int]
    exact ⟨rfl, rfl, fun _ => rfl⟩
  · have hh := dec_high hk hge
    rw [isLet_int, isDig_int]
    unfold letR digR
    refine ⟨?_, ?_, fun h => ?_⟩
    · rw [decide_eq_false (by omega), decide_eq_false (by omega)]
    · rw [decide_eq_false (by omega), decide_eq_false (by omega)]
    · exfalso
      simp at h
      omega
theorem iter_new (w : World) (o : Obj) : (w.alloc o).heap[w.heap.size]? = some o := heap_alloc_new w _
theorem iter_still {w1 : World} {g : Nat} (h : Still w w1) (hg : w.heap.size ≤ g) (s : ByteArray) (n : Nat) : Still w (w1.iterAt g s n) :=
  ⟨h.os, h.tape, h.output, by rw [Lib.iterAt_size]; exact h.size, fun k hk hn => (Lib.iterAt_other _ _ _ _ _ (by omega)).trans (h.block k hk hn)⟩
theorem Name_spec (s : Txt) (hl : s.length < 1000000) : Calls Tryz.prog fn_word_Name #[.string (S s)] w (fun e w' => e = .returned (.string (S (s.take (nameN s)))) ∧ Still w w') := by
  refine word_Name_calls _ _ _ ?_
  refine letIn ?_
  refine ⟨fun w1 => ∃ k : Nat, w1.heap[w.heap.size]? = some (.stringIter ⟨⟨s⟩⟩ k) ∧ k ≤ nameN s ∧ Still w w1, fun w1 => match w1.heap[w.heap.size]? with
    | some (.stringIter _ k) => s.length - k
    | _ => 0, ⟨0, iter_new _ _, Nat.zero_le _, (Mod.refl _ _).alloc _⟩, ?_⟩
  rintro _ w2 ⟨k, hk, hkn, hs2⟩
  have hnl := nameN_le s
  refine ⟨rfl, s, k, hk, bsel_of (fun hx => ?_) (fun hx => ?_)⟩
  rotate_left
  · have hx := of_decide_eq_false hx
    rw [List.take_of_length_le (by omega)]
    exact ⟨rfl, hs2⟩
  have hx := of_decide_eq_true hx
  obtain ⟨r1, r2, r3⟩ := rune_is hx
  obtain ⟨n1, n2⟩ := nameN_step hx hkn
  refine letIn ?_
  have hs3 : Still w (w2.iterAt w.heap.size ⟨⟨s⟩⟩ (k + (Utf8.decode ⟨⟨s⟩⟩ k).2)) := iter_still hs2 (Nat.le_refl _) _ _
  have hk3 : (w2.iterAt w.heap.size ⟨⟨s⟩⟩ (k + (Utf8.decode ⟨⟨s⟩⟩ k).2)).heap[w.heap.size]? = some (.stringIter ⟨⟨s⟩⟩ (k + (Utf8.decode ⟨⟨s⟩⟩ k).2)) := Lib.iterAt_heap _ _ _ _ _ hk
  have on : (isLet s[k] || (decide (0 < k) && isDig s[k])) = true → ∀ w4, w4 = w2.iterAt w.heap.size ⟨⟨s⟩⟩ (k + (Utf8.decode ⟨⟨s⟩⟩ k).2) → (∃ k : Nat, w4.heap[w.heap.size]? = some (.stringIter ⟨⟨s⟩⟩ k) ∧ k ≤ nameN s ∧ Still w w4) ∧ (match w4.heap[w.heap.size]? with
    | some (.stringIter _ k) => s.length - k
    | _ => 0) < (match w2.heap[w.heap.size]? with
    | some (.stringIter _ k) => s.length - k
    | _ => 0) := by
    rintro ho _ rfl
    have h1 := r3 (by
      rw [Bool.or_eq_true] at ho ⊢
      rcases ho with ho | ho
      · exact .inl ho
      · rw [Bool.and_eq_true] at ho
        exact .inr ho.2)
    rw [h1] at hk3 hs3 ⊢
    refine ⟨⟨k + 1, hk3, n1 ho, hs3⟩, ?_⟩
    rw [hk3, hk]
    show s.length - (k + 1) < s.length - k
    omega
  have off : (isLet s[k] || (decide (0 < k) && isDig s[k])) = false → ∀ w4, w4 = w2.iterAt w.heap.size ⟨⟨s⟩⟩ (k + (Utf8.decode ⟨⟨s⟩⟩ k).2) → (Ending.returned (.string (S (s.take (Int.toNat (k : Int))))) = .returned (.string (S (s.take (nameN s)))) ∧ Still w w4) := by
    rintro ho _ rfl
    rw [n2 ho, Int.toNat_natCast]
    exact ⟨rfl, hs3⟩
  refine (word_letter_spec _).mono ?_
  rintro _ w4 ⟨rfl, rfl⟩
  rw [r1]
  refine .inl ⟨_, rfl, bsel_of (fun h => ?_) (fun h => ?_)⟩
  · have h : isLet s[k] = false := by simpa using h
    refine bsel_of (fun h0 => ?_) (fun h0 => ?_)
    · have h0 : (k : Int) = 0 := of_decide_eq_true h0
      refine ⟨by omega, by omega, off ?_ _ rfl⟩
      rw [h, decide_eq_false (by omega)]
      rfl
    · have h0 : (k : Int) ≠ 0 := of_decide_eq_false h0
      refine (word_digit_spec _).mono ?_
      rintro _ w5 ⟨rfl, rfl⟩
      rw [r2]
      refine .inl ⟨_, rfl, bsel_of (fun h5 => ?_) (fun h5 => ?_)⟩
      · have h5 : isDig s[k] = false := by simpa using h5
        refine ⟨by omega, by omega, off ?_ _ rfl⟩
        rw [h, h5, Bool.and_false]
        rfl
      · have h5 : isDig s[k] = true := by simpa using h5
        exact on (by rw [h, h5, decide_eq_true (by omega)]; rfl) _ rfl
  · have h : isLet s[k] = true := by simpa using h
    exact on (by rw [h]; rfl) _ rfl
theorem take_nil {s : Txt} {n : Nat} (h : n ≤ s.length) : s.take n = [] ↔ n = 0 := by
  refine ⟨fun e => ?_, fun e => by rw [e]; rfl⟩
  have := congrArg List.length e
  rw [List.length_take, List.length_nil] at this
  omega
theorem take_all {s : Txt} {n : Nat} (h : n ≤ s.length) : s.take n = s ↔ n = s.length := by
  refine ⟨fun e => ?_, fun e => by rw [e, List.take_length]⟩
  have := congrArg List.length e
  rw [List.length_take] at this
  omega
theorem IsName_spec (s : Txt) (hl : s.length < 1000000) : Calls Tryz.prog fn_word_IsName #[.string (S s)] w (fun e w' => e = .returned (.bool (decide (s ≠ [] ∧ nameN s = s.length))) ∧ Still w w') := by
  refine word_IsName_calls _ _ _ ?_
  refine bsel_of (fun h => ?_) (fun h => ?_)
  · have h : s ≠ [] := by simpa using h
    refine (Name_spec s hl).mono ?_
    rintro _ w1 ⟨rfl, hs1⟩
    refine .inl ⟨_, rfl, ?_, hs1⟩
    congr 2
    apply decide_eq_decide.2
    rw [take_all (nameN_le s)]
    exact ⟨fun e => ⟨h, e⟩, fun e => e.2⟩
  · have h : s = [] := by simpa using h
    subst h
    exact ⟨rfl, Still.refl _⟩
theorem ref_Name_spec (s : Txt) (hl : s.length < 1000000) : Calls Tryz.prog fn_ref08_Name #[.string (S s)] w (fun e w' => e = .returned (.int .i64 (nameN s : Int)) ∧ w' = w) := by
  refine ref08_Name_calls _ _ _ ?_
  refine ⟨fun n w1 => ∃ k : Nat, n = (k : Int) ∧ k ≤ nameN s ∧ w1 = w, fun n _ => s.length - n.toNat, ⟨0, rfl, Nat.zero_le _, rfl⟩, ?_⟩
  rintro _ _ w1 ⟨k, rfl, hk, rfl⟩
  have hnl := nameN_le s
  refine bsel_of (fun hx => ?_) (fun hx => ?_)
  rotate_left
  · have hx := of_decide_eq_false hx
    have : k = nameN s := by omega
    rw [this]
    exact ⟨rfl, rfl⟩
  have hx : k < s.length := by have := of_decide_eq_true hx; omega
  obtain ⟨n1, n2⟩ := nameN_step hx hk
  have e1 : IntKind.i64.wrap ((k : Int) + 1) = ((k + 1 : Nat) : Int) := by rw [wrap_i64 (by omega) (by omega)]; omega
  rw [e1]
  refine ⟨by omega, s[k], by rw [Int.toNat_natCast]; exact getD_some hx, (ref_letter_spec _).mono ?_⟩
  rintro _ w2 ⟨rfl, rfl⟩
  refine .inl ⟨_, rfl, bsel_of (fun h => ?_) (fun h => ?_)⟩
  · exact ⟨⟨k + 1, rfl, n1 (by rw [h]; rfl), rfl⟩, by dsimp only; omega⟩
  · refine bsel_of (fun h0 => ?_) (fun h0 => ?_)
    · have h0 := of_decide_eq_true h0
      refine ⟨by omega, s[k], by rw [Int.toNat_natCast]; exact getD_some hx, (ref_digit_spec _).mono ?_⟩
      rintro _ w3 ⟨rfl, rfl⟩
      refine .inl ⟨_, rfl, bsel_of (fun h5 => ?_) (fun h5 => ?_)⟩
      · exact ⟨⟨k + 1, rfl, n1 (by rw [h, h5, decide_eq_true (by omega)]; rfl), rfl⟩, by dsimp only; omega⟩
      · rw [n2 (by rw [h, h5, Bool.and_false]; rfl)]
        exact ⟨rfl, rfl⟩
    · have h0 := of_decide_eq_false h0
      rw [n2 (by rw [h, decide_eq_false (by omega)]; rfl)]
      exact ⟨rfl, rfl⟩
theorem index_mem : ∀ (l : Txt) (c : UInt8), decide ((0 : Int) ≤ Go.Lib.indexByte l c) = l.contains c
  | [], c => rfl
  | b :: r, c => by
    have ih := index_mem r c
    simp only [Go.Lib.indexByte, beq_iff_eq, List.contains_cons]
    by_cases h : b = c
    · subst h
      simp
    · have h2 : ¬ c = b := fun e => h e.symm
      rw [if_neg h]
      have h3 : (c == b) = false := by simpa using h2
      rw [h3, Bool.false_or, ← ih]
      split
      · rename_i he
        rw [he]
      · rename_i he
        have h4 : ∀ (l : Txt) (c : UInt8), -1 ≤ Go.Lib.indexByte l c := by
          intro l c
          induction l with
          | nil => exact Int.le_refl (-1)
          | cons x l ih =>
            simp only [Go.Lib.indexByte]
            split
            · decide
            · split <;> omega
        have := h4 r c
        rw [decide_eq_true (by omega), decide_eq_true (by omega)]
theorem toUInt8_back (b : UInt8) : (((b.toNat : Nat) : Int)).toNat.toUInt8 = b := by
  rw [Int.toNat_natCast]
  simp
theorem index_spec (l : Txt) (c : UInt8) : Calls Tryz.prog fn_strings_IndexByte #[.string (S l), .int .u8 (c.toNat : Int)] w (fun e w' => (∃ n : Int, e = .returned (.int .i64 n) ∧ decide (0 ≤ n) = l.contains c) ∧ w' = w) := by
  refine (Tryz.strings_IndexByte (S l) _ _).mono ?_
  rintro _ w1 ⟨rfl, rfl⟩
  rw [toUInt8_back]
  exact ⟨⟨_, rfl, index_mem l c⟩, rfl⟩
theorem trimLeft_spec (s : Txt) (cs : Txt) (hcs : cs.length < 4294967281) (ha : cs.all (fun b => decide (b.toNat < 128)) = true) : Calls Tryz.prog fn_strings_TrimLeft #[.string (S s), .string (S cs)] w (fun e w' => e = .returned (.string (S (s.dropWhile (cs.contains ·)))) ∧ Still w w') := by
  refine (Any.strings_TrimLeft_laid Tryz.lays161 (by kernel_rfl) (S s) (S cs) w (by simpa [ByteArray.size] using hcs) (ascii_of_all ha)).mono ?_
  rintro _ w' ⟨rfl, hb⟩
  exact ⟨rfl, (Still.refl w).trans' hb (Nat.le_refl _)⟩
theorem digs_has (c : UInt8) : ([48, 49, 50, 51, 52, 53, 54, 55, 56, 57] : Txt).contains c = isDig c := by
  have h : ∀ n : Nat, n < 256 → ([48, 49, 50, 51, 52, 53, 54, 55, 56, 57] : Txt).contains (UInt8.ofNat n) = isDig (UInt8.ofNat n) := by decide +kernel
  have := h c.toNat c.toNat_lt
  rwa [UInt8.ofNat_toNat] at this
theorem drop_dig (s : Txt) : s.dropWhile (([48, 49, 50, 51, 52, 53, 54, 55, 56, 57] : Txt).contains ·) = s.drop (digN s) := by
  have e : (([48, 49, 50, 51, 52, 53, 54, 55, 56, 57] : Txt).contains · : UInt8 → Bool) = isDig := by funext c; exact digs_has c
  rw [e]
  unfold digN
  induction s with
  | nil => rfl
  | cons c s ih =>
    rw [List.dropWhile_cons, List.takeWhile_cons]
    split
    · rw [List.length_cons, List.drop_succ_cons]
      exact ih
    · rfl
theorem digN_zero {c : UInt8} {r : Txt} (h : digN (c :: r) = 0) : isDig c = false := by
  unfold digN at h
  rw [List.takeWhile_cons] at h
  split at h
  · cases h
  · rename_i hc
    simpa using hc
theorem param_spec (s : Txt) (hl : s.length < 1000000) : Calls Tryz.prog fn_word_param #[.string (S s)] w (fun e w' => e = .returned (.string (S (s.take (paramN s)))) ∧ Still w w') := by
  refine word_param_calls _ _ _ ?_
  refine (Name_spec s hl).mono ?_
  rintro _ w1 ⟨rfl, hs1⟩
  refine .inl ⟨_, rfl, bsel_of (fun h => ?_) (fun h => ?_)⟩
  · have h : ¬ s.take (nameN s) = [] := nt h
    rw [take_nil (nameN_le s)] at h
    unfold paramN
    rw [if_pos (by omega)]
    exact ⟨rfl, hs1⟩
  have h : s.take (nameN s) = [] := nf h
  rw [take_nil (nameN_le s)] at h
  refine bsel_of (fun h0 => ?_) (fun h0 => ?_)
  · have h0 := of_decide_eq_true h0
    subst h0
    exact ⟨rfl, hs1⟩
  have h0 : s ≠ [] := of_decide_eq_false h0
  obtain ⟨c, r, rfl⟩ := List.exists_cons_of_ne_nil h0
  have hp : paramN (c :: r) = if 0 < digN (c :: r) then digN (c :: r) else specN (c :: r) := by
    unfold paramN
    rw [if_neg (by omega)]
  refine (trimLeft_spec (c :: r) _ (by decide) (by decide)).mono ?_
  rintro _ w2 ⟨rfl, hs2⟩
  have hs02 := hs1.trans hs2
  have hdl := digN_le (c :: r)
  rw [drop_dig]
  have e1 : IntKind.i64.wrap (((c :: r).length : Int) - (((c :: r).drop (digN (c :: r))).length : Int)) = (digN (c :: r) : Int) := by
    rw [List.length_drop, wrap_i64 (by omega) (by omega)]
    omega
  refine .inl ⟨_, rfl, ?_⟩
  rw [e1, Int.toNat_natCast]
  refine ⟨by omega, by omega, bsel_of (fun h1 => ?_) (fun h1 => ?_)⟩
  · have h1 : (c :: r).take (digN (c :: r)) = [] := of_decide_eq_true h1
    have h1' := (take_nil hdl).1 h1
    have hd := digN_zero h1'
    refine ⟨by decide, c, rfl, (index_spec _ c).mono ?_⟩
    rintro _ w3 ⟨⟨n, rfl, hn⟩, rfl⟩
    have hsp : isSpec c = ([35, 63, 64, 42] : Txt).contains c := by
      unfold isSpec
      rw [hd]
      simp only [List.contains_cons, List.contains_nil, Bool.or_false, Bool.false_or, Bool.or_assoc]
    rw [hp, if_neg (by omega)]
    simp only [specN]
    rw [hsp, ← hn]
    refine .inl ⟨_, rfl, bsel_of (fun h2 => ?_) (fun h2 => ?_)⟩
    · rw [if_pos h2]
      exact ⟨by decide, by simp only [List.length_cons]; omega, rfl, hs02⟩
    · rw [if_neg (by rw [h2]; decide), h1]
      exact ⟨rfl, hs02⟩
  · have h1 : ¬ (c :: r).take (digN (c :: r)) = [] := of_decide_eq_false h1
    rw [take_nil hdl] at h1
    rw [hp, if_pos (by omega)]
    exact ⟨rfl, hs02⟩
theorem ref_param_spec (s : Txt) (hl : s.length < 1000000) : Calls Tryz.prog fn_ref08_param #[.string (S s)] w (fun e w' => e = .returned (.int .i64 (paramN s : Int)) ∧ w' = w) := by
  refine ref08_param_calls _ _ _ ?_
  refine (ref_Name_spec s hl).mono ?_
  rintro _ w1 ⟨rfl, rfl⟩
  refine .inl ⟨_, rfl, bsel_of (fun h => ?_) (fun h => ?_)⟩
  · have h : (0 : Int) < (nameN s : Int) := of_decide_eq_true h
    unfold paramN
    rw [if_pos (by omega)]
    exact ⟨rfl, rfl⟩
  have h : ¬ (0 : Int) < (nameN s : Int) := of_decide_eq_false h
  have hz : nameN s = 0 := by omega
  refine bsel_of (fun h0 => ?_) (fun h0 => ?_)
  · have h0 := of_decide_eq_true h0
    subst h0
    exact ⟨rfl, rfl⟩
  have h0 : s ≠ [] := of_decide_eq_false h0
  obtain ⟨c, r, rfl⟩ := List.exists_cons_of_ne_nil h0
  have hp : paramN (c :: r) = if 0 < digN (c :: r) then digN (c :: r) else specN (c :: r) := by
    unfold paramN
    rw [if_neg (by omega)]
  have hdl := digN_le (c :: r)
  -- where digits end
  have stop : ∀ k : Nat, digN (c :: r) = k → ∀ w2 : World, w2 = w1 → bsel (decide ((k : Int) = 0)) ((0 : Int) ≤ 0 ∧ ∃ b1 : UInt8, (c :: r)[Int.toNat 0]? = some b1 ∧ Calls Tryz.prog fn_ref08_special #[.int .u8 (b1.toNat : Int)] w2 (fun ed w4 => (∃ r2, ed = .returned (.bool r2) ∧ bsel r2 (Ending.returned (.int .i64 1) = .returned (.int .i64 (paramN (c :: r) : Int)) ∧ w4 = w1) (Ending.returned (.int .i64 (k : Int)) = .returned (.int .i64 (paramN (c :: r) : Int)) ∧ w4 = w1)) ∨ (∃ ch, ed = .panicked ch ∧ (Ending.panicked ch = .returned (.int .i64 (paramN (c :: r) : Int)) ∧ w4 = w1))))
      (Ending.returned (.int .i64 (k : Int)) = .returned (.int .i64 (paramN (c :: r) : Int)) ∧ w2 = w1) := by
    rintro k hk w2 rfl
    refine bsel_of (fun h1 => ?_) (fun h1 => ?_)
    · have h1 : (k : Int) = 0 := of_decide_eq_true h1
      refine ⟨by decide, c, rfl, (ref_special_spec c).mono ?_⟩
      rintro _ w4 ⟨rfl, rfl⟩
      rw [hp, if_neg (by omega)]
      rw [show specN (c :: r) = if isSpec c = true then 1 else 0 from rfl]
      refine .inl ⟨_, rfl, bsel_of (fun h2 => ?_) (fun h2 => ?_)⟩
      · rw [if_pos h2]; exact ⟨rfl, rfl⟩
      · rw [if_neg (by rw [h2]; decide), h1]; exact ⟨rfl, rfl⟩
    · have h1 : ¬ (k : Int) = 0 := of_decide_eq_false h1
      rw [hp, if_pos (by omega), hk]
      exact ⟨rfl, rfl⟩
  refine ⟨fun n w2 => ∃ k : Nat, n = (k : Int) ∧ k ≤ digN (c :: r) ∧ w2 = w1, fun n _ => (c :: r).length - n.toNat, ⟨0, by rw [hz], Nat.zero_le _, rfl⟩, ?_⟩
  rintro _ _ w2 ⟨k, rfl, hk, rfl⟩
  refine bsel_of (fun hx => ?_) (fun hx => ?_)
  · have hx : k < (c :: r).length := by have := of_decide_eq_true hx; omega
    obtain ⟨n1, n2⟩ := takeWhile_step (p := isDig) hx hk
    have e1 : IntKind.i64.wrap ((k : Int) + 1) = ((k + 1 : Nat) : Int) := by rw [wrap_i64 (by omega) (by omega)]; omega
    rw [e1]
    refine ⟨by omega, (c :: r)[k], by rw [Int.toNat_natCast]; exact getD_some hx, (ref_digit_spec _).mono ?_⟩
    rintro _ w3 ⟨rfl, rfl⟩
    refine .inl ⟨_, rfl, bsel_of (fun h5 => ?_) (fun h5 => ?_)⟩
    · exact ⟨⟨k + 1, rfl, n1 h5, rfl⟩, by dsimp only; omega⟩
    · exact stop k (n2 h5) _ rfl
  · have hx : ¬ (k : Int) < ((c :: r).length : Int) := of_decide_eq_false hx
    exact stop k (by omega) _ rfl
theorem pf_isPrefixOf (t s : Txt) : pf t s = t.isPrefixOf s := by
  unfold pf
  rw [Bool.eq_iff_iff, decide_eq_true_eq, List.isPrefixOf_iff_prefix]
  refine ⟨fun h => ?_, fun h => ⟨h.length_le, (List.prefix_iff_eq_take.1 h).symm⟩⟩
  rw [← h.2]
  exact List.take_prefix _ _
theorem hasPrefix_spec (s t : Txt) : Calls Tryz.prog fn_strings_HasPrefix #[.string (S s), .string (S t)] w (fun e w' => e = .returned (.bool (pf t s)) ∧ w' = w) := by
  refine (Tryz.strings_HasPrefix (S s) (S t) _).mono ?_
  rintro _ w1 ⟨rfl, rfl⟩
  rw [pf_isPrefixOf]
  exact ⟨rfl, rfl⟩
theorem find_step {l : List Txt} {f : Txt → Bool} {i : Nat} (h : i < l.length) : (l.drop i).find? f = if f l[i] = true then some l[i] else (l.drop (i + 1)).find? f := by
  rw [List.drop_eq_getElem_cons h, List.find?_cons]
  cases f l[i] <;> rfl
theorem operator_spec (s : Txt) : Calls Tryz.prog fn_word_operator #[.string (S s)] w (fun e w' => e = .returned (.string (S (opOf s))) ∧ Still w w') := by
  refine word_operator_calls _ _ _ ?_
  refine allocK fun w1 r1 s1 z1 => ?_
  have hr : StrsAt w1 (some ⟨w.heap.size, 0, none⟩) opsL.length opsL := StrsAt.row (l := opsL) r1
  refine ⟨fun x w2 => ∃ k : Nat, x = (k : Int) ∧ k ≤ 12 ∧ (opsL.drop k).find? (fun o => pf o s) = opsL.find? (fun o => pf o s) ∧ w2 = w1, fun x _ => 12 - x.toNat, ⟨0, rfl, by omega, rfl, rfl⟩, ?_⟩
  rintro _ _ w2 ⟨k, rfl, hk, hf, rfl⟩
  refine bsel_of (fun hx => ?_) (fun hx => ?_)
  · have hx : k < opsL.length := by have := of_decide_eq_true hx; show k < 12; omega
    have hx' : k < 12 := hx
    obtain ⟨a, ha, hc⟩ := hr.get hx
    obtain rfl := Option.some.inj ha
    rw [find_step hx] at hf
    refine ⟨by omega, by omega, _, by rw [Int.toNat_natCast, Nat.mul_one]; exact hc, (hasPrefix_spec s _).mono ?_⟩
    rintro _ w3 ⟨rfl, rfl⟩
    refine .inl ⟨_, rfl, bsel_of (fun h => ?_) (fun h => ?_)⟩
    · rw [if_pos h] at hf
      unfold opOf
      rw [← hf]
      exact ⟨rfl, s1⟩
    · rw [if_neg (by rw [h]; decide)] at hf
      rw [show IntKind.i64.wrap ((k : Int) + 1) = ((k + 1 : Nat) : Int) by rw [wrap_i64 (by omega) (by omega)]; omega]
      exact ⟨⟨k + 1, rfl, by omega, hf, rfl⟩, by dsimp only; omega⟩
  · have hx : k = 12 := by have := of_decide_eq_false hx; omega
    subst hx
    unfold opOf
    rw [← hf]
    exact ⟨rfl, s1⟩
theorem cutHash_spec (s : Txt) : Calls Tryz.prog fn_strings_CutPrefix #[.string (S s), .string (S [35])] w (fun e w' => e = .returned (.tuple #[.string (S (if s.head? = some 35 then s.drop 1 else s)), .bool (decide (s.head? = some 35))]) ∧ w' = w) := by
  refine strings_CutPrefix_calls _ _ _ _ ?_
  have ep : pf [35] s = decide (s.head? = some 35) := by
    rw [pf_isPrefixOf]
    cases s with
    | nil => rfl
    | cons c r =>
      rw [Bool.eq_iff_iff]
      simp [List.isPrefixOf]
      exact eq_comm
  have h : Calls Tryz.prog fn_internal_stringslite_CutPrefix #[.string (S s), .string (S [35])] w (fun e w' => e = .returned (.tuple #[.string (S (if s.head? = some 35 then s.drop 1 else s)), .bool (decide (s.head? = some 35))]) ∧ w' = w) := by
    refine internal_stringslite_CutPrefix_calls _ _ _ _ ?_
    refine (Tryz.stringslite_HasPrefix (S s) (S [35]) _).mono ?_
    rintro _ w1 ⟨rfl, rfl⟩
    have e2 : Lib.hasPrefix (S s).data.toList (S [35]).data.toList = pf [35] s := (pf_isPrefixOf _ _).symm
    rw [e2, ep]
    refine .inl ⟨_, rfl, bsel_of (fun h => ?_) (fun h => ?_)⟩
    · have h : ¬ s.head? = some 35 := by simpa using h
      rw [if_neg h, decide_eq_false h]
      exact ⟨rfl, rfl⟩
    · have h : s.head? = some 35 := by simpa using h
      rw [if_pos h, decide_eq_true h]
      have hl : 1 ≤ s.length := by
        cases s with
        | nil => cases h
        | cons c r => simp
      exact ⟨by decide, by simp only [List.length_cons, List.length_nil]; omega, rfl, rfl⟩
  refine h.mono ?_
  rintro _ w1 ⟨rfl, rfl⟩
  exact .inl ⟨_, _, rfl, rfl, rfl⟩
theorem ref_begins_spec (s t : Txt) (hs : s.length < 1000000) (ht : t.length < 1000000) : Calls Tryz.prog fn_ref08_begins #[.string (S s), .string (S t)] w (fun e w' => e = .returned (.bool (pf t s)) ∧ w' = w) := by
  refine ref08_begins_calls _ _ _ _ ?_
  unfold pf
  refine bsel_of (fun h => ?_) (fun h => ?_)
  · have h := of_decide_eq_true h
    refine ⟨by omega, by omega, ?_, rfl⟩
    rw [Int.toNat_natCast]
    congr 2
    apply decide_eq_decide.2
    exact ⟨fun e => ⟨by omega, e⟩, fun e => e.2⟩
  · have h := of_decide_eq_false h
    refine ⟨?_, rfl⟩
    rw [decide_eq_false]
    intro e
    omega
def isEnd (c : UInt8) : Bool := c == 32 || c == 9 || c == 10 || c == 59 || c == 124 || c == 38 || c == 40 || c == 41 || c == 60 || c == 62
def endsB : Txt → Bool
  | [] => true
  | c :: _ => isEnd c
theorem lexends_spec {g : Nat} {s : Txt} (h : Scan w g s) : Calls Tryz.prog fn_lexer_scanner_ends #[.pointer (some ⟨g, 0, none⟩)] w (fun e w' => e = .returned (.bool (endsB s)) ∧ w' = w) := by
  refine lexer_scanner_ends_calls _ _ _ ?_
  refine ⟨_, h.cell, bsel_of (fun he => ?_) (fun he => ⟨_, h.cell, by decide, ?_⟩)⟩
  · have he := of_decide_eq_true he
    subst he
    exact ⟨rfl, rfl⟩
  · have he := of_decide_eq_false he
    obtain ⟨b, r, rfl⟩ := List.exists_cons_of_ne_nil he
    refine ⟨b, rfl, (Tryz.strings_IndexByte (S [32, 9, 10, 59, 124, 38, 40, 41, 60, 62]) _ _).mono ?_⟩
    rintro _ w1 ⟨rfl, rfl⟩
    refine .inl ⟨_, rfl, ?_, rfl⟩
    rw [toUInt8_back, show (S [32, 9, 10, 59, 124, 38, 40, 41, 60, 62]).data.toList = [32, 9, 10, 59, 124, 38, 40, 41, 60, 62] from rfl, index_mem]
    congr 2
    simp only [endsB, isEnd, List.contains_cons, List.contains_nil, Bool.or_false, Bool.or_assoc]
def wordL : Nat → Txt → Option Txt
  | 0, _ => none
  | n + 1, s => if endsB s = true then some s else match unitD 30 s with
    | some t => wordL n t
    | none => none
theorem wordL_more : ∀ (n m : Nat) (s : Txt), s.length < n → s.length < m → wordL n s = wordL m s
  | 0, _, _, h, _ => by omega
  | _, 0, _, _, h => by omega
  | n + 1, m + 1, s, hn, hm => by
    rw [wordL, wordL]
    split
    · rfl
    · cases hu : unitD 30 s with
      | none => rfl
      | some t =>
        have := unitD_takes 30 _ _ hu
        exact wordL_more n m t (by omega) (by omega)
def wordD (s : Txt) : Option Txt := wordL (s.length + 1) s
theorem wordD_ends {s : Txt} (h : endsB s = true) : wordD s = some s := by rw [wordD, wordL, if_pos h]
theorem wordD_unit {s t : Txt} (h : endsB s = false) (hu : unitD 30 s = some t) : wordD s = wordD t := by
  have := unitD_takes 30 _ _ hu
  rw [wordD, wordL, if_neg (by rw [h]; decide), hu]
  exact wordL_more _ _ _ (by omega) (by omega)
theorem wordD_none {s : Txt} (h : endsB s = false) (hu : unitD 30 s = none) : wordD s = none := by rw [wordD, wordL, if_neg (by rw [h]; decide), hu]
theorem lexword_spec {g : Nat} {s : Txt} (h : Scan w g s) (hl : s.length < 1000000) : Calls Tryz.prog fn_lexer_scanner_word #[.pointer (some ⟨g, 0, none⟩)] w
    (fun e w' => Only g w w' ∧ match wordD s with
      | some t => e = .returned (.string (S (s.take (s.length - t.length)))) ∧ Scan w' g t ∧ t.length ≤ s.length
      | none => e = .panicked quoteP ∧ ∃ t, Scan w' g t) := by
  refine lexer_scanner_word_calls _ _ _ ?_
  refine ⟨_, h.cell, fun w1 => ∃ s1, Scan w1 g s1 ∧ Only g w w1 ∧ wordD s1 = wordD s ∧ s1.length ≤ s.length, scanLen g, ⟨s, h, Mod.refl _ _, rfl, Nat.le_refl _⟩, ?_⟩
  rintro _ w1 ⟨s1, h1, hm1, he, hle⟩
  rw [← he]
  refine (lexends_spec h1).mono ?_
  rintro _ w2 ⟨rfl, rfl⟩
  refine .inl ⟨_, rfl, bsel_of (fun hne => ?_) (fun hne => ?_)⟩
  · have hne : endsB s1 = false := by simpa using hne
    have hs1 : s1 ≠ [] := by
      rintro rfl
      cases hne
    refine (unit_spec hs1 h1 (by omega)).mono fun e w3 ht => ?_
    obtain ⟨hm3, ht⟩ := ht
    cases hu : unitD 30 s1 with
    | none =>
      rw [hu] at ht
      obtain ⟨rfl, h3⟩ := ht
      refine .inr ⟨_, rfl, hm1.trans hm3, ?_⟩
      rw [wordD_none hne hu]
      exact ⟨rfl, h3⟩
    | some t =>
      rw [hu] at ht
      obtain ⟨rfl, h3⟩ := ht
      have hlt := unitD_takes 30 _ _ hu
      refine .inl ⟨rfl, ⟨t, h3, hm1.trans hm3, (wordD_unit hne hu).symm, by omega⟩, ?_⟩
      rw [h3.len, h1.len]
      exact hlt
  · have hne : endsB s1 = true := by simpa using hne
    have ew : IntKind.i64.wrap ((s.length : Int) - (s1.length : Int)) = ((s.length - s1.length : Nat) : Int) := by rw [wrap_i64 (by omega) (by omega)]; omega
    refine ⟨_, h1.cell, ?_⟩
    rw [ew, Int.toNat_natCast, wordD_ends hne]
    exact ⟨by omega, by omega, hm1, rfl, h1, hle⟩
def opLen : Txt → Nat
  | a :: b :: _ => if a = b ∧ ([38, 124, 59, 62] : Txt).contains a = true then 2 else 1
  | _ => 1
theorem lexop_spec {g : Nat} {s : Txt} (h : Scan w g s) (hs : s ≠ []) : Calls Tryz.prog fn_lexer_scanner_operator #[.pointer (some ⟨g, 0, none⟩)] w
    (fun e w' => Only g w w' ∧ e = .returned (.string (S (s.take (opLen s)))) ∧ Scan w' g (s.drop (opLen s))) := by
  refine lexer_scanner_operator_calls _ _ _ ?_
  have hol : opLen s ≤ s.length ∧ (opLen s = 1 ∨ opLen s = 2) := by
    match s, hs with
    | [a], _ => exact ⟨Nat.le_refl _, .inl rfl⟩
    | a :: b :: r, _ => simp only [opLen]; split <;> simp
  refine ⟨fun n w3 => n = (opLen s : Int) ∧ Scan w3 g s ∧ Only g w w3, ⟨fun x w2 => x = decide (opLen s = 2) ∧ Scan w2 g s ∧ Only g w w2, ⟨fun wq => Scan wq g s, h.drew, _, fun wq hq => hq.cell, bsel_of (fun hl => ?_) (fun hl => ⟨?_, h.drew, (Mod.refl _ _).drew⟩)⟩, ?_⟩, ?_⟩
  · match s, hs, h with
    | a :: b :: r, _, h =>
      refine ⟨_, fun wq hq => hq.cell, by decide, a, rfl, _, fun wq hq => hq.cell, by decide, b, rfl, bsel_of (fun hab => ⟨_, fun wq hq => hq.cell, by decide, a, rfl, (Tryz.strings_IndexByte (S [38, 124, 59, 62]) _ _).mono ?_⟩) (fun hab => ⟨?_, h.drew, (Mod.refl _ _).drew⟩)⟩
      · have hab : a = b := byte_eq.1 (of_decide_eq_true hab)
        rintro _ w1 ⟨rfl, rfl⟩
        refine .inl ⟨_, rfl, ?_, h.drew, (Mod.refl _ _).drew⟩
        rw [toUInt8_back, show (S [38, 124, 59, 62]).data.toList = [38, 124, 59, 62] from rfl, index_mem]
        by_cases hc : ([38, 124, 59, 62] : Txt).contains a = true
        · have ho : opLen (a :: b :: r) = 2 := by simp only [opLen, if_pos (And.intro hab hc)]
          rw [hc, decide_eq_true ho]
        · have ho : opLen (a :: b :: r) = 1 := by simp only [opLen, if_neg (fun h => hc (And.right h))]
          have hc' : ([38, 124, 59, 62] : Txt).contains a = false := by simpa using hc
          rw [hc', decide_eq_false (by omega)]
      · have hab : ¬ a = b := fun e => of_decide_eq_false hab (byte_eq.2 e)
        have ho : opLen (a :: b :: r) = 1 := by simp only [opLen, if_neg (fun h => hab (And.left h))]
        exact (decide_eq_false (by omega)).symm
    | [a], _, h => simp at hl
  · match s, hs with
    | [a], _ => rfl
    | a :: b :: r, _ =>
      have := of_decide_eq_false hl
      simp only [List.length_cons] at this
      omega
  · rintro _ _ w2 ⟨rfl, h2, hm2⟩
    refine bsel_of (fun h => ⟨?_, h2, hm2⟩) (fun h => ⟨?_, h2, hm2⟩)
    · rw [of_decide_eq_true h]; rfl
    · have := of_decide_eq_false h
      rcases hol.2 with e | e
      · rw [e]; rfl
      · exact absurd e this
  · rintro _ _ w3 ⟨rfl, h3, hm3⟩
    refine ⟨_, h3.cell, by omega, by omega, (skip_spec h3 (opLen s)).mono fun e w4 ht => ?_⟩
    rw [if_pos hol.1] at ht
    obtain ⟨hm4, rfl, h4⟩ := ht
    refine .inl ⟨rfl, hm3.trans hm4, ?_, h4⟩
    rw [Int.toNat_natCast]
def lineEnd : Txt → Txt
  | [] => []
  | a :: r => if a = 10 then a :: r else lineEnd r
theorem indexLine : ∀ s : Txt, lineEnd s = (if 0 ≤ Go.Lib.indexByte s 10 then s.drop (Go.Lib.indexByte s 10).toNat else []) ∧ (0 ≤ Go.Lib.indexByte s 10 → Go.Lib.indexByte s 10 < s.length) ∧ -1 ≤ Go.Lib.indexByte s 10
  | [] => ⟨rfl, by decide, by decide⟩
  | a :: r => by
    obtain ⟨h1, h2, h3⟩ := indexLine r
    simp only [Go.Lib.indexByte, lineEnd, beq_iff_eq]
    by_cases ha : a = 10
    · rw [if_pos ha, if_pos ha]
      refine ⟨rfl, fun _ => by simp only [List.length_cons]; omega, by decide⟩
    · rw [if_neg ha, if_neg ha, h1]
      by_cases hr : Go.Lib.indexByte r 10 = -1
      · rw [if_pos hr, hr]
        exact ⟨rfl, fun h => absurd h (by decide), by decide⟩
      · rw [if_neg hr, if_pos (by omega), if_pos (by omega)]
        refine ⟨?_, fun _ => by simp only [List.length_cons]; have := h2 (by omega); omega, by omega⟩
        rw [show (Go.Lib.indexByte r 10 + 1).toNat = (Go.Lib.indexByte r 10).toNat + 1 by omega, List.drop_succ_cons]
theorem lexcomment_spec {g : Nat} {s : Txt} (h : Scan w g s) : Calls Tryz.prog fn_lexer_scanner_comment #[.pointer (some ⟨g, 0, none⟩)] w (fun e w' => Only g w w' ∧ e = .returned (.tuple #[]) ∧ Scan w' g (lineEnd s)) := by
  refine lexer_scanner_comment_calls _ _ _ ?_
  refine ⟨_, h.cell, (Tryz.strings_IndexByte (S s) 10 _).mono ?_⟩
  rintro _ w1 ⟨rfl, rfl⟩
  have hix : Go.Lib.indexByte (S s).data.toList (Int.toNat 10).toUInt8 = Go.Lib.indexByte s 10 := rfl
  rw [hix]
  obtain ⟨i1, i2, i3⟩ := indexLine s
  generalize Go.Lib.indexByte s 10 = ix at i1 i2 i3
  refine .inl ⟨_, rfl, bsel_of (fun h0 => ?_) (fun h0 => ⟨h.wr 0 (by simp), Only.put _, rfl, ?_⟩)⟩
  · have h0 := of_decide_eq_true h0
    obtain ⟨n, rfl⟩ := Int.eq_ofNat_of_zero_le h0
    have i2 := i2 h0
    refine (skip_spec h n).mono fun e w2 ht => ?_
    rw [if_pos (by omega)] at ht
    obtain ⟨hm2, rfl, h2⟩ := ht
    rw [if_pos h0, Int.toNat_natCast] at i1
    rw [i1]
    exact .inl ⟨rfl, hm2, rfl, h2⟩
  · have h0 := of_decide_eq_false h0
    rw [if_neg h0] at i1
    rw [i1]
    exact h.put _
end Go.Proofs.YtcoeiiihmpnagaaGreatDoor
namespace Go.Proofs.YtcoeiiihmpnagaaGreatDoor
open Go.RowKit Vc
theorem tokens_idle (p q : Addr) (w : World) :
    CallsD Tryz.prog 20 #[.pointer (some p), .pointer (some q)] .returning w fun e u' w' => e = .returned (.tuple #[]) ∧ u' = .returning ∧ w' = w := by
  refine callsD_of_wpS Tryz.func20 rfl fun c₀ cs hu => ?_
  apply wpS_seq
  apply wpS_region
  simp [wpOpsS, go_sem, recoverD, hu, Tryz.ntmps20, Exit.thenS]
  apply wpS_seq
  apply wpS_region
  simp [wpOpsS, go_sem, Tryz.ntmps20, Exit.thenS]
  refine wpS_cond (t := false) (by simp [Act.eval, Array.replicate]) ?_
  simp only [Bool.false_eq_true, if_false]
  refine wpS_of_wp (wp_skip ?_)
  cases c₀
  simp_all [bodyPostS, results, Tryz.results20]
theorem tokens_panics (p q : Addr) (n : Int) (w : World) (hp : Wr w p) (hq : Wr (w.drew.setCell p (.slice none 0 0)) q) :
    CallsD Tryz.prog 20 #[.pointer (some p), .pointer (some q)] (.panicking [{ v := .iface 32 (.int .i64 n), recovered := false }]) w fun e u' w' => e = .returned (.tuple #[]) ∧ settle u' = .returning ∧ w' = (w.drew.setCell p (.slice none 0 0)).setCell q (.int .i64 n) := by
  refine callsD_of_wpS Tryz.func20 rfl fun c₀ cs hu => ?_
  apply wpS_seq
  apply wpS_region
  simp [wpOpsS, go_sem, recoverD, hu, Tryz.ntmps20, Exit.thenS]
  apply wpS_seq
  apply wpS_region
  simp [wpOpsS, go_sem, Tryz.ntmps20, Exit.thenS]
  refine wpS_cond (t := true) (by simp [Act.eval, Array.replicate]) ?_
  simp only [if_true]
  refine wpS_of_wp ?_
  have et : (#[Value.pointer (some p), Value.pointer (some q)] ++ ((((Array.replicate 6 undef).setIfInBounds 1 (Value.iface 32 (Value.int IntKind.i64 n))).setIfInBounds 0 (Value.iface 32 (Value.int IntKind.i64 n))).setIfInBounds 2 (Value.iface 32 (Value.int IntKind.i64 n))).setIfInBounds 3 (Value.bool true)) =
      ⟨[.pointer (some p), .pointer (some q), .iface 32 (.int .i64 n), .iface 32 (.int .i64 n), .iface 32 (.int .i64 n), .bool true, undef, undef]⟩ := by rfl
  rw [et]
  refine drawn_sound (P := Tryz.prog) (m := .held) (ds := []) (l := [.pointer (some p), .pointer (some q), .iface 32 (.int .i64 n), .iface 32 (.int .i64 n), .iface 32 (.int .i64 n), .bool true, undef, undef]) (K := fun l' w' => w' = (w.drew.setCell p (.slice none 0 0)).setCell q (.int .i64 n)) (E := fun _ _ => False) (Eq.mp (α := ∃ Sw : World → Prop, Sw w.drew ∧ (Wr w.drew p ∧ Wr (w.drew.setCell p (.slice none 0 0)) q ∧ (w.drew.setCell p (.slice none 0 0)).setCell q (.int .i64 n) = (w.drew.setCell p (.slice none 0 0)).setCell q (.int .i64 n)) ∧ (Wr w.drew p ∧ Wr (w.drew.setCell p (.slice none 0 0)) q ∧ (w.drew.setCell p (.slice none 0 0)).setCell q (.int .i64 n) = (w.drew.setCell p (.slice none 0 0)).setCell q (.int .i64 n))) (by kernel_rfl) ⟨fun _ => True, trivial, ⟨hp, hq, rfl⟩, hp, hq, rfl⟩) ?_ ?_
  · rintro l' w' _ rfl
    cases c₀
    simp_all [bodyPostS, results, Tryz.results20, act, settle]
    rfl
  · intro l' c w' _ h
    exact h.elim
end Go.Proofs.YtcoeiiihmpnagaaGreatDoor
namespace Go.Proofs.YtcoeiiihmpnagaaGreatDoor
open Go.RowKit Vc
variable {w : World}
abbrev Tok := Nat × Txt
theorem lineEnd_length : ∀ s : Txt, (lineEnd s).length ≤ s.length
  | [] => Nat.le_refl _
  | a :: r => by
    simp only [lineEnd]
    split
    · exact Nat.le_refl _
    · have := lineEnd_length r
      simp only [List.length_cons]
      omega
theorem wordL_length : ∀ (n : Nat) (s t : Txt), wordL n s = some t → t.length ≤ s.length
  | 0, _, _, h => by cases h
  | n + 1, s, t, h => by
    rw [wordL] at h
    split at h
    · obtain rfl := Option.some.inj h; exact Nat.le_refl _
    · split at h
      · rename_i t' ht
        have h1 := unitD_takes 30 _ _ ht
        have h2 := wordL_length n _ _ h
        omega
      · cases h
theorem wordD_length {s t : Txt} (he : endsB s = false) (h : wordD s = some t) : t.length < s.length := by
  cases hu : unitD 30 s with
  | none => rw [wordD_none he hu] at h; cases h
  | some t' =>
    rw [wordD_unit he hu] at h
    have h1 := unitD_takes 30 _ _ hu
    have h2 := wordL_length _ _ _ h
    omega
theorem opLen_le {a : UInt8} {r : Txt} : 0 < opLen (a :: r) ∧ opLen (a :: r) ≤ (a :: r).length := by
  cases r with
  | nil => exact ⟨Nat.one_pos, Nat.le_refl _⟩
  | cons b r => simp only [opLen]; split <;> simp
def tokOne (a : UInt8) (r : Txt) : Option (List Tok × Txt) :=
  if a = 32 ∨ a = 9 then some ([], r)
  else if a = 35 then some ([], lineEnd r)
  else if a = 10 then some ([(2, [10])], r)
  else if isEnd a = true then some ([(1, (a :: r).take (opLen (a :: r)))], (a :: r).drop (opLen (a :: r)))
  else match wordD (a :: r) with
    | some t => some ([(0, (a :: r).take ((a :: r).length - t.length))], t)
    | none => none
def tokL : Nat → Txt → Option (List Tok)
  | 0, _ => none
  | _ + 1, [] => some []
  | n + 1, a :: r => match tokOne a r with
    | some (l, t) => match tokL n t with
      | some m => some (l ++ m)
      | none => none
    | none => none
def toks (s : Txt) : Option (List Tok) := tokL (s.length + 1) s
theorem tokOne_length {a : UInt8} {r t : Txt} {l : List Tok} (h : tokOne a r = some (l, t)) : t.length ≤ r.length ∧ l.length ≤ 1 := by
  unfold tokOne at h
  split at h
  · obtain ⟨rfl, rfl⟩ := Prod.mk.injEq .. ▸ Option.some.inj h
    exact ⟨Nat.le_refl _, by simp⟩
  · split at h
    · obtain ⟨rfl, rfl⟩ := Prod.mk.injEq .. ▸ Option.some.inj h
      exact ⟨lineEnd_length r, by simp⟩
    · split at h
      · obtain ⟨rfl, rfl⟩ := Prod.mk.injEq .. ▸ Option.some.inj h
        exact ⟨Nat.le_refl _, by simp⟩
      · split at h
        · obtain ⟨rfl, rfl⟩ := Prod.mk.injEq .. ▸ Option.some.inj h
          have := opLen_le (a := a) (r := r)
          refine ⟨?_, by simp⟩
          rw [List.length_drop]
          simp only [List.length_cons] at this ⊢
          omega
        · rename_i he
          split at h
          · rename_i t' ht
            obtain ⟨rfl, rfl⟩ := Prod.mk.injEq .. ▸ Option.some.inj h
            have := wordD_length (s := a :: r) (by simpa [endsB] using he) ht
            simp only [List.length_cons] at this
            exact ⟨by omega, by simp⟩
          · cases h
theorem tokL_more : ∀ (n m : Nat) (s : Txt), s.length < n → s.length < m → tokL n s = tokL m s
  | 0, _, _, h, _ => by omega
  | _, 0, _, _, h => by omega
  | n + 1, m + 1, [], _, _ => rfl
  | n + 1, m + 1, a :: r, hn, hm => by
    simp only [List.length_cons] at hn hm
    simp only [tokL]
    cases h : tokOne a r with
    | none => rfl
    | some x =>
      obtain ⟨l, t⟩ := x
      have := (tokOne_length h).1
      dsimp only
      rw [tokL_more n m t (by omega) (by omega)]
theorem toks_nil : toks [] = some [] := rfl
theorem toks_cons (a : UInt8) (r : Txt) : toks (a :: r) = (tokOne a r).bind fun x => (toks x.2).map (x.1 ++ ·) := by
  show tokL (r.length + 1 + 1) (a :: r) = _
  simp only [tokL]
  cases h : tokOne a r with
  | none => rfl
  | some x =>
    obtain ⟨l, t⟩ := x
    have := (tokOne_length h).1
    dsimp only [Option.bind]
    rw [tokL_more (r.length + 1) (t.length + 1) t (by omega) (by omega)]
    show _ = (tokL (t.length + 1) t).map _
    cases tokL (t.length + 1) t <;> rfl
def tc (l : List Tok) : List Value := l.flatMap fun x => [.int .i64 (x.1 : Int), .string (S x.2)]
theorem tc_append (l m : List Tok) : tc (l ++ m) = tc l ++ tc m := by simp [tc]
def tokRes (s : Txt) : List Tok × Int := if 20000 < s.length then ([], 2) else match toks s with
  | some l => (l, 0)
  | none => ([], 80)
structure TS (w w1 : World) (s s1 : Txt) (acc : List Tok) : Prop where
  sc : Scan w1 (w.heap.size + 2) s1
  li : ∃ p C, Row w1 w.heap.size 39 ⟨[.slice p acc.length C]⟩ ∧ Owns w1 (w.heap.size + 3) 64 2 (.slice p acc.length C) acc.length (tc acc)
  er : Row w1 (w.heap.size + 1) 32 ⟨[.int .i64 0]⟩
  still : Still w w1
  size : w.heap.size + 3 ≤ w1.heap.size
  all : (toks s1).map (acc ++ ·) = toks s
  few : acc.length + s1.length ≤ s.length
theorem two_one {k : Int} {t : Txt} : ∀ u ∈ [Value.int .i64 k, .string (S t)], u.oneCell' = true := by
  intro u hu
  simp only [List.mem_cons, List.not_mem_nil, or_false] at hu
  rcases hu with rfl | rfl <;> rfl
theorem pair_src (w : World) (t : TypeId) (x y : Value) : 0 < 1 → ∃ a : Addr, (some (Addr.mk w.heap.size 0 none)) = some a ∧ ∀ (j : Nat) (u : Value), [x, y][j]? = some u → (w.alloc (.cells #[x, y] t)).cell? (a.add j) = some u := by
  refine fun _ => ⟨_, rfl, fun j u hu => ?_⟩
  rw [add_row, Nat.zero_add]
  exact (Row.new w t ⟨[x, y]⟩).cellv (by simpa using hu)
theorem TS.pushed {w w1 w2 w3 : World} {s s1 t : Txt} {acc : List Tok} {k : Nat} {x : Txt} {p p3 : Option Addr} {C C3 : Nat} (h : TS w w1 s s1 acc) (hm : Only (w.heap.size + 2) w1 w2) (hsc : Scan w2 (w.heap.size + 2) t)
    (ho : Owns w2 (w.heap.size + 3) 64 2 (.slice p acc.length C) acc.length (tc acc)) (hl : Row w2 w.heap.size 39 ⟨[.slice p acc.length C]⟩)
    (ho3 : Owns w3 0 64 2 (Value.slice p3 (acc.length + 1) C3) (acc.length + 1) (tc acc ++ [.int .i64 (k : Int), .string (S x)])) {o : Obj} (hg : (w2.alloc o).grownBy w3 (Value.ownBlock (Value.slice p acc.length C)))
    (hb : Blk p p3 (acc.length + 1) C C3 (w2.alloc o).heap.size)
    (hall : (toks t).map ((acc ++ [(k, x)]) ++ ·) = toks s) (hfew : acc.length + 1 + t.length ≤ s.length) :
    Wr w3 ⟨w.heap.size, 0, none⟩ ∧ TS w (w3.setCell ⟨w.heap.size, 0, none⟩ (.slice p3 (acc.length + 1) C3)) s t (acc ++ [(k, x)]) := by
  have hs1 := h.size
  have hs2 : w.heap.size + 3 ≤ w2.heap.size := Nat.le_trans hs1 hm.size
  have hst2 : Still w w2 := Mod.trans h.still hm (fun _ h => h) (fun i hi h => by omega)
  have ho3' := ho.pushed hs2 ho3 hb
  have hl3 := hl.pushed ho (Nat.lt_of_lt_of_le (by omega) (Nat.le_refl _)) hg
  have hsc3 := hsc.pushed ho (by omega) hg
  have her2 := h.er.mod hm (by omega)
  have her3 := her2.pushed ho (by omega) hg
  have hst3 : Still w w3 := hst2.pushed ho (by omega) hg
  have hown : ∀ j, (Value.slice p3 (acc.length + 1) C3).ownBlock = some j → w.heap.size + 3 ≤ j := fun j hj => (ho3'.lt j hj).1
  refine ⟨hl3.wr 0 (by simp), ?_⟩
  refine ⟨hsc3.far (by simp) _, ⟨p3, C3, ?_, ?_⟩, her3.far (by simp) _, hst3.setCell (.inr (Nat.le_refl _)) _, ?_, hall, by simp; omega⟩
  · have := hl3.setl 0 (.slice p3 (acc.length + 1) C3)
    simpa using this
  · have := ho3'.far (p := ⟨w.heap.size, 0, none⟩) (fun e => by have := hown _ e; dsimp only at this; omega) (.slice p3 (acc.length + 1) C3)
    rw [tc_append]
    simpa [tc] using this
  · have h1 := hg.size
    simp only [World.size_alloc, World.size_setCell] at h1 ⊢
    omega
theorem fails {w w3 : World} {s : Txt} {R : Ending → World → Prop} (h20 : ¬ 20000 < s.length) (hno : toks s = none) (hst : Still w w3) {x : Value} (hl : Row w3 w.heap.size 39 ⟨[x]⟩) {y : Value} (he : Row w3 (w.heap.size + 1) 32 ⟨[y]⟩)
    (hR : ∀ w', Still w w' → R (.returned (.tuple #[.slice none 0 0, .int .i64 80])) w') :
    CallsD Tryz.prog fn_lexer_Tokens_1 #[(.pointer (some (Addr.mk w.heap.size 0 none))), (.pointer (some (Addr.mk (w.heap.size + 1) 0 none)))] (.panicking quoteP) w3 (fun ed1 ux w4 => (∃ rv, ed1 = .returned rv) ∧ settle ux = .returning ∧ ∃ (v4 : Option Addr) (vL1 vC1 : Nat), w4.cell? (Addr.mk w.heap.size 0 none) = some (.slice v4 vL1 vC1) ∧ ∃ v5 : Int, w4.cell? (Addr.mk (w.heap.size + 1) 0 none) = some (.int .i64 v5) ∧ R (.returned (.tuple #[(.slice v4 vL1 vC1), (.int .i64 v5)])) w4) := by
  have hne : w.heap.size ≠ w.heap.size + 1 := by omega
  have he2 := he.drew.far (p := ⟨w.heap.size, 0, none⟩) hne.symm (.slice none 0 0)
  have hl2 := hl.drew.setl 0 (.slice none 0 0)
  refine (tokens_panics ⟨w.heap.size, 0, none⟩ ⟨w.heap.size + 1, 0, none⟩ 80 w3 (hl.wr 0 (by simp)) (he2.wr 0 (by simp))).mono ?_
  rintro _ u w4 ⟨rfl, hu, rfl⟩
  have hl3 := hl2.far (p := ⟨w.heap.size + 1, 0, none⟩) hne (.int .i64 80)
  have he3 := he2.setl 0 (.int .i64 80)
  refine ⟨⟨_, rfl⟩, hu, _, _, _, hl3.cellv rfl, _, he3.cellv rfl, hR _ ?_⟩
  exact (hst.drew.setCell (.inr (Nat.le_refl _)) _).setCell (.inr (Nat.le_succ _)) _
set_option maxHeartbeats 2000000 in
theorem tokens_spec (s : Txt) : Calls Tryz.prog fn_lexer_Tokens #[.string (S s)] w
    (fun e w' => ∃ p C, e = .returned (.tuple #[.slice p (tokRes s).1.length C, .int .i64 (tokRes s).2]) ∧ Owns w' w.heap.size 64 2 (.slice p (tokRes s).1.length C) (tokRes s).1.length (tc (tokRes s).1) ∧ Still w w') := by
  refine lexer_Tokens_calls _ _ _ ?_
  have hl0 : Row (w.alloc (.cells #[(.slice none 0 0)] 39)) w.heap.size 39 ⟨[.slice none 0 0]⟩ := Row.new _ _ _
  have s1 : (w.alloc (.cells #[(.slice none 0 0)] 39)).heap.size = w.heap.size + 1 := World.size_alloc ..
  have he0 : Row ((w.alloc (.cells #[(.slice none 0 0)] 39)).alloc (.cells #[(.int .i64 0)] 32)) (w.heap.size + 1) 32 ⟨[.int .i64 0]⟩ := by
    have := Row.new (w.alloc (.cells #[(.slice none 0 0)] 39)) 32 ⟨[.int .i64 0]⟩
    rwa [s1] at this
  have s2 : ((w.alloc (.cells #[(.slice none 0 0)] 39)).alloc (.cells #[(.int .i64 0)] 32)).heap.size = w.heap.size + 2 := by rw [World.size_alloc, s1]
  have hl1 := hl0.alloc (.cells #[(.int .i64 0)] 32)
  have hst : Still w ((w.alloc (.cells #[(.slice none 0 0)] 39)).alloc (.cells #[(.int .i64 0)] 32)) := ((Mod.refl _ _).alloc _).alloc _
  have hne : w.heap.size ≠ w.heap.size + 1 := by omega
  unfold vc_lexer_Tokens
  rw [s1, s2]
  generalize (w.alloc (.cells #[(.slice none 0 0)] 39)).alloc (.cells #[(.int .i64 0)] 32) = w0 at he0 s2 hl1 hst ⊢
  refine bsel_of (fun h20 => ?_) (fun h20 => ?_)
  · have h20 := of_decide_eq_true h20
    have hres : tokRes s = ([], 2) := by unfold tokRes; rw [if_pos (by omega)]
    rw [hres]
    have he2 := he0.far (p := ⟨w.heap.size, 0, none⟩) hne.symm (.slice none 0 0)
    have hl2 := (hl1.setl 0 (.slice none 0 0)).far (p := ⟨w.heap.size + 1, 0, none⟩) hne (.int .i64 2)
    refine ⟨hl1.wr 0 (by simp), he2.wr 0 (by simp), _, _, _, hl2.cellv rfl, _, (he2.setl 0 (.int .i64 2)).cellv rfl, none, 0, rfl, Owns.nil _ _ _ _, ?_⟩
    exact (hst.setCell (.inr (Nat.le_refl _)) _).setCell (.inr (Nat.le_succ _)) _
  have h20 : ¬ 20000 < s.length := by have := of_decide_eq_false h20; omega
  have hsc0 : Scan (w0.alloc (.cells #[(.string (S s))] 61)) (w.heap.size + 2) s := by
    have := Row.new w0 61 ⟨[.string (S s)]⟩
    rwa [s2] at this
  refine ⟨fun w1 => ∃ s1 acc, TS w w1 s s1 acc, scanLen (w.heap.size + 2), ⟨s, [], hsc0, ⟨none, 0, hl1.alloc _, Owns.nil _ _ _ _⟩, he0.alloc _, hst.alloc _, by rw [World.size_alloc, s2]; exact Nat.le_refl _, by simp, by simp⟩, ?_⟩
  rintro _ w1 ⟨s1, acc, h⟩
  have hst1 := h.still
  have hfew := h.few
  have hown := h.li
  obtain ⟨p, C, hli, ho⟩ := hown
  refine ⟨s1, h.sc.cell, bsel_of (fun hne1 => ?_) (fun hne1 => ?_)⟩
  · have hne1 : s1 ≠ [] := by simpa using hne1
    obtain ⟨a, r, rfl⟩ := List.exists_cons_of_ne_nil hne1
    simp only [List.length_cons] at hfew
    have hall := h.all
    rw [toks_cons] at hall
    have hlen1 : scanLen (w.heap.size + 2) w1 = r.length + 1 := by rw [h.sc.len]; rfl
    rw [hlen1]
    -- nothing is told here
    have quiet : ∀ (t : Txt) (w3 : World), t.length ≤ r.length → tokOne a r = some ([], t) → Only (w.heap.size + 2) w1 w3 → Scan w3 (w.heap.size + 2) t → (∃ s1 acc, TS w w3 s s1 acc) ∧ scanLen (w.heap.size + 2) w3 < r.length + 1 := by
      intro t w3 ht hone hm hsc
      refine ⟨⟨t, acc, hsc, ⟨p, C, hli.mod hm (by omega), ho.mod hm (fun k hk => by have := (ho.lt k hk).1; omega)⟩, h.er.mod hm (by omega), Mod.trans hst1 hm (fun _ h => h) (fun i hi h => by omega), Nat.le_trans h.size hm.size, ?_, by omega⟩, by rw [hsc.len]; omega⟩
      rw [hone] at hall
      simpa using hall
    -- a token is told here
    have told : ∀ (k : Nat) (x t : Txt), tokOne a r = some ([(k, x)], t) → (toks t).map ((acc ++ [(k, x)]) ++ ·) = toks s := by
      intro k x t hone
      rw [hone] at hall
      have h2 : (toks t).map ((acc ++ [(k, x)]) ++ ·) = Option.map (fun y => acc ++ y) (Option.map (fun y => [(k, x)] ++ y) (toks t)) := by
        cases toks t <;> simp
      rw [h2]
      exact hall
    refine ⟨_, h.sc.cell, by decide, a, rfl, fun x w2 => x = decide (a = 32 ∨ a = 9) ∧ w2 = w1, bsel_of (fun h32 => ⟨?_, rfl⟩) (fun h32 => ⟨?_, rfl⟩), ?_⟩
    · have h32 : a = 32 := byte_eq.1 (of_decide_eq_true h32)
      rw [decide_eq_true (.inl h32)]
    · have h32 : ¬ a = 32 := fun e => of_decide_eq_false h32 (byte_eq.2 e)
      apply decide_eq_decide.2
      exact ⟨fun h => .inr (byte_eq.1 h), fun h => h.elim (fun h => absurd h h32) (fun h => byte_eq.2 h)⟩
    rintro _ _ w2 ⟨rfl, rfl⟩
    refine bsel_of (fun hbl => ?_) (fun hbl => bsel_of (fun h35 => ?_) (fun h35 => bsel_of (fun h10 => ?_) (fun h10 => ?_)))
    · have hbl := of_decide_eq_true hbl
      refine (skip_spec h.sc 1).mono fun e w3 ht => ?_
      rw [if_pos (by simp)] at ht
      obtain ⟨hm3, rfl, h3⟩ := ht
      exact .inl ⟨rfl, quiet r w3 (Nat.le_refl _) (by unfold tokOne; rw [if_pos hbl]) hm3 h3⟩
    · have hbl := of_decide_eq_false hbl
      have h35 : a = 35 := byte_eq.1 (of_decide_eq_true h35)
      refine (lexcomment_spec h.sc).mono ?_
      rintro _ w3 ⟨hm3, rfl, h3⟩
      have hle : lineEnd (a :: r) = lineEnd r := by
        rw [h35]
        rfl
      rw [hle] at h3
      exact .inl ⟨rfl, quiet (lineEnd r) w3 (lineEnd_length r) (by unfold tokOne; rw [if_neg hbl, if_pos h35]) hm3 h3⟩
    · have hbl := of_decide_eq_false hbl
      have h35 : ¬ a = 35 := fun e => of_decide_eq_false h35 (byte_eq.2 e)
      have h10 : a = 10 := byte_eq.1 (of_decide_eq_true h10)
      refine (skip_spec h.sc 1).mono fun e w3 ht => ?_
      rw [if_pos (by simp)] at ht
      obtain ⟨hm3, rfl, h3⟩ := ht
      have hl3 := hli.mod hm3 (by omega)
      have ho3 := ho.mod hm3 (fun k hk => by have := (ho.lt k hk).1; omega)
      refine .inl ⟨rfl, _, _, _, hl3.cellv rfl, tc acc, [.int .i64 2, .string (S [10])], (ho3.alloc _).base0, rfl, two_one, pair_src _ _ _ _, by omega, by omega, fun p3 C3 w4 ho4 hg4 hb4 => ?_⟩
      obtain ⟨hwr, hts⟩ := h.pushed (k := 2) (x := [10]) (t := r) hm3 h3 ho3 hl3 ho4 hg4 hb4 (told 2 [10] r (by unfold tokOne; rw [if_neg hbl, if_neg h35, if_pos h10])) (by omega)
      refine ⟨hwr, ⟨_, _, hts⟩, ?_⟩
      rw [hts.sc.len]
      omega
    · have hbl := of_decide_eq_false hbl
      have h35 : ¬ a = 35 := fun e => of_decide_eq_false h35 (byte_eq.2 e)
      have h10 : ¬ a = 10 := fun e => of_decide_eq_false h10 (byte_eq.2 e)
      refine (lexends_spec h.sc).mono ?_
      rintro _ w3 ⟨rfl, rfl⟩
      refine .inl ⟨_, rfl, bsel_of (fun hend => ?_) (fun hend => ?_)⟩
      · have hend : isEnd a = true := hend
        refine ⟨fun wq => Row wq w.heap.size 39 ⟨[.slice p acc.length C]⟩, hli.drew, _, _, _, fun wq hq => hq.cellv rfl, (lexop_spec h.sc.drew (List.cons_ne_nil _ _)).mono ?_⟩
        rintro _ w4 ⟨hm4, rfl, h4⟩
        have hm4' : Only (w.heap.size + 2) w3 w4 := Mod.trans (Mod.refl (fun i => i = w.heap.size + 2) w3).drew hm4 (fun _ h => h) (fun _ _ h => h)
        have hl4 := hli.mod hm4' (by omega)
        have ho4 := ho.mod hm4' (fun k hk => by have := (ho.lt k hk).1; omega)
        have hol := opLen_le (a := a) (r := r)
        refine .inl ⟨_, rfl, hl4, hl4.alloc _, tc acc, [.int .i64 1, .string (S ((a :: r).take (opLen (a :: r))))], (ho4.alloc _).base0, rfl, two_one, pair_src _ _ _ _, by omega, by omega, fun p3 C3 w5 ho5 hg5 hb5 => ?_⟩
        have hdl : ((a :: r).drop (opLen (a :: r))).length + opLen (a :: r) = r.length + 1 := by
          rw [List.length_drop]
          simp only [List.length_cons] at hol ⊢
          omega
        obtain ⟨hwr, hts⟩ := h.pushed (k := 1) (x := (a :: r).take (opLen (a :: r))) (t := (a :: r).drop (opLen (a :: r))) hm4' h4 ho4 hl4 ho5 hg5 hb5 (told 1 _ _ (by unfold tokOne; rw [if_neg hbl, if_neg h35, if_neg h10, if_pos hend])) (by omega)
        refine ⟨hwr, ⟨_, _, hts⟩, ?_⟩
        rw [hts.sc.len]
        omega
      · have hend : isEnd a = false := hend
        refine ⟨fun wq => Row wq w.heap.size 39 ⟨[.slice p acc.length C]⟩, hli.drew, _, _, _, fun wq hq => hq.cellv rfl, (lexword_spec h.sc.drew (by simp only [List.length_cons]; omega)).mono ?_⟩
        rintro e w4 ⟨hm4, hw⟩
        have hm4' : Only (w.heap.size + 2) w3 w4 := Mod.trans (Mod.refl (fun i => i = w.heap.size + 2) w3).drew hm4 (fun _ h => h) (fun _ _ h => h)
        have hl4 := hli.mod hm4' (by omega)
        have ho4 := ho.mod hm4' (fun k hk => by have := (ho.lt k hk).1; omega)
        have he4 := h.er.mod hm4' (by omega)
        have hst4 : Still w w4 := Mod.trans hst1 hm4' (fun _ h => h) (fun i hi h => by omega)
        have hone : tokOne a r = match wordD (a :: r) with
          | some t => some ([(0, (a :: r).take ((a :: r).length - t.length))], t)
          | none => none := by
          unfold tokOne
          rw [if_neg hbl, if_neg h35, if_neg h10, if_neg (by rw [hend]; decide)]
        cases hwd : wordD (a :: r) with
        | none =>
          rw [hwd] at hw hone
          obtain ⟨rfl, _⟩ := hw
          rw [hone] at hall
          have hno : toks s = none := by rw [← hall]; rfl
          have hres : tokRes s = ([], 80) := by unfold tokRes; rw [if_neg h20, hno]
          rw [hres]
          refine .inr ⟨_, rfl, fails (R := fun e w' => ∃ p C, e = .returned (.tuple #[.slice p (([], 80) : List Tok × Int).1.length C, .int .i64 (([], 80) : List Tok × Int).2]) ∧ Owns w' w.heap.size 64 2 (.slice p (([], 80) : List Tok × Int).1.length C) (([], 80) : List Tok × Int).1.length (tc (([], 80) : List Tok × Int).1) ∧ Still w w') h20 hno hst4 hl4 he4 fun w' h' => ⟨none, 0, rfl, Owns.nil _ _ _ _, h'⟩⟩
        | some t =>
          rw [hwd] at hw hone
          obtain ⟨rfl, h4, _⟩ := hw
          have htl := wordD_length (s := a :: r) (by simpa [endsB] using hend) hwd
          simp only [List.length_cons] at htl
          refine .inl ⟨_, rfl, hl4, hl4.alloc _, tc acc, [.int .i64 0, .string (S ((a :: r).take ((a :: r).length - t.length)))], (ho4.alloc _).base0, rfl, two_one, pair_src _ _ _ _, by omega, by omega, fun p3 C3 w5 ho5 hg5 hb5 => ?_⟩
          obtain ⟨hwr, hts⟩ := h.pushed (k := 0) (x := (a :: r).take ((a :: r).length - t.length)) (t := t) hm4' h4 ho4 hl4 ho5 hg5 hb5 (told 0 _ _ hone) (by omega)
          refine ⟨hwr, ⟨_, _, hts⟩, ?_⟩
          rw [hts.sc.len]
          omega
  · have hne1 : s1 = [] := by simpa using hne1
    subst hne1
    have hall : toks s = some acc := by rw [← h.all]; simp [toks_nil]
    have hres : tokRes s = (acc, 0) := by unfold tokRes; rw [if_neg h20, hall]
    rw [hres]
    have hl2 := hli.setl 0 (.slice p acc.length C)
    have he2 := h.er.far (p := ⟨w.heap.size, 0, none⟩) hne.symm (.slice p acc.length C)
    have hown : ∀ k, (Value.slice p acc.length C).ownBlock = some k → w.heap.size + 3 ≤ k := fun k hk => (ho.lt k hk).1
    refine ⟨p, acc.length, C, hli.cellv rfl, hli.wr 0 (by simp), he2.wr 0 (by simp), (tokens_idle _ _ _).mono ?_⟩
    rintro _ u w4 ⟨rfl, rfl, rfl⟩
    have hl3 := hl2.far (p := ⟨w.heap.size + 1, 0, none⟩) hne (.int .i64 0)
    refine ⟨⟨_, rfl⟩, rfl, p, acc.length, C, hl3.cellv rfl, 0, (he2.setl 0 (.int .i64 0)).cellv rfl, p, C, rfl, ?_, (hst1.setCell (.inr (Nat.le_refl _)) _).setCell (.inr (Nat.le_succ _)) _⟩
    have o1 := ho.far (p := ⟨w.heap.size, 0, none⟩) (fun e => by have := hown _ e; dsimp only at this; omega) (.slice p acc.length C)
    have o2 := o1.far (p := ⟨w.heap.size + 1, 0, none⟩) (fun e => by have := hown _ e; dsimp only at this; omega) (.int .i64 0)
    exact o2.base (fun k hk => by have := hown k hk; omega)
end Go.Proofs.YtcoeiiihmpnagaaGreatDoor
namespace Go.Proofs.YtcoeiiihmpnagaaGreatDoor
open Go.RowKit Vc
theorem wordL_ends : ∀ n, Ends (wordL n)
  | 0 => fun s t h => by cases h
  | n + 1 => by
    intro s t h
    rw [wordL] at h
    split at h
    · obtain rfl := Option.some.inj h; exact List.suffix_refl _
    · split at h
      · rename_i x hx
        exact (wordL_ends n _ _ h).trans (unitD_ends 30 _ _ hx)
      · cases h
theorem tokOne_view {a : UInt8} {r t : Txt} {l : List Tok} (h : tokOne a r = some (l, t)) :
    ((a = 32 ∨ a = 9) ∧ l = [] ∧ t = r) ∨ (a = 35 ∧ l = [] ∧ t = lineEnd r) ∨ (a = 10 ∧ l = [(2, [10])] ∧ t = r) ∨
    ((¬ (a = 32 ∨ a = 9) ∧ ¬ a = 35 ∧ ¬ a = 10) ∧ isEnd a = true ∧ l = [(1, (a :: r).take (opLen (a :: r)))] ∧ t = (a :: r).drop (opLen (a :: r))) ∨
    ((¬ (a = 32 ∨ a = 9) ∧ ¬ a = 35 ∧ ¬ a = 10) ∧ isEnd a = false ∧ ∃ p, p ≠ [] ∧ a :: r = p ++ t ∧ wordD (p ++ t) = some t ∧ l = [(0, p)]) := by
  unfold tokOne at h
  by_cases h1 : a = 32 ∨ a = 9
  · rw [if_pos h1] at h
    obtain ⟨rfl, rfl⟩ := Prod.mk.injEq .. ▸ Option.some.inj h
    exact .inl ⟨h1, rfl, rfl⟩
  rw [if_neg h1] at h
  by_cases h2 : a = 35
  · rw [if_pos h2] at h
    obtain ⟨rfl, rfl⟩ := Prod.mk.injEq .. ▸ Option.some.inj h
    exact .inr (.inl ⟨h2, rfl, rfl⟩)
  rw [if_neg h2] at h
  by_cases h3 : a = 10
  · rw [if_pos h3] at h
    obtain ⟨rfl, rfl⟩ := Prod.mk.injEq .. ▸ Option.some.inj h
    exact .inr (.inr (.inl ⟨h3, rfl, rfl⟩))
  rw [if_neg h3] at h
  by_cases h4 : isEnd a = true
  · rw [if_pos h4] at h
    obtain ⟨rfl, rfl⟩ := Prod.mk.injEq .. ▸ Option.some.inj h
    exact .inr (.inr (.inr (.inl ⟨⟨h1, h2, h3⟩, h4, rfl, rfl⟩)))
  rw [if_neg h4] at h
  have h4 : isEnd a = false := by simpa using h4
  refine .inr (.inr (.inr (.inr ⟨⟨h1, h2, h3⟩, h4, ?_⟩)))
  split at h
  · rename_i t' ht
    obtain ⟨rfl, rfl⟩ := Prod.mk.injEq .. ▸ Option.some.inj h
    obtain ⟨p, hp⟩ := wordL_ends _ _ _ ht
    have hlen := wordD_length (s := a :: r) h4 ht
    refine ⟨p, ?_, hp.symm, by rw [hp]; exact ht, ?_⟩
    · rintro rfl
      rw [← hp] at hlen
      simp at hlen
    · rw [← hp]
      simp
  · cases h
theorem map_nil (o : Option (List Tok)) : o.map (([] : List Tok) ++ ·) = o := by
  cases o <;> simp
end Go.Proofs.YtcoeiiihmpnagaaGreatDoor
namespace Go.Proofs.YtcoeiiihmpnagaaGreatDoor
open Go.RowKit Vc
variable {w : World}
theorem add_block (a : Addr) (i : Nat) : (a.add i).block = a.block := by unfold Addr.add; split <;> rfl
def pcell (p : Pt) (v : Value) : List Value := [.int .i64 p.k, .bool p.q, .string (S p.t), .string (S p.n), .string (S p.o), v]
mutual
def PtAt (w : World) (F : Nat → Prop) : Pt → Addr → Prop
  | .mk k q t n o l, a => ∃ p c, (∀ (j : Nat) (u : Value), (pcell (.mk k q t n o l) (.slice p l.length c))[j]? = some u → w.cell? (a.add j) = some u) ∧ l.length ≤ c ∧ (l ≠ [] → ∃ b, p = some b ∧ F b.block ∧ PsAt w F l b)
def PsAt (w : World) (F : Nat → Prop) : List Pt → Addr → Prop
  | [], _ => True
  | x :: r, a => PtAt w F x a ∧ PsAt w F r (a.add 6)
end
def SlAt (w : World) (F : Nat → Prop) (l : List Pt) (v : Value) : Prop := ∃ p c, v = .slice p l.length c ∧ l.length ≤ c ∧ (l ≠ [] → ∃ b, p = some b ∧ F b.block ∧ PsAt w F l b)
theorem PtAt.out {F : Nat → Prop} {x : Pt} {a : Addr} (h : PtAt w F x a) : ∃ v, (∀ (j : Nat) (u : Value), (pcell x v)[j]? = some u → w.cell? (a.add j) = some u) ∧ SlAt w F x.w v := by
  cases x with
  | mk k q t n o l =>
    simp only [PtAt] at h
    obtain ⟨p, c, h1, h2, h3⟩ := h
    exact ⟨_, h1, p, c, rfl, h2, h3⟩
theorem PtAt.of {F : Nat → Prop} {x : Pt} {a : Addr} {v : Value} (h : ∀ (j : Nat) (u : Value), (pcell x v)[j]? = some u → w.cell? (a.add j) = some u) (hs : SlAt w F x.w v) : PtAt w F x a := by
  cases x with
  | mk k q t n o l =>
    obtain ⟨p, c, rfl, h2, h3⟩ := hs
    simp only [PtAt]
    exact ⟨p, c, h, h2, h3⟩
theorem PsAt.get {F : Nat → Prop} : ∀ {l : List Pt} {a : Addr} {i : Nat} {x : Pt}, PsAt w F l a → l[i]? = some x → PtAt w F x (a.add (i * 6))
  | y :: r, a, 0, x, h, hx => by
    obtain rfl := Option.some.inj hx
    simp only [PsAt] at h
    have e : a.add (0 * 6) = a := by unfold Addr.add; simp
    rw [e]
    exact h.1
  | y :: r, a, i + 1, x, h, hx => by
    simp only [PsAt] at h
    have := PsAt.get (i := i) h.2 (by simpa using hx)
    rw [adds] at this
    rwa [show (i + 1) * 6 = 6 + i * 6 by omega]
theorem PsAt.of {F : Nat → Prop} : ∀ {l : List Pt} {a : Addr}, (∀ i x, l[i]? = some x → PtAt w F x (a.add (i * 6))) → PsAt w F l a
  | [], a, h => by simp only [PsAt]
  | y :: r, a, h => by
    simp only [PsAt]
    refine ⟨?_, PsAt.of fun i x hx => ?_⟩
    · have := h 0 y rfl
      have e : a.add (0 * 6) = a := by unfold Addr.add; simp
      rwa [e] at this
    · rw [adds]
      have := h (i + 1) x (by simpa using hx)
      rwa [show (i + 1) * 6 = 6 + i * 6 by omega] at this
mutual
theorem PtAt.turn {F G : Nat → Prop} {w' : World} (hF : ∀ k, F k → G k) (hw : ∀ a v, (∃ k, F k ∧ a.block = k) → w.cell? a = some v → w'.cell? a = some v) : ∀ {x : Pt} {a : Addr}, PtAt w F x a → F a.block → PtAt w' G x a
  | .mk k q t n o l, a, h, hb => by
    simp only [PtAt] at h ⊢
    obtain ⟨p, c, h1, h2, h3⟩ := h
    refine ⟨p, c, fun j u hu => hw _ _ ⟨_, hb, add_block a j⟩ (h1 j u hu), h2, fun hl => ?_⟩
    obtain ⟨b, rfl, h4, h5⟩ := h3 hl
    exact ⟨b, rfl, hF _ h4, PsAt.turn hF hw h5 h4⟩
theorem PsAt.turn {F G : Nat → Prop} {w' : World} (hF : ∀ k, F k → G k) (hw : ∀ a v, (∃ k, F k ∧ a.block = k) → w.cell? a = some v → w'.cell? a = some v) : ∀ {l : List Pt} {a : Addr}, PsAt w F l a → F a.block → PsAt w' G l a
  | [], a, h, hb => by simp only [PsAt]
  | x :: r, a, h, hb => by
    simp only [PsAt] at h ⊢
    exact ⟨PtAt.turn hF hw h.1 hb, PsAt.turn hF hw h.2 (by rw [add_block]; exact hb)⟩
end
theorem SlAt.turn {F G : Nat → Prop} {w' : World} (hF : ∀ k, F k → G k) (hw : ∀ a v, (∃ k, F k ∧ a.block = k) → w.cell? a = some v → w'.cell? a = some v) {l : List Pt} {v : Value} (h : SlAt w F l v) : SlAt w' G l v := by
  obtain ⟨p, c, rfl, h2, h3⟩ := h
  refine ⟨p, c, rfl, h2, fun hl => ?_⟩
  obtain ⟨b, rfl, h4, h5⟩ := h3 hl
  exact ⟨b, rfl, hF _ h4, PsAt.turn hF hw h5 h4⟩
theorem SlAt.mono {F G : Nat → Prop} (hF : ∀ k, F k → G k) {l : List Pt} {v : Value} (h : SlAt w F l v) : SlAt w G l v := h.turn hF (fun _ _ _ h => h)
theorem SlAt.any {F : Nat → Prop} {l : List Pt} {v : Value} (h : SlAt w F l v) : SlAt w (fun _ => True) l v := h.mono fun _ _ => trivial
theorem mod_cell {S : Nat → Prop} {w' : World} (hm : Mod S w w') {a : Addr} {v : Value} (hn : ¬ S a.block) (h : w.cell? a = some v) : w'.cell? a = some v :=
  (World.cell?_of_block (hm.block _ (World.block_lt_of_cell? _ _ h) hn)).trans h
theorem SlAt.mod {F S : Nat → Prop} {w' : World} {l : List Pt} {v : Value} (h : SlAt w F l v) (hm : Mod S w w') (hS : ∀ k, F k → ¬ S k) : SlAt w' F l v :=
  h.turn (fun _ h => h) fun a v ⟨k, hk, e⟩ hc => mod_cell hm (by rw [e]; exact hS k hk) hc
theorem SlAt.still {F : Nat → Prop} {w' : World} {l : List Pt} {v : Value} (h : SlAt w F l v) (hm : Still w w') : SlAt w' F l v := h.mod hm fun _ _ h => h
theorem SlAt.nil (w : World) (F : Nat → Prop) (p : Option Addr) (c : Nat) : SlAt w F [] (.slice p 0 c) := ⟨p, c, rfl, Nat.zero_le _, fun h => absurd rfl h⟩
theorem SlAt.here {F : Nat → Prop} {l : List Pt} {v : Value} (h : SlAt w F l v) : SlAt w (fun k => F k ∧ k < w.heap.size) l v := by
  have key : ∀ n, ∀ l : List Pt, SizeOf.sizeOf l < n → ∀ b, PsAt w F l b → F b.block → l ≠ [] → (b.block < w.heap.size ∧ PsAt w (fun k => F k ∧ k < w.heap.size) l b) := by
    intro n
    induction n with
    | zero => intro l h; omega
    | succ n ih =>
      intro l hl b hp hb hne
      have cell0 : b.block < w.heap.size := by
        obtain ⟨x, r, rfl⟩ := List.exists_cons_of_ne_nil hne
        simp only [PsAt] at hp
        obtain ⟨v, hc, _⟩ := hp.1.out
        have := World.block_lt_of_cell? _ _ (hc 0 _ rfl)
        rwa [add_block] at this
      refine ⟨cell0, PsAt.of fun i x hx => ?_⟩
      obtain ⟨v, hc, hs⟩ := (hp.get hx).out
      refine PtAt.of hc ?_
      obtain ⟨p, c, rfl, h2, h3⟩ := hs
      refine ⟨p, c, rfl, h2, fun hl2 => ?_⟩
      obtain ⟨b2, rfl, h4, h5⟩ := h3 hl2
      have hm := List.sizeOf_lt_of_mem (List.mem_of_getElem? hx)
      have hx2 : SizeOf.sizeOf x.w < SizeOf.sizeOf x := by cases x; simp only [Pt.w, Pt.mk.sizeOf_spec]; omega
      have := ih x.w (by omega) b2 h5 h4 hl2
      exact ⟨b2, rfl, ⟨h4, this.1⟩, this.2⟩
  obtain ⟨p, c, rfl, h2, h3⟩ := h
  refine ⟨p, c, rfl, h2, fun hl => ?_⟩
  obtain ⟨b, rfl, h4, h5⟩ := h3 hl
  have := key _ l (Nat.lt_succ_self _) b h5 h4 hl
  exact ⟨b, rfl, ⟨h4, this.1⟩, this.2⟩
theorem SlAt.get {F : Nat → Prop} {l : List Pt} {p : Option Addr} {n c : Nat} (h : SlAt w F l (.slice p n c)) {i : Nat} {x : Pt} (hx : l[i]? = some x) :
    ∃ b v, p = some b ∧ F b.block ∧ (∀ (j : Nat) (u : Value), (pcell x v)[j]? = some u → w.cell? ((b.add (i * 6)).add j) = some u) ∧ SlAt w F x.w v := by
  obtain ⟨p', c', he, h2, h3⟩ := h
  injection he with e1 e2 e3
  subst e1 e2 e3
  have hl : l ≠ [] := by rintro rfl; cases hx
  obtain ⟨b, rfl, h4, h5⟩ := h3 hl
  obtain ⟨v, h6, h7⟩ := (h5.get hx).out
  exact ⟨b, v, rfl, h4, h6, h7⟩
theorem SlAt.len {F : Nat → Prop} {l : List Pt} {p : Option Addr} {n c : Nat} (h : SlAt w F l (.slice p n c)) : n = l.length ∧ l.length ≤ c := by
  obtain ⟨p', c', he, h2, h3⟩ := h
  injection he with e1 e2 e3
  subst e3
  exact ⟨e2, h2⟩
theorem SlAt.form {F : Nat → Prop} {l : List Pt} {v : Value} (h : SlAt w F l v) : ∃ p c, v = .slice p l.length c := by
  obtain ⟨p, c, he, _⟩ := h
  exact ⟨p, c, he⟩
def Cs (w : World) (F : Nat → Prop) : List Pt → List Value → Prop
  | [], xs => xs = []
  | x :: r, xs => ∃ v ys, xs = pcell x v ++ ys ∧ SlAt w F x.w v ∧ Cs w F r ys
theorem Cs.len {F : Nat → Prop} : ∀ {l : List Pt} {xs : List Value}, Cs w F l xs → xs.length = l.length * 6
  | [], xs, h => by rw [show xs = [] from h]; rfl
  | x :: r, xs, ⟨v, ys, h1, h2, h3⟩ => by
    have := h3.len
    rw [h1]
    simp only [List.length_append, pcell, List.length_cons, List.length_nil, this]
    omega
theorem pcell_one {x : Pt} {v : Value} (hv : v.oneCell' = true) : ∀ u ∈ pcell x v, u.oneCell' = true := by
  intro u hu
  simp only [pcell, List.mem_cons, List.not_mem_nil, or_false] at hu
  rcases hu with rfl | rfl | rfl | rfl | rfl | rfl <;> first | rfl | exact hv
theorem SlAt.one {F : Nat → Prop} {l : List Pt} {v : Value} (h : SlAt w F l v) : v.oneCell' = true := by
  obtain ⟨p, c, rfl, _⟩ := h
  rfl
theorem Cs.one {F : Nat → Prop} : ∀ {l : List Pt} {xs : List Value}, Cs w F l xs → ∀ u ∈ xs, u.oneCell' = true
  | [], xs, h => by rw [show xs = [] from h]; simp
  | x :: r, xs, ⟨v, ys, h1, h2, h3⟩ => by
    intro u hu
    rw [h1] at hu
    rcases List.mem_append.1 hu with hu | hu
    · exact pcell_one h2.one u hu
    · exact h3.one u hu
theorem Cs.turn {F G : Nat → Prop} {w' : World} (hf : ∀ {l : List Pt} {v : Value}, SlAt w F l v → SlAt w' G l v) : ∀ {l : List Pt} {xs : List Value}, Cs w F l xs → Cs w' G l xs
  | [], xs, h => h
  | x :: r, xs, ⟨v, ys, h1, h2, h3⟩ => ⟨v, ys, h1, hf h2, h3.turn hf⟩
theorem Cs.append {F : Nat → Prop} : ∀ {l m : List Pt} {xs ys : List Value}, Cs w F l xs → Cs w F m ys → Cs w F (l ++ m) (xs ++ ys)
  | [], m, xs, ys, h, k => by rw [show xs = [] from h]; exact k
  | x :: r, m, xs, ys, ⟨v, zs, h1, h2, h3⟩, k => ⟨v, zs ++ ys, by rw [h1, List.append_assoc], h2, h3.append k⟩
theorem Cs.snoc {F : Nat → Prop} {l : List Pt} {xs : List Value} {x : Pt} {v : Value} (h : Cs w F l xs) (hv : SlAt w F x.w v) : Cs w F (l ++ [x]) (xs ++ pcell x v) :=
  h.append ⟨v, [], by simp, hv, rfl⟩
theorem Cs.split {F : Nat → Prop} : ∀ {l m : List Pt} {xs : List Value}, Cs w F (l ++ m) xs → ∃ ys zs, xs = ys ++ zs ∧ Cs w F l ys ∧ Cs w F m zs
  | [], m, xs, h => ⟨[], xs, rfl, rfl, h⟩
  | x :: r, m, xs, h => by
    obtain ⟨v, us, h1, h2, h3⟩ : ∃ v us, xs = pcell x v ++ us ∧ SlAt w F x.w v ∧ Cs w F (r ++ m) us := h
    obtain ⟨ys, zs, h4, h5, h6⟩ := h3.split
    exact ⟨pcell x v ++ ys, zs, by rw [h1, h4, List.append_assoc], ⟨v, ys, rfl, h2, h5⟩, h6⟩
theorem Cs.last {F : Nat → Prop} {l : List Pt} {x : Pt} {xs : List Value} (h : Cs w F (l ++ [x]) xs) : ∃ ys v, xs = ys ++ pcell x v ∧ Cs w F l ys ∧ SlAt w F x.w v := by
  obtain ⟨ys, zs, h1, h2, v, us, h3, h4, h5⟩ := h.split
  have h5 : us = [] := h5
  subst h5
  exact ⟨ys, v, by rw [h1, h3, List.append_nil], h2, h4⟩
theorem Cs.at {F : Nat → Prop} : ∀ {l : List Pt} {xs : List Value} {a : Addr}, Cs w F l xs → (∀ (j : Nat) (u : Value), xs[j]? = some u → w.cell? (a.add j) = some u) → PsAt w F l a
  | [], xs, a, h, hc => by simp only [PsAt]
  | x :: r, xs, a, ⟨v, ys, h1, h2, h3⟩, hc => by
    simp only [PsAt]
    have e : (pcell x v).length = 6 := rfl
    refine ⟨PtAt.of (fun j u hu => hc j u ?_) h2, h3.at fun j u hu => ?_⟩
    · rw [h1, List.getElem?_append_left]
      · exact hu
      · exact (List.getElem?_eq_some_iff.1 hu).1
    · rw [adds]
      refine hc _ u ?_
      rw [h1, List.getElem?_append_right (by rw [e]; omega), e, Nat.add_sub_cancel_left]
      exact hu
theorem Cs.to {F : Nat → Prop} {l : List Pt} : ∀ {a : Addr}, PsAt w F l a → ∃ xs, Cs w F l xs ∧ ∀ (j : Nat) (u : Value), xs[j]? = some u → w.cell? (a.add j) = some u := by
  induction l with
  | nil => intro a _; exact ⟨[], rfl, fun j u hu => by simp at hu⟩
  | cons x r ih =>
    intro a h
    simp only [PsAt] at h
    obtain ⟨v, h1, h2⟩ := h.1.out
    obtain ⟨xs, h3, h4⟩ := ih h.2
    refine ⟨pcell x v ++ xs, ⟨v, xs, rfl, h2, h3⟩, fun j u hu => ?_⟩
    have e : (pcell x v).length = 6 := rfl
    by_cases hj : j < 6
    · rw [List.getElem?_append_left (by rw [e]; exact hj)] at hu
      exact h1 j u hu
    · rw [List.getElem?_append_right (by rw [e]; omega), e] at hu
      have := h4 _ u hu
      rwa [adds, show 6 + (j - 6) = j by omega] at this
def OutAt (w : World) (B : Nat) (l : List Pt) (v : Value) : Prop := ∃ p c xs, v = .slice p l.length c ∧ Owns w B 73 6 v l.length xs ∧ Cs w (fun k => B ≤ k ∧ k < w.heap.size ∧ v.ownBlock ≠ some k) l xs
theorem OutAt.nil (w : World) (B : Nat) : OutAt w B [] (.slice none 0 0) := ⟨none, 0, [], rfl, Owns.nil _ _ _ _, rfl⟩
theorem Owns.cap {B : Nat} {e : TypeId} {size n : Nat} {v : Value} {xs : List Value} (h : Owns w B e size v n xs) : ∃ p c, v = .slice p n c ∧ n ≤ c := by
  rcases h.2 with ⟨rfl, rfl⟩ | ⟨g, cap, cur, rfl, _, _, hc, _⟩
  · exact ⟨_, _, rfl, Nat.le_refl _⟩
  · exact ⟨_, _, rfl, hc⟩
theorem OutAt.sl {B : Nat} {l : List Pt} {v : Value} (h : OutAt w B l v) : SlAt w (fun k => B ≤ k ∧ k < w.heap.size) l v := by
  obtain ⟨p, c, xs, rfl, ho, hc⟩ := h
  obtain ⟨p', c', he, hle⟩ := ho.cap
  injection he with _ _ e3
  subst e3
  refine ⟨p, c, rfl, hle, fun hl => ?_⟩
  have hn : 0 < l.length := List.length_pos_iff.2 hl
  obtain ⟨g, cap, he, hB, hg, _, hcell⟩ := ho.ownAddr hn
  injection he with e1 e2 e3
  subst e1
  refine ⟨_, rfl, ⟨hB, hg⟩, (hc.turn fun h => h.mono fun k hk => ⟨hk.1, hk.2.1⟩).at fun j u hu => ?_⟩
  rw [add_row, Nat.zero_add]
  exact hcell j u hu
theorem OutAt.mod {S : Nat → Prop} {w' : World} {B : Nat} {l : List Pt} {v : Value} (h : OutAt w B l v) (hm : Mod S w w') (hS : ∀ k, B ≤ k → k < w.heap.size → ¬ S k) : OutAt w' B l v := by
  obtain ⟨p, c, xs, rfl, ho, hc⟩ := h
  refine ⟨p, c, xs, rfl, ho.mod hm fun k hk => hS k (ho.lt k hk).1 (ho.lt k hk).2, hc.turn fun h => (h.mod hm fun k hk => hS k hk.1 hk.2.1).mono fun k hk => ⟨hk.1, Nat.lt_of_lt_of_le hk.2.1 hm.size, hk.2.2⟩⟩
theorem OutAt.still {w' : World} {B : Nat} {l : List Pt} {v : Value} (h : OutAt w B l v) (hm : Still w w') : OutAt w' B l v := h.mod hm fun _ _ _ h => h
abbrev pagg (x : Pt) (v : Value) : Value := .agg #[.int .i64 x.k, .bool x.q, .string (S x.t), .string (S x.n), .string (S x.o), v]
theorem Owns.store {B : Nat} {e : TypeId} {sz n c g i : Nat} {xs : List Value} {u : Value} {K : World → Prop} (h : Owns w B e sz (.slice (some ⟨g, 0, none⟩) n c) n xs) (hi : i < n * sz) (hu : u.oneCell' = true)
    (hK : ∀ w', Owns w' B e sz (.slice (some ⟨g, 0, none⟩) n c) n (xs.set i u) → Mod (fun k => k = g) w w' → w'.heap.size = w.heap.size → K w') : stCells ((Addr.mk g 0 none).add i) K 0 [u] w := by
  obtain ⟨h1, ⟨he, hn⟩ | ⟨g', cap, cur, he, hB, hr, hc, hm, hs, ht⟩⟩ := h
  · cases he
  · injection he with e1 e2 e3
    injection e1 with e1
    injection e1 with e1
    subst e1 e3
    rw [add_row, Nat.zero_add]
    have hr' : Row w g e ⟨cur.toList⟩ := hr
    have hlen : cur.toList.length = c * sz := by rw [Array.length_toList]; exact hs
    have hle : n * sz ≤ c * sz := Nat.mul_le_mul_right sz hc
    refine stK hr' (by simp only [List.length_cons, List.length_nil]; omega) (by simpa using hu) fun w' r' m' z' => hK w' ⟨by rw [List.length_set]; exact h1, .inr ⟨g, c, _, rfl, hB, r', hc, hm, ?_, ?_⟩⟩ m' z'
    · simp only [ovw, List.size_toArray, List.length_set]
      exact hlen
    · simp only [ovw]
      rw [← ht, List.take_set]
theorem SlAt.cells {F : Nat → Prop} {l : List Pt} {p : Option Addr} {n c : Nat} (h : SlAt w F l (.slice p n c)) : ∃ xs, Cs w F l xs ∧ At w p n xs := by
  obtain ⟨p', c', he, h2, h3⟩ := h
  injection he with e1 e2 e3
  subst e1 e2 e3
  by_cases hl : l = []
  · subst hl
    exact ⟨[], rfl, fun h => absurd h (Nat.lt_irrefl _)⟩
  · obtain ⟨b, rfl, h4, h5⟩ := h3 hl
    obtain ⟨xs, h6, h7⟩ := Cs.to h5
    exact ⟨xs, h6, fun _ => ⟨b, rfl, h7⟩⟩
theorem drew_still (w : World) : Still w w.drew := (Still.refl w).toDrew
theorem box_fields {g : Nat} {x : Pt} {v : Value} (h : Row w g 73 ⟨pcell x v⟩) : w.cell? ⟨g, 0, none⟩ = some (.int .i64 x.k) ∧ w.cell? ⟨g, 1, none⟩ = some (.bool x.q) ∧ w.cell? ⟨g, 2, none⟩ = some (.string (S x.t)) ∧ w.cell? ⟨g, 3, none⟩ = some (.string (S x.n)) ∧ w.cell? ⟨g, 4, none⟩ = some (.string (S x.o)) ∧ w.cell? ⟨g, 5, none⟩ = some v :=
  ⟨h.lget rfl, h.lget rfl, h.lget rfl, h.lget rfl, h.lget rfl, h.lget rfl⟩
def AddBody (gx : Nat) (w1 : World) (l : Option Addr) (lL lC : Nat) (R : Ending → World → Prop) : Prop :=
  ∃ xJ : World → Prop, (∃ xJ1 : Bool → World → Prop, (bsel (decide ((0 : Int) ≤ (IntKind.i64.wrap ((((lL : Nat) : Int) : Int) - (1 : Int))))) (∃ v : Int, w1.cell? (Addr.mk gx 0 none) = some (.int .i64 v) ∧ bsel (decide (v = (0 : Int))) (0 ≤ (IntKind.i64.wrap ((((lL : Nat) : Int) : Int) - (1 : Int))) ∧ (IntKind.i64.wrap ((((lL : Nat) : Int) : Int) - (1 : Int))) < (lL : Nat) ∧ someK l (fun a => ∃ v1 : Int, w1.cell? (a.add (Int.toNat (IntKind.i64.wrap ((((lL : Nat) : Int) : Int) - (1 : Int))) * 6)) = some (.int .i64 v1) ∧ bsel (decide (v1 = (0 : Int))) (0 ≤ (IntKind.i64.wrap ((((lL : Nat) : Int) : Int) - (1 : Int))) ∧ (IntKind.i64.wrap ((((lL : Nat) : Int) : Int) - (1 : Int))) < (lL : Nat) ∧ someK l (fun a1 => ∃ v2 : Bool, w1.cell? ((a1.add (Int.toNat (IntKind.i64.wrap ((((lL : Nat) : Int) : Int) - (1 : Int))) * 6)).add 1) = some (.bool v2) ∧ ∃ v3 : Bool, w1.cell? (Addr.mk gx 1 none) = some (.bool v3) ∧ xJ1 (decide (v2 = v3)) w1.drew)) (xJ1 false w1.drew))) (xJ1 false w1.drew)) (xJ1 false w1.drew)) ∧ ∀ (x : Bool) (us1 : Nat → Value) (w2 : World), (xJ1 x w2) → bsel x (∃ Sw : World → Prop, Sw w2.drew ∧ 0 ≤ (IntKind.i64.wrap ((((lL : Nat) : Int) : Int) - (1 : Int))) ∧ (IntKind.i64.wrap ((((lL : Nat) : Int) : Int) - (1 : Int))) < (lL : Nat) ∧ someK l (fun a2 => ∃ v4 : List UInt8, (∀ wq : World, Sw wq → wq.cell? ((a2.add (Int.toNat (IntKind.i64.wrap ((((lL : Nat) : Int) : Int) - (1 : Int))) * 6)).add 2) = some (.string (S v4))) ∧ ∃ v5 : List UInt8, (∀ wq : World, Sw wq → wq.cell? (Addr.mk gx 2 none) = some (.string (S v5))) ∧ v4.length + v5.length ≤ 9223372036854775807 ∧ 0 ≤ (IntKind.i64.wrap ((((lL : Nat) : Int) : Int) - (1 : Int))) ∧ (IntKind.i64.wrap ((((lL : Nat) : Int) : Int) - (1 : Int))) < (lL : Nat) ∧ someK l (fun a3 => stCells ((a3.add (Int.toNat (IntKind.i64.wrap ((((lL : Nat) : Int) : Int) - (1 : Int))) * 6)).add 2) (fun (w3 : World) => R (.returned (.slice l lL lC)) w3) 0 [(.string (S (v4 ++ v5)))] w2.drew))) (xJ w2)) ∧ ∀ (us2 : Nat → Value) (w4 : World), (xJ w4) → ∃ vKind : Int, ∃ vQuoted : Bool, ∃ vText : List UInt8, ∃ vName : List UInt8, ∃ vOp : List UInt8, ∃ (vWord : Option Addr) (vWordL vWordC : Nat), w4.cell? (Addr.mk gx 0 none) = some (.int .i64 vKind) ∧ w4.cell? (Addr.mk gx 1 none) = some (.bool vQuoted) ∧ w4.cell? (Addr.mk gx 2 none) = some (.string (S vText)) ∧ w4.cell? (Addr.mk gx 3 none) = some (.string (S vName)) ∧ w4.cell? (Addr.mk gx 4 none) = some (.string (S vOp)) ∧ w4.cell? (Addr.mk gx 5 none) = some (.slice vWord vWordL vWordC) ∧ letW (w4.alloc (.cells #[(.int .i64 vKind), (.bool vQuoted), (.string (S vText)), (.string (S vName)), (.string (S vOp)), (.slice vWord vWordL vWordC)] 73)) (fun (w5 : World) => appK w5 73 6 88 l lL lC (some (Addr.mk w4.heap.size 0 none)) 1 (fun (p : Option Addr) (cp : Nat) (w6 : World) => R (.returned (.slice p (lL + 1) cp)) w6))
theorem addBody_spec {w1 : World} {gx B : Nat} {l : List Pt} {p : Option Addr} {c : Nat} {x : Pt} {wp : Option Addr} {wc : Nat} {R : Ending → World → Prop} (r1 : Row w1 gx 73 ⟨pcell x (.slice wp x.w.length wc)⟩) (ho : OutAt w1 B l (.slice p l.length c)) (hB : B ≤ w1.heap.size)
    (hw : SlAt w1 (fun k => B ≤ k ∧ k < w1.heap.size ∧ (Value.slice p l.length c).ownBlock ≠ some k) x.w (.slice wp x.w.length wc)) (hl : wtL l + x.wt < 1000000000)
    (hR : ∀ v' w', OutAt w' B (addP l x) v' → Mod (fun k => (Value.slice p l.length c).ownBlock = some k) w1 w' → (∀ k, v'.ownBlock = some k → (Value.slice p l.length c).ownBlock = some k ∨ w1.heap.size ≤ k) → R (.returned v') w') : AddBody gx w1 p l.length c R := by
  obtain ⟨p', c', xs, hv, hown, hcs⟩ := ho
  injection hv with hv1 _ hv2
  subst hv1 hv2
  have hwl := wtL_len l
  obtain ⟨f0, f1, f2, f3, f4, f5⟩ := box_fields (x := x) r1
  have sd : Still w1 w1.drew := drew_still w1
  -- what stands behind is put in a new place
  have push : (∀ y ∈ l.getLast?, ¬ Mg y x) → ∀ w4 : World, w4 = w1.drew →
      letW (w4.alloc (.cells ⟨pcell x (.slice wp x.w.length wc)⟩ 73)) (fun w5 => appK w5 73 6 88 p l.length c (some (Addr.mk w4.heap.size 0 none)) 1 (fun p' cp w6 => R (.returned (.slice p' (l.length + 1) cp)) w6)) := by
    rintro hno _ rfl
    have hadd : addP l x = l ++ [x] := by
      by_cases hl : l = []
      · subst hl; rfl
      · obtain ⟨m, y, rfl⟩ := snoc_of hl
        rw [addP_snoc, if_neg (show ¬ (x.k = 0 ∧ y.k = 0 ∧ y.q = x.q) from hno y (by simp))]
    refine allocK fun w5 r5 s5 z5 => ?_
    have s05 := sd.trans s5
    refine appK_push (hown.still s05) (by have := s05.size; omega) (pcell x (.slice wp x.w.length wc)) rfl (pcell_one rfl) (fun _ => ⟨_, rfl, fun j u hu => ?_⟩) (by omega) (by omega) fun p' c' w6 ho6 hm6 hbk => ?_
    · rw [add_row, Nat.zero_add]
      exact r5.lget hu
    · have hm06 : Mod (fun k => (Value.slice p l.length c).ownBlock = some k) w1 w6 := Mod.trans s05 hm6 (fun _ h => h.elim) (fun _ _ h => h)
      have hz5 : w1.heap.size ≤ w5.heap.size := s05.size
      have hown' : ∀ k, (Value.slice p' (l.length + 1) c').ownBlock = some k → (Value.slice p l.length c).ownBlock = some k ∨ w5.heap.size ≤ k := by
        intro k hk
        rcases hbk.own (n := l.length) with e | e
        · exact .inl (by rw [← e]; exact hk)
        · rw [hk] at e
          obtain rfl := Option.some.inj e
          exact .inr (Nat.le_refl _)
      refine hR _ _ ?_ hm06 fun k hk => (hown' k hk).imp_right fun h => by omega
      rw [hadd]
      refine ⟨p', c', _, by rw [List.length_append]; rfl, by rw [List.length_append]; exact ho6, ?_⟩
      have tr : ∀ {y : List Pt} {u : Value}, SlAt w1 (fun k => B ≤ k ∧ k < w1.heap.size ∧ (Value.slice p l.length c).ownBlock ≠ some k) y u → SlAt w6 (fun k => B ≤ k ∧ k < w6.heap.size ∧ (Value.slice p' (l.length + 1) c').ownBlock ≠ some k) y u := by
        intro y u h
        refine (h.mod hm06 fun k hk => hk.2.2).mono fun k hk => ⟨hk.1, Nat.lt_of_lt_of_le hk.2.1 hm06.size, fun e => ?_⟩
        rcases hown' k e with e | e
        · exact hk.2.2 e
        · omega
      exact (hcs.turn tr).snoc (tr hw)
  by_cases hl0 : l = []
  · subst hl0
    have e1 : IntKind.i64.wrap ((((([] : List Pt).length : Nat) : Int) : Int) - 1) = -1 := by decide
    unfold AddBody
    rw [e1]
    refine ⟨fun w4 => w4 = w1.drew, ⟨fun b w2 => b = false ∧ w2 = w1.drew, bsel_of (fun h => absurd h (by decide)) (fun _ => ⟨rfl, rfl⟩), ?_⟩, ?_⟩
    · rintro _ _ w2 ⟨rfl, rfl⟩
      exact rfl
    · rintro _ _ rfl
      obtain ⟨f0, f1, f2, f3, f4, f5⟩ := box_fields (x := x) (r1.still (drew_still w1))
      exact ⟨_, _, _, _, _, _, _, _, f0, f1, f2, f3, f4, f5, push (by simp) _ rfl⟩
  · obtain ⟨m, y, rfl⟩ := snoc_of hl0
    have hlen : (m ++ [y]).length = m.length + 1 := by simp
    obtain ⟨ys, vy, hxs, hcm, hvy⟩ := hcs.last
    have hyl : ys.length = m.length * 6 := hcm.len
    obtain ⟨g, cap, he, hgB, hgl, hcap, hcell⟩ := hown.ownAddr (by omega)
    injection he with e1 e2 e3
    subst e1 e3
    have e1 : IntKind.i64.wrap ((((m ++ [y]).length : Nat) : Int) - 1) = (m.length : Int) := by rw [hlen, wrap_i64 (by omega) (by omega)]; omega
    have ycell : ∀ (w' : World), Still w1 w' → ∀ j u, (pcell y vy)[j]? = some u → w'.cell? (((Addr.mk g 0 none).add (m.length * 6)).add j) = some u := by
      intro w' hs j u hu
      rw [adds, add_row, Nat.zero_add]
      refine hs.cell (hcell _ _ ?_)
      rw [hxs, List.getElem?_append_right (by rw [hyl]; omega), hyl, Nat.add_sub_cancel_left]
      exact hu
    have a0 : ∀ a : Addr, a.add 0 = a := by intro a; unfold Addr.add; simp
    have y0 := ycell w1 (Still.refl _) 0 _ rfl
    rw [a0] at y0
    unfold AddBody
    rw [e1]
    refine ⟨fun w4 => w4 = w1.drew ∧ ¬ Mg y x, ⟨fun b w2 => (b = true ↔ Mg y x) ∧ w2 = w1.drew, bsel_of (fun _ => ⟨x.k, f0, bsel_of (fun hk => ?_) (fun hk => ⟨?_, rfl⟩)⟩) (fun h => absurd (of_decide_eq_false h) (by omega)), ?_⟩, ?_⟩
    · have hk : x.k = 0 := of_decide_eq_true hk
      refine ⟨by omega, by omega, y.k, by rw [Int.toNat_natCast]; exact y0, bsel_of (fun hy => ?_) (fun hy => ⟨?_, rfl⟩)⟩
      · have hy : y.k = 0 := of_decide_eq_true hy
        refine ⟨by omega, by omega, y.q, by rw [Int.toNat_natCast]; exact ycell w1 (Still.refl _) 1 _ rfl, x.q, f1, ?_, rfl⟩
        rw [decide_eq_true_eq]
        exact ⟨fun e => ⟨hk, hy, e⟩, fun e => e.2.2⟩
      · have hy : ¬ y.k = 0 := of_decide_eq_false hy
        exact ⟨fun e => (by cases e), fun e => absurd e.2.1 hy⟩
    · have hk : ¬ x.k = 0 := of_decide_eq_false hk
      exact ⟨fun e => (by cases e), fun e => absurd e.1 hk⟩
    · rintro b _ w2 ⟨hb, rfl⟩
      refine bsel_of (fun h => ?_) (fun h => ?_)
      · have hm := hb.1 h
        have f2' := (r1.still ((drew_still w1).trans (drew_still w1.drew))).lget (i := 2) rfl
        have hty := wtL_append m [y]
        rw [wtL_one, y.wt_eq] at hty
        have hx2 := x.wt_eq
        refine ⟨fun wq => wq = w1.drew.drew, rfl, by omega, by omega, y.t, ?_, x.t, ?_, by omega, by omega, by omega, ?_⟩
        · rintro wq rfl
          rw [Int.toNat_natCast]
          exact ycell _ (sd.trans (drew_still w1.drew)) 2 _ rfl
        · rintro wq rfl
          exact f2'
        · rw [Int.toNat_natCast, someK_some, adds]
          have so : Still w1 w1.drew.drew := sd.toDrew
          refine Owns.store (hown.still so) (by omega) rfl fun w' ho' hm' hz' => hR _ _ ?_ ?_ fun k hk => .inl hk
          · rw [addP_snoc, if_pos (show x.k = 0 ∧ y.k = 0 ∧ y.q = x.q from hm)]
            have hset : xs.set (m.length * 6 + 2) (.string (S (y.t ++ x.t))) = ys ++ pcell (.mk y.k y.q (y.t ++ x.t) y.n y.o y.w) vy := by
              rw [hxs, List.set_append_right _ _ (by rw [hyl]; omega), hyl, Nat.add_sub_cancel_left]
              rfl
            rw [hset] at ho'
            have hmo : Mod (fun k => k = g) w1 w' := Mod.trans so hm' (fun _ h => h.elim) (fun _ _ h => h)
            have tr : ∀ {z : List Pt} {u : Value}, SlAt w1 (fun k => B ≤ k ∧ k < w1.heap.size ∧ (Value.slice (some ⟨g, 0, none⟩) (m ++ [y]).length c).ownBlock ≠ some k) z u → SlAt w' (fun k => B ≤ k ∧ k < w'.heap.size ∧ (Value.slice (some ⟨g, 0, none⟩) (m ++ [y]).length c).ownBlock ≠ some k) z u := by
              intro z u h
              refine (h.mod hmo fun k hk e => hk.2.2 (by rw [e]; simp [Value.ownBlock])).mono fun k hk => ⟨hk.1, Nat.lt_of_lt_of_le hk.2.1 hmo.size, hk.2.2⟩
            have hlen2 : (m ++ [Pt.mk y.k y.q (y.t ++ x.t) y.n y.o y.w]).length = (m ++ [y]).length := by simp
            exact ⟨some ⟨g, 0, none⟩, c, _, by rw [hlen2], by rw [hlen2]; exact ho', (hcm.turn tr).snoc (tr hvy)⟩
          · exact Mod.trans so hm' (fun _ h => h.elim) (fun k _ e => by rw [e]; simp [Value.ownBlock])
      · exact ⟨rfl, fun hm => by rw [hb.2 hm] at h; cases h⟩
    · rintro _ _ ⟨rfl, hno⟩
      obtain ⟨f0, f1, f2, f3, f4, f5⟩ := box_fields (x := x) (r1.still (drew_still w1))
      exact ⟨_, _, _, _, _, _, _, _, f0, f1, f2, f3, f4, f5, push (by simpa using hno) _ rfl⟩
theorem add_spec {B : Nat} {l : List Pt} {v : Value} {x : Pt} {vw : Value} (ho : OutAt w B l v) (hB : B ≤ w.heap.size) (hw : SlAt w (fun k => B ≤ k ∧ k < w.heap.size ∧ v.ownBlock ≠ some k) x.w vw) (hl : wtL l + x.wt < 1000000000) :
    Calls Tryz.prog fn_word_add #[v, pagg x vw] w (fun e w' => ∃ v', e = .returned v' ∧ OutAt w' B (addP l x) v' ∧ Mod (fun k => v.ownBlock = some k) w w' ∧ ∀ k, v'.ownBlock = some k → v.ownBlock = some k ∨ w.heap.size ≤ k) := by
  have ho' := ho
  obtain ⟨p, c, xs, rfl, hown, hcs⟩ := ho
  obtain ⟨wp, wc, rfl⟩ := hw.form
  refine word_add_calls _ _ _ _ _ _ _ _ _ _ _ _ _ ?_
  refine allocK fun w1 r1 s1 z1 => ?_
  have key : AddBody w.heap.size w1 p l.length c (fun e w' => ∃ v', e = .returned v' ∧ OutAt w' B (addP l x) v' ∧ Mod (fun k => (Value.slice p l.length c).ownBlock = some k) w w' ∧ ∀ k, v'.ownBlock = some k → (Value.slice p l.length c).ownBlock = some k ∨ w.heap.size ≤ k) :=
    addBody_spec (x := x) r1 (ho'.still s1) (by omega) ((hw.still s1).mono fun k hk => ⟨hk.1, by omega, hk.2.2⟩) hl fun v' w' h1 h2 h3 => ⟨v', rfl, h1, Mod.trans s1 h2 (fun _ h => h.elim) (fun _ _ h => h), fun k hk => (h3 k hk).imp_right fun h => by omega⟩
  exact key
theorem ref_Add_spec {l : List Pt} {v : Value} {x : Pt} {vw : Value} {N : Nat} (ho : SlAt w (fun k => N ≤ k) l v) (hN : N ≤ w.heap.size) (hw : SlAt w (fun k => N ≤ k) x.w vw) (hl : wtL l + x.wt < 1000000000) :
    Calls Tryz.prog fn_ref08_Add #[v, pagg x vw] w (fun e w' => ∃ v', e = .returned v' ∧ SlAt w' (fun k => N ≤ k) (addP l x) v' ∧ Still w w') := by
  obtain ⟨p, c, rfl⟩ := ho.form
  obtain ⟨wp, wc, rfl⟩ := hw.form
  have hwl := wtL_len l
  refine ref08_Add_calls _ _ _ _ _ _ _ _ _ _ _ _ _ ?_
  refine allocK fun w1 r1 s1 z1 => ?_
  obtain ⟨xs, hcs, hat⟩ := (ho.still s1).cells
  have hn : xs.length = l.length * 6 := hcs.len
  refine appK_push (B := w1.heap.size) (Owns.nil w1 _ _ 6) (Nat.le_refl _) xs hn hcs.one hat (by omega) (by omega) fun p' c' w2 ho2 hm2 hbk => ?_
  have s2 : Still w1 w2 := Mod.weaken hm2 fun k h => by cases h
  rw [List.nil_append] at ho2
  have e0 : 0 + l.length = l.length := Nat.zero_add _
  rw [e0] at ho2 ⊢
  have hown : ∀ k, (Value.slice p' l.length c').ownBlock = some k → w1.heap.size ≤ k := fun k hk => (ho2.lt k hk).1
  have ho2' : OutAt w2 N l (.slice p' l.length c') := ⟨p', c', xs, rfl, ho2.base fun k hk => by have := hown k hk; omega, hcs.turn fun h => (h.here.still s2).mono fun k hk => ⟨hk.1, Nat.lt_of_lt_of_le hk.2 s2.size, fun e => by have := hown k e; omega⟩⟩
  have key : AddBody w.heap.size w2 p' l.length c' (fun e w' => ∃ v', e = .returned v' ∧ SlAt w' (fun k => N ≤ k) (addP l x) v' ∧ Still w w') := by
    refine addBody_spec (B := N) (x := x) (r1.still s2) ho2' (by have := s2.size; omega) ((((hw.still s1).here).still s2).mono fun k hk => ⟨hk.1, Nat.lt_of_lt_of_le hk.2 s2.size, fun e => by have := hown k e; omega⟩) hl fun v' w' h1 h2 h3 => ⟨v', rfl, h1.sl.mono fun k hk => hk.1, ?_⟩
    exact Mod.trans (s1.trans s2) h2 (fun _ h => h) fun k hk e => by have := hown k e; have := s1.size; omega
  exact key
end Go.Proofs.YtcoeiiihmpnagaaGreatDoor
