/- Texts of one proof, one behind the other. Conditions: as each theorem names them. -/
import Derived.Test.YtkdlmkbpfdogcaaGreatDoorQ3
import Derived.Lib.ItoaMem
import Derived.Lib.Bytealg
namespace Go.Proofs.YtkdlmkbpfdogcaaGreatDoor
open Go.RowKit Vc
abbrev Still (w w' : World) : Prop := Mod (fun _ => False) w w'
theorem Still.trans {a b c : World} (h : Still a b) (k : Still b c) : Still a c := Mod.trans h k (fun _ h => h) (fun _ _ h => h)
theorem Still.refl (w : World) : Still w w := Mod.refl _ _
theorem Still.toDrew {a b : World} (h : Still a b) : Still a b.drew := Mod.drew h
theorem Still.cell {w w' : World} {a : Addr} {v : Value} (hm : Still w w') (h : w.cell? a = some v) : w'.cell? a = some v :=
  (World.cell?_of_block (hm.block _ (World.block_lt_of_cell? _ _ h) (fun h => h))).trans h
theorem Still.box {w w1 w2 : World} {g : Nat} (h : Still w w1) (hg : w.heap.size ≤ g) (hm : Mod (fun i => i = g) w1 w2) : Still w w2 := Mod.trans h hm (fun _ h => h) (fun i hi e => by omega)
theorem Row.still {w w' : World} {g : Nat} {t : TypeId} {cs : Array Value} (h : Row w g t cs) (hm : Still w w') : Row w' g t cs := h.mod hm (fun h => h)
theorem Owns.still {w w' : World} {B : Nat} {e : TypeId} {size : Nat} {v : Value} {n : Nat} {xs : List Value} (h : Owns w B e size v n xs) (hm : Still w w') : Owns w' B e size v n xs := h.mod hm (fun _ _ h => h)
theorem Row.lget {w : World} {g : Nat} {t : TypeId} {l : List Value} (h : Row w g t ⟨l⟩) {i : Nat} {v : Value} (hv : l[i]? = some v) : w.cell? ⟨g, i, none⟩ = some v := h.cellv (by simpa using hv)
theorem cells_one {v : Value} (h : v.oneCell' = true) : cellsOf v = [v] := by
  cases v <;> first | rfl | (simp [Value.oneCell'] at h)
theorem spliceRaw {v : Value} {l : List Value} {off : Nat} {K : List Value → Prop} (h : v.oneCell' = true) (hl : off < l.length) (hK : K (l.set off v)) : bsel (Nat.beq (cellsOf v).length 1 && Nat.ble (off + (cellsOf v).length) l.length) (spliceK l off (cellsOf v) K) False := by
  rw [cells_one h]
  have : (Nat.beq [v].length 1 && Nat.ble (off + [v].length) l.length) = true := by simp; omega
  rw [this]
  have : ∀ (l : List Value) (n : Nat) (K : List Value → Prop), K (l.set n v) → setK l n v K := by
    intro l
    induction l with
    | nil => intro n K h; exact h
    | cons x r ih => intro n K h; cases n with
      | zero => exact h
      | succ n => exact ih n _ h
  exact this _ _ _ hK
theorem adds (a : Addr) (i j : Nat) : (a.add i).add j = a.add (i + j) := by
  unfold Addr.add
  by_cases hi : i = 0 <;> by_cases hj : j = 0 <;> simp [hi, hj, Nat.add_assoc]
theorem letIn {w : World} {C : World → Prop} (h : C w) : letW w C := h
theorem allocK {w : World} {cs : List Value} {t : TypeId} {C : World → Prop} (h : ∀ w1, Row w1 w.heap.size t ⟨cs⟩ → Still w w1 → w1.heap.size = w.heap.size + 1 → C w1) : letW (w.alloc (.cells ⟨cs⟩ t)) C :=
  h _ (Row.new w t ⟨cs⟩) ((Mod.refl _ _).alloc _) (World.size_alloc ..)
def ovw (cs : List Value) : Nat → List Value → List Value
  | _, [] => cs
  | o, v :: vs => ovw (cs.set o v) (o + 1) vs
theorem stCells_row {g : Nat} {t : TypeId} : ∀ {vs : List Value} {w : World} {cs : List Value} {i o : Nat} {K : World → Prop}, Row w g t ⟨cs⟩ → o + i + vs.length ≤ cs.length → (∀ v ∈ vs, v.oneCell' = true) →
    (∀ w', Row w' g t ⟨ovw cs (o + i) vs⟩ → Mod (fun k => k = g) w w' → w'.heap.size = w.heap.size → K w') → stCells (Addr.mk g o none) K i vs w
  | [], w, cs, i, o, K, hr, _, _, h => h w hr (Mod.refl _ _) rfl
  | v :: vs, w, cs, i, o, K, hr, hl, h1, h => by
    simp only [List.length_cons] at hl
    refine bsel_of (fun _ => ?_) (fun hv => by rw [h1 v (by simp)] at hv; cases hv)
    rw [add_row]
    have hr2 := hr.setl (o + i) v
    refine ⟨hr.wr (o + i) (by simp; omega), stCells_row hr2 (by simp; omega) (fun u hu => h1 u (by simp [hu])) fun w' h3 h4 h5 => h w' h3 ?_ (h5.trans (by simp [World.setCell]))⟩
    exact Mod.trans ((Mod.refl (fun k => k = g) w).setCell (p := Addr.mk g (o + i) none) (.inl rfl) v) h4 (fun _ h => h) (fun _ _ h => h)
theorem stK {g : Nat} {t : TypeId} {vs : List Value} {w : World} {cs : List Value} {o : Nat} {K : World → Prop} (hr : Row w g t ⟨cs⟩) (hl : o + vs.length ≤ cs.length) (h1 : ∀ v ∈ vs, v.oneCell' = true)
    (h : ∀ w', Row w' g t ⟨ovw cs o vs⟩ → Mod (fun k => k = g) w w' → w'.heap.size = w.heap.size → K w') : stCells (Addr.mk g o none) K 0 vs w :=
  stCells_row hr (by simpa using hl) h1 fun w' h2 h3 h4 => h w' (by simpa using h2) h3 h4
theorem boxK {w : World} {cs : List Value} {t : TypeId} {vs : List Value} {K : World → Prop} (hl : vs.length = cs.length) (h1 : ∀ v ∈ vs, v.oneCell' = true)
    (h : ∀ w', Row w' w.heap.size t ⟨vs⟩ → Still w w' → w'.heap.size = w.heap.size + 1 → K w') : letW (w.alloc (.cells ⟨cs⟩ t)) (fun w1 => stCells (Addr.mk w.heap.size 0 none) K 0 vs w1) := by
  refine allocK fun w1 hr hs hz => stK hr (by omega) h1 fun w' h2 h3 h4 => h w' ?_ (hs.box (Nat.le_refl _) h3) (by omega)
  have e : ∀ (vs cs : List Value) (pre : List Value), vs.length = cs.length → ovw (pre ++ cs) pre.length vs = pre ++ vs := by
    intro vs
    induction vs with
    | nil => intro cs pre h; cases cs with
      | nil => rfl
      | cons c cs => cases h
    | cons v vs ih => intro cs pre h; cases cs with
      | nil => cases h
      | cons c cs =>
        have := ih cs (pre ++ [v]) (by simpa using h)
        simp only [ovw, List.set_append_right _ _ (Nat.le_refl pre.length), Nat.sub_self, List.set_cons_zero]
        simpa using this
  have := e vs cs [] hl
  simp only [List.nil_append, List.length_nil] at this
  rwa [this] at h2
theorem Owns.ownLt {w : World} {B : Nat} {e : TypeId} {size : Nat} {v : Value} {n : Nat} {xs : List Value} (h : Owns w B e size v n xs) {k : Nat} (hk : v.ownBlock = some k) : B ≤ k := (h.lt k hk).1
theorem Still.own {w0 w w' : World} {B : Nat} {e : TypeId} {size : Nat} {v : Value} {n : Nat} {xs : List Value} (h : Still w0 w) (ho : Owns w B e size v n xs) (hB : w0.heap.size ≤ B) (hm : Mod (fun k => v.ownBlock = some k) w w') : Still w0 w' :=
  Mod.trans h hm (fun _ h => h) (fun i hi e => by have := ho.ownLt e; omega)
theorem Row.own {w w' : World} {B g : Nat} {e t : TypeId} {cs : Array Value} {size : Nat} {v : Value} {n : Nat} {xs : List Value} (h : Row w g t cs) (ho : Owns w B e size v n xs) (hg : g < B ∨ t ≠ e) (hm : Mod (fun k => v.ownBlock = some k) w w') : Row w' g t cs :=
  h.mod hm fun hk => by
    rcases hg with hg | hg
    · have := ho.ownLt hk; omega
    · obtain ⟨cur, hc⟩ := ho.typed hk
      exact h.ne hc hg rfl
theorem appK_push {w : World} {B : Nat} {e : TypeId} {sz bytes : Nat} {p q : Option Addr} {n c m : Nat} {xs : List Value} {K : Option Addr → Nat → World → Prop} (ho : Owns w B e sz (.slice p n c) n xs) (hB : B ≤ w.heap.size) (news : List Value)
    (hn : news.length = m * sz) (h1 : ∀ u ∈ news, u.oneCell' = true) (hq : 0 < m → ∃ a, q = some a ∧ ∀ j u, news[j]? = some u → w.cell? (a.add j) = some u) (hs : n + m ≤ 9223372036854775807) (hb : (n + m) * bytes ≤ 140737488355328)
    (h : ∀ p' c' w', Owns w' B e sz (.slice p' (n + m) c') (n + m) (xs ++ news) → Mod (fun k => (Value.slice p n c).ownBlock = some k) w w' → Blk p p' (n + m) c c' w.heap.size → K p' c' w') : appK w e sz bytes p n c q m K := by
  refine ⟨xs, news, ho.base0, hn, h1, hq, hs, hb, fun p' c' w' ho' hg hk => h p' c' w' (ho'.base fun k hk' => ?_) ((Mod.refl _ _).grown hg fun g hg => .inl hg) hk⟩
  rcases hk.own (n := n) with hk | hk
  · exact (ho.lt k (hk.symm.trans hk')).1
  · rw [hk'] at hk
    obtain rfl := Option.some.inj hk
    exact hB
theorem appS_push {w : World} {B : Nat} {e : TypeId} {sz bytes : Nat} {p : Option Addr} {n c : Nat} {b : List UInt8} {xs : List Value} {K : Option Addr → Nat → World → Prop} (ho : Owns w B e sz (.slice p n c) n xs) (hB : B ≤ w.heap.size)
    (hs : n + b.length ≤ 9223372036854775807) (hb : (n + b.length) * bytes ≤ 140737488355328)
    (h : ∀ p' c' w', Owns w' B e sz (.slice p' (n + b.length) c') (n + b.length) (xs ++ bc b) → Mod (fun k => (Value.slice p n c).ownBlock = some k) w w' → Blk p p' (n + b.length) c c' w.heap.size → K p' c' w') : appS w e sz bytes p n c b K := by
  refine ⟨xs, ho.base0, hs, hb, fun p' c' w' ho' hg hk => h p' c' w' (ho'.base fun k hk' => ?_) ((Mod.refl _ _).grown hg fun g hg => .inl hg) hk⟩
  rcases hk.own (n := n) with hk | hk
  · exact (ho.lt k (hk.symm.trans hk')).1
  · rw [hk'] at hk
    obtain rfl := Option.some.inj hk
    exact hB
theorem push1 {w : World} {B : Nat} {e : TypeId} {sz bytes : Nat} {p : Option Addr} {n c : Nat} {xs cs : List Value} {K : Option Addr → Nat → World → Prop} (ho : Owns w B e sz (.slice p n c) n xs) (hB : B ≤ w.heap.size)
    (hl : cs.length = sz) (h1 : ∀ u ∈ cs, u.oneCell' = true) (hs : n + 1 ≤ 9223372036854775807) (hb : (n + 1) * bytes ≤ 140737488355328)
    (h : ∀ p' c' w', Owns w' B e sz (.slice p' (n + 1) c') (n + 1) (xs ++ cs) → Mod (fun k => (Value.slice p n c).ownBlock = some k) w w' → K p' c' w') :
    letW (w.alloc (.cells ⟨cs⟩ e)) (fun w2 => appK w2 e sz bytes p n c (some (Addr.mk w.heap.size 0 none)) 1 K) := by
  refine allocK fun w1 hr hst hz => ?_
  refine appK_push (ho.still hst) (by omega) cs (by omega) h1 (fun _ => ⟨_, rfl, fun j u hu => ?_⟩) hs hb fun p' c' w' ho' hm _ => h p' c' w' ho' (Mod.trans hst hm (fun _ h => h.elim) (fun _ _ h => h))
  rw [add_row, Nat.zero_add]
  exact hr.cellv (by simpa using hu)
theorem Owns.apart {w : World} {B B' : Nat} {e e' : TypeId} {size size' : Nat} {v v' : Value} {n n' : Nat} {xs xs' : List Value} (h : Owns w B e size v n xs) (h' : Owns w B' e' size' v' n' xs') (hne : e ≠ e') {k : Nat} (hk : v.ownBlock = some k) : v'.ownBlock ≠ some k := by
  intro hk'
  obtain ⟨cur, hr⟩ := h.typed hk
  obtain ⟨cur', hr'⟩ := h'.typed hk'
  exact hr.ne hr' hne rfl
def At (w : World) (p : Option Addr) (n : Nat) (cs : List Value) : Prop := 0 < n → ∃ a, p = some a ∧ ∀ (j : Nat) (u : Value), cs[j]? = some u → w.cell? (a.add j) = some u
theorem At.still {w w' : World} {p : Option Addr} {n : Nat} {cs : List Value} (h : At w p n cs) (hm : Still w w') : At w' p n cs := fun hn => by
  obtain ⟨a, h1, h2⟩ := h hn
  exact ⟨a, h1, fun j u hu => hm.cell (h2 j u hu)⟩
def Ahead (B : Nat) (p : Option Addr) : Prop := ∀ a, p = some a → a.block < B
theorem At.from {w w' : World} {p : Option Addr} {n B : Nat} {cs : List Value} (h : At w p n cs) (hp : Ahead B p) {S : Nat → Prop} (hm : Mod S w w') (hS : ∀ k, S k → B ≤ k) : At w' p n cs := fun hn => by
  obtain ⟨a, rfl, h2⟩ := h hn
  refine ⟨a, rfl, fun j u hu => ?_⟩
  have hc := h2 j u hu
  have hb : (a.add j).block = a.block := by unfold Addr.add; split <;> rfl
  refine (World.cell?_of_block (hm.block _ (World.block_lt_of_cell? _ _ hc) (fun e => ?_))).trans hc
  have := hS _ e
  have := hp a rfl
  omega
theorem At.own {w : World} {B : Nat} {e : TypeId} {size : Nat} {p : Option Addr} {n C : Nat} {cs : List Value} (h : Owns w B e size (.slice p n C) n cs) : At w p n cs := fun hn => by
  obtain ⟨g, cap, he, _, _, _, hc⟩ := h.ownAddr hn
  injection he with e1 e2 e3
  subst e1
  refine ⟨_, rfl, fun j u hu => ?_⟩
  rw [add_row, Nat.zero_add]
  exact hc j u hu
theorem At.row {w : World} {g n : Nat} {t : TypeId} {cs : List Value} (h : Row w g t ⟨cs⟩) : At w (some ⟨g, 0, none⟩) n cs := fun _ => ⟨_, rfl, fun j u hu => by
  rw [add_row, Nat.zero_add]
  exact h.lget hu⟩
end Go.Proofs.YtkdlmkbpfdogcaaGreatDoor
namespace Go.Proofs.YtkdlmkbpfdogcaaGreatDoor
open Go.RowKit Vc
variable {w : World}
theorem getD_some {α : Type} {p : List α} {i : Nat} (h : i < p.length) : p[i]? = some p[i] := List.getElem?_eq_getElem h
theorem take_snoc {α : Type} {l : List α} {k : Nat} (h : k < l.length) : l.take (k + 1) = l.take k ++ [l[k]] := by rw [List.take_add_one, getD_some h]; rfl
theorem byte_eq {a b : UInt8} : (a.toNat : Int) = (b.toNat : Int) ↔ a = b := ⟨fun h => UInt8.toNat_inj.1 (by omega), fun h => by rw [h]⟩
theorem tmod_nat (k m : Nat) : Int.tmod (k : Int) (m : Int) = ((k % m : Nat) : Int) := (Int.ofNat_tmod k m).symm
def strs (l : List Txt) : List Value := l.map fun x => .string (S x)
theorem strs_append (l m : List Txt) : strs (l ++ m) = strs l ++ strs m := by simp [strs]
theorem strs_length (l : List Txt) : (strs l).length = l.length := by simp [strs]
theorem strs_one (l : List Txt) : ∀ u ∈ strs l, u.oneCell' = true := by
  intro u hu
  simp only [strs, List.mem_map] at hu
  obtain ⟨x, _, rfl⟩ := hu
  rfl
def StrsAt (w : World) (p : Option Addr) (n : Nat) (l : List Txt) : Prop := l.length = n ∧ At w p n (strs l)
theorem StrsAt.still {p : Option Addr} {n : Nat} {l : List Txt} {w' : World} (h : StrsAt w p n l) (hm : Still w w') : StrsAt w' p n l := ⟨h.1, h.2.still hm⟩
theorem StrsAt.of {B : Nat} {p : Option Addr} {n C : Nat} {l : List Txt} (h : Owns w B 9 1 (.slice p n C) n (strs l)) : StrsAt w p n l := ⟨by have := h.length; rw [strs_length] at this; omega, At.own h⟩
theorem StrsAt.row {g : Nat} {t : TypeId} {l : List Txt} (h : Row w g t ⟨strs l⟩) : StrsAt w (some ⟨g, 0, none⟩) l.length l := ⟨rfl, At.row h⟩
theorem StrsAt.nil (w : World) : StrsAt w none 0 [] := ⟨rfl, fun h => absurd h (Nat.lt_irrefl _)⟩
theorem StrsAt.get {p : Option Addr} {n : Nat} {l : List Txt} (h : StrsAt w p n l) {k : Nat} (hk : k < n) : ∃ a, p = some a ∧ w.cell? (a.add k) = some (.string (S (l[k]'(by have := h.1; omega)))) := by
  obtain ⟨a, h1, h2⟩ := h.2 (by omega)
  refine ⟨a, h1, h2 k _ ?_⟩
  have := h.1
  simp [strs, show k < l.length by omega]
def u8s (vs : List Nat) : List Value := vs.map fun v : Nat => .int .u8 (v : Int)
def U8At (w : World) (p : Option Addr) (n : Nat) (vs : List Nat) : Prop := vs.length = n ∧ (∀ v ∈ vs, v < 256) ∧ At w p n (u8s vs)
theorem U8At.still {p : Option Addr} {n : Nat} {vs : List Nat} {w' : World} (h : U8At w p n vs) (hm : Still w w') : U8At w' p n vs := ⟨h.1, h.2.1, h.2.2.still hm⟩
theorem U8At.get {p : Option Addr} {n : Nat} {vs : List Nat} (h : U8At w p n vs) {k : Nat} (hk : k < n) : ∃ a v, p = some a ∧ vs[k]? = some v ∧ v < 256 ∧ w.cell? (a.add k) = some (.int .u8 (v : Int)) := by
  obtain ⟨h1, h2, h3⟩ := h
  obtain ⟨a, h4, h5⟩ := h3 (by omega)
  refine ⟨a, vs[k]'(by omega), h4, getD_some _, h2 _ (List.getElem_mem _), h5 k _ ?_⟩
  simp [u8s, show k < vs.length by omega]
end Go.Proofs.YtkdlmkbpfdogcaaGreatDoor
namespace Go.Proofs.YtkdlmkbpfdogcaaGreatDoor
open Go.RowKit Vc
inductive Pr (α : Type) where
  | ok (n : α)
  | bad (k : Nat)
def lowN (c : UInt8) : Nat := (c ||| 32).toNat
def digV (c : UInt8) : Option Nat := if 48 ≤ c.toNat ∧ c.toNat ≤ 57 then some (c.toNat - 48) else if 97 ≤ lowN c ∧ lowN c ≤ 122 then some (lowN c - 97 + 10) else none
def scanU (b : Nat) : Txt → Nat → Pr Nat
  | [], n => .ok n
  | c :: s, n => match digV c with
    | none => .bad 2
    | some d => if b ≤ d then .bad 2 else if 18446744073709551615 < n * b + d then .bad 1 else scanU b s (n * b + d)
def parseU (b : Nat) (s : Txt) : Pr Nat := if s = [] then .bad 2 else scanU b s 0
def signed (neg : Bool) (r : Pr Nat) : Pr Int := match r with
  | .bad k => .bad k
  | .ok n => if neg = true then (if 9223372036854775808 < n then .bad 1 else .ok (-(n : Int))) else if 9223372036854775808 ≤ n then .bad 1 else .ok (n : Int)
def parseI (b : Nat) (s : Txt) : Pr Int := match s with
  | [] => .bad 2
  | c :: t => if c = 43 then signed false (parseU b t) else if c = 45 then signed true (parseU b t) else signed false (parseU b (c :: t))
theorem scanU_bad {b : Nat} : ∀ {s : Txt} {n k : Nat}, scanU b s n = .bad k → k = 1 ∨ k = 2
  | [], n, k, h => by cases h
  | c :: s, n, k, h => by
    simp only [scanU] at h
    split at h
    · injection h with h; exact .inr h.symm
    · split at h
      · injection h with h; exact .inr h.symm
      · split at h
        · injection h with h; exact .inl h.symm
        · exact scanU_bad h
theorem scanU_le {b : Nat} : ∀ {s : Txt} {n m : Nat}, n ≤ 18446744073709551615 → scanU b s n = .ok m → m ≤ 18446744073709551615
  | [], n, m, hn, h => by injection h with h; omega
  | c :: s, n, m, hn, h => by
    simp only [scanU] at h
    split at h
    · cases h
    · split at h
      · cases h
      · split at h
        · cases h
        · exact scanU_le (by omega) h
theorem parseU_bad {b : Nat} {s : Txt} {k : Nat} (h : parseU b s = .bad k) : k = 1 ∨ k = 2 := by
  unfold parseU at h
  split at h
  · injection h with h; exact .inr h.symm
  · exact scanU_bad h
theorem parseU_le {b : Nat} {s : Txt} {m : Nat} (h : parseU b s = .ok m) : m ≤ 18446744073709551615 := by
  unfold parseU at h
  split at h
  · cases h
  · exact scanU_le (by decide) h
theorem signed_bad {neg : Bool} {r : Pr Nat} {k : Nat} (hr : ∀ j, r = .bad j → j = 1 ∨ j = 2) (h : signed neg r = .bad k) : k = 1 ∨ k = 2 := by
  unfold signed at h
  split at h
  · injection h with h
    subst h
    exact hr _ rfl
  · split at h
    · split at h
      · injection h with h; exact .inl h.symm
      · cases h
    · split at h
      · injection h with h; exact .inl h.symm
      · cases h
theorem parseI_bad {b : Nat} {s : Txt} {k : Nat} (h : parseI b s = .bad k) : k = 1 ∨ k = 2 := by
  unfold parseI at h
  split at h
  · injection h with h; exact .inr h.symm
  · split at h
    · exact signed_bad (fun _ => parseU_bad) h
    · split at h <;> exact signed_bad (fun _ => parseU_bad) h
theorem signed_range {neg : Bool} {r : Pr Nat} {n : Int} (h : signed neg r = .ok n) : -9223372036854775808 ≤ n ∧ n < 9223372036854775808 := by
  unfold signed at h
  split at h
  · cases h
  · split at h
    · split at h
      · cases h
      · injection h with h; omega
    · split at h
      · cases h
      · injection h with h; omega
theorem parseI_range {b : Nat} {s : Txt} {n : Int} (h : parseI b s = .ok n) : -9223372036854775808 ≤ n ∧ n < 9223372036854775808 := by
  unfold parseI at h
  split at h
  · cases h
  · split at h
    · exact signed_range h
    · split at h <;> exact signed_range h
def isDig (c : UInt8) : Bool := decide (48 ≤ c.toNat) && decide (c.toNat ≤ 57)
theorem digV_dig {c : UInt8} (h : isDig c = true) : digV c = some (c.toNat - 48) := by
  unfold isDig at h
  simp only [Bool.and_eq_true, decide_eq_true_eq] at h
  unfold digV
  rw [if_pos h]
def valD (s : Txt) (n : Nat) : Nat := s.foldl (fun n c => n * 10 + (c.toNat - 48)) n
theorem valD_snoc (s : Txt) (c : UInt8) (n : Nat) : valD (s ++ [c]) n = valD s n * 10 + (c.toNat - 48) := by simp [valD]
theorem valD_bound : ∀ {s : Txt}, s.all isDig = true → ∀ n, valD s n < (n + 1) * 10 ^ s.length
  | [], _, n => by simp [valD]
  | c :: s, h, n => by
    simp only [List.all_cons, Bool.and_eq_true] at h
    have ih := valD_bound h.2 (n * 10 + (c.toNat - 48))
    have hd := h.1
    unfold isDig at hd
    simp only [Bool.and_eq_true, decide_eq_true_eq] at hd
    have h2 : (n * 10 + (c.toNat - 48) + 1) * 10 ^ s.length ≤ ((n + 1) * 10) * 10 ^ s.length := Nat.mul_le_mul_right _ (by omega)
    have e : (n + 1) * 10 ^ (c :: s).length = ((n + 1) * 10) * 10 ^ s.length := by rw [List.length_cons, Nat.pow_succ, Nat.mul_assoc, Nat.mul_comm 10]
    rw [e]
    exact Nat.lt_of_lt_of_le ih h2
theorem valD_ge : ∀ (s : Txt) (n : Nat), n ≤ valD s n
  | [], n => Nat.le_refl _
  | c :: s, n => by
    have := valD_ge s (n * 10 + (c.toNat - 48))
    show n ≤ valD s (n * 10 + (c.toNat - 48))
    omega
theorem scanU_digs : ∀ {s : Txt} {n : Nat}, s.all isDig = true → valD s n ≤ 18446744073709551615 → scanU 10 s n = .ok (valD s n)
  | [], n, _, _ => rfl
  | c :: s, n, h, hv => by
    simp only [List.all_cons, Bool.and_eq_true] at h
    have hd := h.1
    have hv' : valD s (n * 10 + (c.toNat - 48)) ≤ 18446744073709551615 := hv
    have hge := valD_ge s (n * 10 + (c.toNat - 48))
    simp only [scanU, digV_dig hd]
    unfold isDig at hd
    simp only [Bool.and_eq_true, decide_eq_true_eq] at hd
    rw [if_neg (by omega), if_neg (by omega)]
    exact scanU_digs h.2 hv'
abbrev dec (n : Nat) : Txt := Lib.decDigits n
theorem dec_small {n : Nat} (h : n < 10) : dec n = [UInt8.ofNat (48 + n)] := Lib.decDigits_one h
theorem dec_step {n : Nat} (h : ¬ n < 10) : dec n = dec (n / 10) ++ [UInt8.ofNat (48 + n % 10)] := by
  conv => lhs; unfold dec; rw [Lib.decDigits]
  rw [dif_neg h]
theorem digit_of {d : Nat} (h : d < 10) : isDig (UInt8.ofNat (48 + d)) = true ∧ (UInt8.ofNat (48 + d)).toNat - 48 = d := by
  have e : (UInt8.ofNat (48 + d)).toNat = 48 + d := by
    rw [UInt8.toNat_ofNat']
    omega
  unfold isDig
  rw [e]
  constructor
  · simp; omega
  · omega
theorem dec_ne (n : Nat) : dec n ≠ [] := by
  rcases Nat.lt_or_ge n 10 with h | h
  · rw [dec_small h]; simp
  · rw [dec_step (by omega)]; simp
theorem dec_digs : ∀ n : Nat, (dec n).all isDig = true ∧ valD (dec n) 0 = n := by
  intro n
  induction n using Nat.strongRecOn with
  | _ n ih =>
    rcases Nat.lt_or_ge n 10 with h | h
    · rw [dec_small h]
      obtain ⟨h1, h2⟩ := digit_of h
      generalize UInt8.ofNat (48 + n) = x at *
      exact ⟨by simp [h1], by simp [valD, h2]⟩
    · rw [dec_step (by omega)]
      obtain ⟨i1, i2⟩ := ih (n / 10) (by omega)
      obtain ⟨h1, h2⟩ := digit_of (d := n % 10) (by omega)
      generalize UInt8.ofNat (48 + n % 10) = x at *
      refine ⟨by rw [List.all_append, i1]; simp [h1], ?_⟩
      rw [valD_snoc, i2, h2]
      omega
def numR (s : Txt) : Option Nat := if s ≠ [] ∧ s.length ≤ 9 ∧ s.all isDig = true ∧ (s.head? = some 48 → s.length = 1) then some (valD s 0) else none
theorem snoc_form {α : Type} : ∀ {l : List α}, l ≠ [] → ∃ t x, l = t ++ [x]
  | [], h => absurd rfl h
  | [a], _ => ⟨[], a, rfl⟩
  | a :: b :: l, _ => by
    obtain ⟨t, x, h⟩ := snoc_form (l := b :: l) (by simp)
    exact ⟨a :: t, x, by rw [h]; rfl⟩
theorem dec_val : ∀ (k : Nat) (s : Txt), s.length = k → s ≠ [] → s.all isDig = true → (s.head? = some 48 → s.length = 1) → dec (valD s 0) = s := by
  intro k
  induction k with
  | zero => intro s hl h; exact absurd (List.eq_nil_of_length_eq_zero hl) h
  | succ k ih =>
    intro s hl hne hd hz
    obtain ⟨t, x, rfl⟩ := snoc_form hne
    rw [List.all_append] at hd
    simp only [List.all_cons, List.all_nil, Bool.and_true, Bool.and_eq_true] at hd
    obtain ⟨ht, hx⟩ := hd
    have hx' := hx
    unfold isDig at hx'
    simp only [Bool.and_eq_true, decide_eq_true_eq] at hx'
    have ex : UInt8.ofNat (48 + (x.toNat - 48)) = x := by
      have : 48 + (x.toNat - 48) = x.toNat := by omega
      rw [this]
      simp
    rw [valD_snoc]
    rcases Decidable.em (t = []) with rfl | htn
    · simp only [valD, List.foldl_nil, Nat.zero_mul, Nat.zero_add, List.nil_append]
      rw [dec_small (by omega), ex]
    · have htl : t.length = k := by simpa using hl
      have hz' : t.head? = some 48 → t.length = 1 := by
        intro h0
        have h1 : (t ++ [x]).head? = some 48 := by
          cases t with
          | nil => exact absurd rfl htn
          | cons a t => simpa using h0
        have := hz h1
        have h2 : t.length ≠ 0 := fun e => htn (List.eq_nil_of_length_eq_zero e)
        simp only [List.length_append, List.length_cons, List.length_nil] at this
        omega
      have iht := ih t htl htn ht hz'
      have hpos : 0 < valD t 0 := by
        rcases Nat.eq_zero_or_pos (valD t 0) with e | e
        · rw [e, dec_small (by decide)] at iht
          have h1 : (t ++ [x]).head? = some 48 := by rw [← iht]; rfl
          have := hz h1
          rw [← iht] at this
          simp at this
        · exact e
      rw [dec_step (by omega)]
      have e1 : (valD t 0 * 10 + (x.toNat - 48)) / 10 = valD t 0 := by omega
      have e2 : (valD t 0 * 10 + (x.toNat - 48)) % 10 = x.toNat - 48 := by omega
      rw [e1, e2, iht, ex]
theorem numR_dec {n : Nat} (h : (dec n).length ≤ 9) : numR (dec n) = some n := by
  obtain ⟨h1, h2⟩ := dec_digs n
  have hz : (dec n).head? = some 48 → (dec n).length = 1 := by
    intro h0
    rcases Nat.lt_or_ge n 10 with h | h
    · rw [dec_small h]; rfl
    · exfalso
      have key : ∀ m : Nat, 10 ≤ m → (dec m).head? ≠ some 48 := by
        intro m
        induction m using Nat.strongRecOn with
        | _ m ih =>
          intro hm
          rw [dec_step (by omega)]
          rcases Nat.lt_or_ge (m / 10) 10 with h1 | h1
          · rw [dec_small h1]
            intro e
            have e : UInt8.ofNat (48 + m / 10) = 48 := by simpa using e
            have := congrArg UInt8.toNat e
            rw [UInt8.toNat_ofNat'] at this
            simp at this
            omega
          · have := ih (m / 10) (by omega) h1
            cases hd : dec (m / 10) with
            | nil => exact absurd hd (dec_ne _)
            | cons a t =>
              rw [hd] at this
              simpa using this
      exact key n h h0
  unfold numR
  rw [if_pos ⟨dec_ne n, h, h1, hz⟩, h2]
theorem numR_some {s : Txt} {n : Nat} (h : numR s = some n) : dec n = s ∧ s.length ≤ 9 := by
  unfold numR at h
  split at h
  · rename_i hc
    injection h with h
    subst h
    exact ⟨dec_val _ s rfl hc.1 hc.2.2.1 hc.2.2.2, hc.2.1⟩
  · cases h
theorem parseI_dec {s : Txt} {n : Nat} (h : numR s = some n) : parseI 10 s = .ok (n : Int) := by
  unfold numR at h
  split at h
  · rename_i hc
    injection h with h
    subst h
    have hb := valD_bound hc.2.2.1 0
    have hp : 10 ^ s.length ≤ 10 ^ 9 := Nat.pow_le_pow_right (by decide) hc.2.1
    have hv : valD s 0 < 1000000000 := by omega
    cases s with
    | nil => exact absurd rfl hc.1
    | cons c t =>
      have hd := hc.2.2.1
      simp only [List.all_cons, Bool.and_eq_true] at hd
      have hd1 := hd.1
      unfold isDig at hd1
      simp only [Bool.and_eq_true, decide_eq_true_eq] at hd1
      have n43 : c ≠ 43 := by rintro rfl; simp at hd1
      have n45 : c ≠ 45 := by rintro rfl; simp at hd1
      simp only [parseI, if_neg n43, if_neg n45]
      unfold parseU
      rw [if_neg (by simp), scanU_digs hc.2.2.1 (by omega)]
      simp only [signed, Bool.false_eq_true, if_false]
      rw [if_neg (by omega)]
  · cases h
theorem dec_len9 {n : Nat} (h : n < 1000000000) : (dec n).length ≤ 9 := by
  have key : ∀ (k m : Nat), m < 10 ^ (k + 1) → (dec m).length ≤ k + 1 := by
    intro k
    induction k with
    | zero => intro m hm; rw [dec_small (by omega)]; simp
    | succ k ih =>
      intro m hm
      rcases Nat.lt_or_ge m 10 with h1 | h1
      · rw [dec_small h1]; simp
      · rw [dec_step (by omega), List.length_append]
        have := ih (m / 10) (by rw [Nat.pow_succ] at hm; omega)
        simp only [List.length_cons, List.length_nil]
        omega
  exact key 8 n (by omega)
theorem numR_lt {s : Txt} {n : Nat} (h : numR s = some n) : n < 1000000000 := by
  unfold numR at h
  split at h
  · rename_i hc
    injection h with h
    subst h
    have hb := valD_bound hc.2.2.1 0
    have hp : 10 ^ s.length ≤ 10 ^ 9 := Nat.pow_le_pow_right (by decide) hc.2.1
    omega
  · cases h
def colon (s : Txt) : Nat := (s.takeWhile (fun c => c != 58)).length
theorem colon_cons (c : UInt8) (s : Txt) : colon (c :: s) = if c = 58 then 0 else colon s + 1 := by
  unfold colon
  rw [List.takeWhile_cons]
  by_cases h : c = 58
  · simp [h]
  · simp [h]
theorem colon_le : ∀ s : Txt, colon s ≤ s.length
  | [] => Nat.le_refl _
  | c :: s => by
    rw [colon_cons]
    split
    · exact Nat.zero_le _
    · have := colon_le s
      simp only [List.length_cons]
      omega
theorem colon_at : ∀ {s : Txt} {k : Nat}, k < colon s → ∃ c, s[k]? = some c ∧ c ≠ 58
  | [], k, h => by simp [colon] at h
  | c :: s, k, h => by
    rw [colon_cons] at h
    split at h
    · omega
    · rename_i hc
      cases k with
      | zero => exact ⟨c, rfl, hc⟩
      | succ k => simpa using colon_at (s := s) (k := k) (by omega)
theorem colon_hit : ∀ {s : Txt}, colon s < s.length → s[colon s]? = some 58
  | [], h => by simp at h
  | c :: s, h => by
    rw [colon_cons] at h ⊢
    split
    · rename_i hc
      simp [hc]
    · rename_i hc
      rw [if_neg hc] at h
      simp only [List.length_cons] at h
      simpa using colon_hit (s := s) (by omega)
theorem colon_eq {s : Txt} {k : Nat} (h : s[k]? = some 58) (hl : ∀ j, j < k → s[j]? ≠ some 58) : colon s = k := by
  induction s generalizing k with
  | nil => simp at h
  | cons c s ih =>
    rw [colon_cons]
    cases k with
    | zero =>
      simp at h
      rw [if_pos h]
    | succ k =>
      have hc : c ≠ 58 := fun e => hl 0 (by omega) (by simp [e])
      rw [if_neg hc, ih (by simpa using h) (fun j hj => by simpa using hl (j + 1) (by omega))]
theorem index_colon : ∀ s : Txt, Lib.indexByte s 58 = if colon s < s.length then (colon s : Int) else -1
  | [] => by simp [Lib.indexByte]
  | c :: s => by
    have ih := index_colon s
    rw [colon_cons]
    by_cases hc : c = 58
    · simp [Lib.indexByte, hc]
    · rw [if_neg hc, List.length_cons]
      simp only [Lib.indexByte, beq_iff_eq, hc, if_false, ih]
      by_cases h : colon s < s.length
      · have h2 : ¬ ((colon s : Int) = -1) := by omega
        simp only [h, if_true, h2, if_false]
        rw [if_pos (by omega)]
        omega
      · simp only [h, if_false, if_true]
        rw [if_neg (by omega)]
def step (s : Txt) : Option (Txt × Txt) := match numR (s.take (colon s)) with
  | none => none
  | some n => if s[colon s + 1 + n]? = some 44 then some ((s.drop (colon s + 1)).take n, s.drop (colon s + 2 + n)) else none
def decT : Nat → Txt → List Txt → Option (List Txt)
  | 0, _, _ => none
  | f + 1, s, acc => if s = [] then some acc else match step s with
    | none => none
    | some (x, r) => decT f r (acc ++ [x])
def decode (s : Txt) : Option (List Txt) := decT (s.length + 1) s []
def one (x : Txt) : Txt := ((dec x.length ++ [58]) ++ x) ++ [44]
def encode (l : List Txt) : Txt := (l.map one).flatten
theorem encode_append (l m : List Txt) : encode (l ++ m) = encode l ++ encode m := by simp [encode]
theorem encode_cons (x : Txt) (m : List Txt) : encode (x :: m) = one x ++ encode m := by simp [encode]
theorem step_form {s x r : Txt} (h : step s = some (x, r)) : one x ++ r = s ∧ r.length < s.length ∧ x.length < s.length ∧ x.length + 1 + r.length ≤ s.length := by
  unfold step at h
  split at h
  · cases h
  · rename_i n hn
    split at h
    · rename_i h44
      injection h with h
      injection h with hx hr
      obtain ⟨hd, h9⟩ := numR_some hn
      have hlt := (List.getElem?_eq_some_iff.1 h44).1
      have hc := colon_hit (s := s) (by omega)
      have hxl : x.length = n := by rw [← hx, List.length_take, List.length_drop]; omega
      have e : s = s.take (colon s) ++ 58 :: ((s.drop (colon s + 1)).take n ++ 44 :: s.drop (colon s + 2 + n)) := by
        obtain ⟨g1, g2⟩ := List.getElem?_eq_some_iff.1 hc
        obtain ⟨g3, g4⟩ := List.getElem?_eq_some_iff.1 h44
        conv => lhs; rw [← List.take_append_drop (colon s) s]
        rw [List.drop_eq_getElem_cons g1, g2]
        have e2 : s.drop (colon s + 1) = (s.drop (colon s + 1)).take n ++ (s.drop (colon s + 1)).drop n := (List.take_append_drop _ _).symm
        rw [List.drop_drop] at e2
        conv => lhs; rw [e2]
        rw [List.drop_eq_getElem_cons g3, g4]
        rw [show colon s + 1 + n + 1 = colon s + 2 + n by omega]
      refine ⟨?_, by rw [← hr, List.length_drop]; omega, by omega, by rw [hxl, ← hr, List.length_drop]; omega⟩
      unfold one
      rw [hxl, hd, ← hx, ← hr]
      conv => rhs; rw [e]
      simp
    · cases h
theorem step_one {x : Txt} (hx : (dec x.length).length ≤ 9) (r : Txt) : step (one x ++ r) = some (x, r) := by
  have e : one x ++ r = dec x.length ++ (58 :: (x ++ 44 :: r)) := by simp [one]
  rw [e]
  have hc : colon (dec x.length ++ (58 :: (x ++ 44 :: r))) = (dec x.length).length := by
    refine colon_eq (by simp) (fun j hj hh => ?_)
    rw [List.getElem?_append_left hj] at hh
    have hd := (dec_digs x.length).1
    have := List.all_eq_true.1 hd _ (List.mem_of_getElem? hh)
    revert this
    decide
  unfold step
  rw [hc, List.take_left, numR_dec hx]
  dsimp only
  have h1 : (dec x.length ++ (58 :: (x ++ 44 :: r)))[(dec x.length).length + 1 + x.length]? = some 44 := by
    rw [List.getElem?_append_right (by omega), show (dec x.length).length + 1 + x.length - (dec x.length).length = x.length + 1 by omega]
    simp
  rw [if_pos h1]
  have h2 : (dec x.length ++ (58 :: (x ++ 44 :: r))).drop ((dec x.length).length + 1) = x ++ 44 :: r := by
    rw [← List.drop_drop, List.drop_left]; rfl
  have h3 : (dec x.length ++ (58 :: (x ++ 44 :: r))).drop ((dec x.length).length + 2 + x.length) = r := by
    rw [show (dec x.length).length + 2 + x.length = (dec x.length).length + 1 + (x.length + 1) by omega, ← List.drop_drop, h2, ← List.drop_drop, List.drop_left]; rfl
  rw [h2, h3, List.take_left]
theorem one_ne (x : Txt) : one x ≠ [] := by simp [one]
theorem decT_encode : ∀ (l : List Txt) (f : Nat) (acc : List Txt), (∀ x ∈ l, (dec x.length).length ≤ 9) → (encode l).length < f → decT f (encode l) acc = some (acc ++ l)
  | [], f, acc, _, hf => by
    cases f with
    | zero => simp at hf
    | succ f => simp [decT, encode]
  | x :: l, f, acc, h, hf => by
    rw [encode_cons] at hf ⊢
    cases f with
    | zero => simp at hf
    | succ f =>
      have h0 : one x ++ encode l ≠ [] := by simp [one_ne]
      have hp : 0 < (one x).length := List.length_pos_iff.2 (one_ne x)
      rw [List.length_append] at hf
      simp only [decT]
      rw [if_neg h0, step_one (h x (by simp))]
      dsimp only
      rw [decT_encode l f (acc ++ [x]) (fun y hy => h y (by simp [hy])) (by omega), List.append_assoc]
      rfl
theorem decode_encode {l : List Txt} (h : ∀ x ∈ l, (dec x.length).length ≤ 9) : decode (encode l) = some l := by
  unfold decode
  rw [decT_encode l _ [] h (Nat.lt_succ_self _)]
  rfl
def total (l : List Txt) : Nat := (l.map fun x => x.length + 1).sum
theorem total_snoc (l : List Txt) (x : Txt) : total (l ++ [x]) = total l + (x.length + 1) := by simp [total]
theorem total_cons (x : Txt) (l : List Txt) : total (x :: l) = x.length + 1 + total l := by simp [total]
theorem total_take_le (l : List Txt) (k : Nat) : total (l.take k) ≤ total l := by
  have := congrArg total (List.take_append_drop k l)
  have h : ∀ a b : List Txt, total (a ++ b) = total a + total b := by intro a b; simp [total]
  rw [h] at this
  omega
theorem total_mem {l : List Txt} {x : Txt} (h : x ∈ l) : x.length + 1 ≤ total l := by
  induction l with
  | nil => cases h
  | cons y l ih =>
    rw [total_cons]
    rcases List.mem_cons.1 h with rfl | h
    · omega
    · have := ih h
      omega
theorem total_length (l : List Txt) : l.length ≤ total l := by
  induction l with
  | nil => simp [total]
  | cons y l ih => rw [total_cons]; simp only [List.length_cons]; omega
theorem few_nine {l : List Txt} (h : total l ≤ 100000) : ∀ x ∈ l, (dec x.length).length ≤ 9 := fun x hx => dec_len9 (by have := total_mem hx; omega)
theorem encode_len {l : List Txt} (h : ∀ x ∈ l, (dec x.length).length ≤ 9) : (encode l).length ≤ 11 * total l := by
  induction l with
  | nil => simp [encode]
  | cons x l ih =>
    rw [encode_cons, total_cons, List.length_append]
    have := ih (fun y hy => h y (by simp [hy]))
    have := h x (by simp)
    simp only [one, List.length_append, List.length_cons, List.length_nil]
    omega
theorem decT_total : ∀ {f : Nat} {s : Txt} {acc l : List Txt}, decT f s acc = some l → total l ≤ total acc + s.length
  | 0, _, _, _, h => by cases h
  | f + 1, s, acc, l, h => by
    simp only [decT] at h
    split at h
    · injection h with h
      rw [h]
      omega
    · split at h
      · cases h
      · rename_i x r hst
        have h1 := decT_total h
        have h2 := (step_form hst).2.2.2
        rw [total_snoc] at h1
        omega
theorem decode_total {s : Txt} {l : List Txt} (h : decode s = some l) : total l ≤ s.length := by
  have := decT_total h
  simpa [total] using this
end Go.Proofs.YtkdlmkbpfdogcaaGreatDoor
namespace Go.Proofs.YtkdlmkbpfdogcaaGreatDoor
open Go.RowKit Vc
variable {w : World}
structure BldAt0 (w : World) (T g o B : Nat) (cs : List Value) (v : Value) (bs : List UInt8) : Prop where
  row : Row w g T ⟨cs⟩
  addr : cs[o]? = some (.pointer none) ∨ cs[o]? = some (.pointer (some ⟨g, o, none⟩))
  buf : cs[o + 1]? = some v
  own : Owns w B 5 1 v bs.length (bc bs)
  ne : v.ownBlock ≠ some g
def Roomy (v : Value) (bs : List UInt8) : Prop := ∀ p c, v = .slice p bs.length c → p = none ∨ c ≠ 0
structure BldAt (w : World) (T g o B : Nat) (cs : List Value) (v : Value) (bs : List UInt8) : Prop extends BldAt0 w T g o B cs v bs where
  room : Roomy v bs
def LiesB (T n o : Nat) : Prop := liesAt Tryz.prog Tryz.prog.depth T (n / Tryz.prog.cellsOf T) o 115 1 = true
theorem Row.shape {g : Nat} {t : TypeId} {cs : List Value} (h : Row w g t ⟨cs⟩) : w.shape? g = some (t, cs.length) := by
  obtain ⟨fz, h, _⟩ := h
  simp [World.shape?, h]
theorem noEscape : ExtSame Tryz.prog fn_internal_abi_NoEscape := ⟨_, Tryz.func99, by kernel_rfl, by kernel_rfl, by kernel_rfl, by kernel_rfl⟩
theorem set_same {α : Type} {l : List α} {i : Nat} {a : α} (h : l[i]? = some a) : l.set i a = l := by
  apply List.ext_getElem?
  intro j
  by_cases hj : i = j
  · subst hj
    rw [List.getElem?_set_self (List.getElem?_eq_some_iff.1 h).1, h]
  · rw [List.getElem?_set_ne hj]
section
variable {T g o B : Nat} {cs : List Value} {v : Value} {bs : List UInt8}
theorem BldAt0.lt (h : BldAt0 w T g o B cs v bs) : o + 1 < cs.length := (List.getElem?_eq_some_iff.1 h.buf).1
theorem BldAt.lt (h : BldAt w T g o B cs v bs) : o + 1 < cs.length := h.toBldAt0.lt
theorem BldAt.mod {S : Nat → Prop} {w' : World} (h : BldAt w T g o B cs v bs) (hm : Mod S w w') (hg : ¬ S g) (hv : ∀ k, v.ownBlock = some k → ¬ S k) : BldAt w' T g o B cs v bs :=
  ⟨⟨h.row.mod hm hg, h.addr, h.buf, h.own.mod hm hv, h.ne⟩, h.room⟩
theorem BldAt.still {w' : World} (h : BldAt w T g o B cs v bs) (hm : Still w w') : BldAt w' T g o B cs v bs := h.mod hm (fun h => h) (fun _ _ h => h)
theorem BldAt.fresh (h : Row w g T ⟨cs⟩) (h0 : cs[o]? = some (.pointer none)) (h1 : cs[o + 1]? = some (.slice none 0 0)) : BldAt w T g o B cs (.slice none 0 0) [] :=
  ⟨⟨h, .inl h0, h1, Owns.nil _ _ _ _, by simp [Value.ownBlock]⟩, fun p c e => by injection e with e1 _ _; exact .inl e1.symm⟩
theorem copyCheck_spec (h : BldAt0 w T g o B cs v bs) (hl : LiesB T cs.length o) : Calls Tryz.prog fn_strings_Builder_copyCheck #[.pointer (some ⟨g, o, none⟩)] w
    (fun e w' => e = .returned (.tuple #[]) ∧ BldAt0 w' T g o B (cs.set o (.pointer (some ⟨g, o, none⟩))) v bs ∧ Mod (fun k => k = g) w w' ∧ w'.heap.size = w.heap.size) := by
  refine strings_Builder_copyCheck_calls _ _ _ ?_
  have hlt := h.lt
  have hsh := h.row.shape
  rcases h.addr with h0 | h0
  · refine ⟨none, h.row.lget h0, bsel_of (fun _ => ?_) (fun h => by cases h)⟩
    refine ⟨⟨_, _, hsh, by show o < _; omega⟩, noEscape, ⟨_, _, hsh, hl⟩, stK h.row (by simp; omega) (by simp [Value.oneCell']) fun w1 hr1 hm1 hz1 => ⟨rfl, ?_, hm1, hz1⟩⟩
    exact ⟨hr1, .inr (List.getElem?_set_self (by omega)), by show (cs.set o _)[o + 1]? = _; rw [List.getElem?_set_ne (by omega)]; exact h.buf, h.own.mod hm1 (fun k hk e => h.ne (by rw [hk, e])), h.ne⟩
  · refine ⟨_, h.row.lget h0, bsel_of (fun h => by cases h) (fun _ => ⟨_, h.row.lget h0, by kernel_rfl, rfl, rfl, ?_, Mod.refl _ _, rfl⟩)⟩
    rw [set_same h0]
    exact h
theorem room_blk {p p' : Option Addr} {n n' m c c' s : Nat} (hb : Blk p p' n' c c' s) (hn' : n' = n + m) (h : ∀ q d, (Value.slice p n c) = .slice q n d → q = none ∨ d ≠ 0) {xs : List Value} {e : TypeId} {sz : Nat} (ho : Owns w B e sz (.slice p' n' c') n' xs) :
    ∀ q d, (Value.slice p' n' c') = .slice q n' d → q = none ∨ d ≠ 0 := by
  intro q d hq
  injection hq with q1 _ q2
  subst q1
  subst q2
  rcases hb with ⟨rfl, rfl⟩ | ⟨_, h0⟩
  · exact h _ _ rfl
  · rcases ho.2 with ⟨hv, h1⟩ | ⟨_, cap, _, hv, _, _, hc, _⟩
    · omega
    · injection hv with _ _ hv
      exact .inr (by omega)
theorem writeString_spec0 (h : BldAt0 w T g o B cs v bs) (hl : LiesB T cs.length o) (s : List UInt8) (hB : B ≤ w.heap.size) (hs : bs.length + s.length ≤ 140737488355328) :
    Calls Tryz.prog fn_strings_Builder_WriteString #[.pointer (some ⟨g, o, none⟩), .string (S s)] w (fun e w' => e = .returned (.tuple #[.int .i64 (s.length : Int), .nilIface]) ∧
      ∃ v', BldAt0 w' T g o B ((cs.set o (.pointer (some ⟨g, o, none⟩))).set (o + 1) v') v' (bs ++ s) ∧ (Roomy v bs → Roomy v' (bs ++ s)) ∧ Mod (fun k => k = g ∨ v.ownBlock = some k) w w') := by
  refine strings_Builder_WriteString_calls _ _ _ _ ?_
  refine (copyCheck_spec h hl).mono ?_
  rintro _ w1 ⟨rfl, h1, hm1, hz1⟩
  obtain ⟨p, c, rfl⟩ := h1.own.form
  have hlt := h.lt
  refine .inl ⟨rfl, _, _, _, by rw [add_row]; exact h1.row.lget h1.buf, ?_⟩
  refine appS_push h1.own (by omega) (by omega) (by omega) fun p' c' w2 ho2 hm2 hb2 => ?_
  have hr2 := h1.row.mod hm2 (fun e => h1.ne e)
  show stCells (Addr.add _ 1) _ _ _ _
  rw [add_row]
  refine stK hr2 (by simp; omega) (by simp [Value.oneCell']) fun w3 hr3 hm3 hz3 => ⟨rfl, _, ⟨hr3, ?_, ?_, ?_, ?_⟩, ?_, ?_⟩
  · exact .inr (by show ((cs.set o _).set (o + 1) _)[o]? = _; rw [List.getElem?_set_ne (by omega), List.getElem?_set_self (by omega)])
  · exact List.getElem?_set_self (by simp; omega)
  · have hne : (Value.slice p' (bs.length + s.length) c').ownBlock ≠ some g := by
      rcases hb2.own (n := bs.length) with e | e
      · rw [e]; exact h1.ne
      · rw [e]; have := h1.row.lt; exact fun e => by injection e with e; omega
    have := ho2.mod hm3 (fun k hk e => hne (by rw [hk, e]))
    rw [← bc_append] at this
    rw [List.length_append]
    exact this
  · rcases hb2.own (n := bs.length) with e | e
    · rw [e]; exact h1.ne
    · rw [e]; have := h1.row.lt; exact fun e => by injection e with e; omega
  · intro hroom
    rw [Roomy, List.length_append]
    exact room_blk hb2 rfl hroom ho2
  · exact Mod.trans hm1 (Mod.trans hm2 hm3 (U := fun k => k = g ∨ (Value.slice p bs.length c).ownBlock = some k) (fun _ h => .inr h) (fun _ _ h => .inl h)) (fun _ h => .inl h) (fun _ _ h => h)
theorem writeString_spec (h : BldAt w T g o B cs v bs) (hl : LiesB T cs.length o) (s : List UInt8) (hB : B ≤ w.heap.size) (hs : bs.length + s.length ≤ 140737488355328) :
    Calls Tryz.prog fn_strings_Builder_WriteString #[.pointer (some ⟨g, o, none⟩), .string (S s)] w (fun e w' => e = .returned (.tuple #[.int .i64 (s.length : Int), .nilIface]) ∧
      ∃ v', BldAt w' T g o B ((cs.set o (.pointer (some ⟨g, o, none⟩))).set (o + 1) v') v' (bs ++ s) ∧ Mod (fun k => k = g ∨ v.ownBlock = some k) w w') := by
  refine (writeString_spec0 h.toBldAt0 hl s hB hs).mono ?_
  rintro _ w' ⟨rfl, v', h1, h2, h3⟩
  exact ⟨rfl, v', ⟨h1, h2 h.room⟩, h3⟩
theorem string_spec (h : BldAt w T g o B cs v bs) (hs : bs.length ≤ 140737488355328) :
    Calls Tryz.prog fn_strings_Builder_String #[.pointer (some ⟨g, o, none⟩)] w (fun e w' => e = .returned (.string (S bs)) ∧ Mod (fun k => v.ownBlock = some k) w w') := by
  refine strings_Builder_String_calls _ _ _ ?_
  obtain ⟨p, c, rfl⟩ := h.own.form
  refine ⟨_, _, _, by rw [add_row]; exact h.row.lget h.buf, h.room _ _ rfl, _, _, _, by rw [add_row]; exact h.row.lget h.buf, ?_⟩
  refine ⟨bs, rfl, by omega, ?_⟩
  rcases Decidable.em (bs = []) with rfl | h0
  · exact .inl ⟨rfl, rfl, (Mod.refl _ _).drew⟩
  · have hpos : 0 < bs.length := List.length_pos_iff.2 h0
    obtain ⟨g', cap, cur, hv, _, hrow, hcap, hsz, _⟩ := h.own.row hpos
    injection hv with hv1 _ hv2
    subst hv1
    subst hv2
    refine .inr ⟨h0, g', cur.size, rfl, by obtain ⟨fz, hh, _⟩ := hrow; exact (show World.shape? w g' = _ by simp [World.shape?, hh]), by omega, fun j x hx => ?_, rfl, ?_⟩
    · rw [add_row, Nat.zero_add]
      exact h.own.cells rfl j _ (bc_get hx)
    · unfold World.freeze
      split
      · exact (Mod.refl _ _).drew
      · exact ⟨rfl, rfl, rfl, by simp, fun k hk hn => by
          simp only [Array.getElem?_modify]
          rw [if_neg (fun e => hn (by rw [← e]; rfl))]
          rfl⟩
end
theorem add_block (a : Addr) (i : Nat) : (a.add i).block = a.block := by unfold Addr.add; split <;> rfl
theorem mod_cell {S : Nat → Prop} {w' : World} (hm : Mod S w w') {a : Addr} {v : Value} (hn : ¬ S a.block) (h : w.cell? a = some v) : w'.cell? a = some v :=
  (World.cell?_of_block (hm.block _ (World.block_lt_of_cell? _ _ h) hn)).trans h
theorem Owns.cap {B : Nat} {e : TypeId} {size n : Nat} {v : Value} {xs : List Value} (h : Owns w B e size v n xs) : ∃ p c, v = .slice p n c ∧ n ≤ c := by
  rcases h.2 with ⟨rfl, rfl⟩ | ⟨g, cap, cur, rfl, _, _, hc, _⟩
  · exact ⟨_, _, rfl, Nat.le_refl _⟩
  · exact ⟨_, _, rfl, hc⟩
end Go.Proofs.YtkdlmkbpfdogcaaGreatDoor
namespace Go.Proofs.YtkdlmkbpfdogcaaGreatDoor
open Go.RowKit Vc
variable {w : World} {α : Type}
structure Enc (α : Type) where
  sz : Nat
  E : World → (Nat → Prop) → α → List Value → Prop
  len : ∀ {w : World} {F : Nat → Prop} {x : α} {cs : List Value}, E w F x cs → cs.length = sz
  one : ∀ {w : World} {F : Nat → Prop} {x : α} {cs : List Value}, E w F x cs → ∀ u ∈ cs, u.oneCell' = true
  turn : ∀ {w w' : World} {F G : Nat → Prop} {x : α} {cs : List Value}, (∀ k, F k → G k) → (∀ a v, (∃ k, F k ∧ a.block = k) → w.cell? a = some v → w'.cell? a = some v) → E w F x cs → E w' G x cs
def Enc.Cs (e : Enc α) (w : World) (F : Nat → Prop) : List α → List Value → Prop
  | [], xs => xs = []
  | x :: r, xs => ∃ cs ys, xs = cs ++ ys ∧ e.E w F x cs ∧ e.Cs w F r ys
def CellsAt (w : World) (b : Addr) (xs : List Value) : Prop := ∀ (j : Nat) (u : Value), xs[j]? = some u → w.cell? (b.add j) = some u
def Enc.At (e : Enc α) (w : World) (F : Nat → Prop) (l : List α) (v : Value) : Prop := ∃ p c, v = .slice p l.length c ∧ l.length ≤ c ∧ (l ≠ [] → ∃ b xs, p = some b ∧ F b.block ∧ e.Cs w F l xs ∧ CellsAt w b xs)
def Enc.Out (e : Enc α) (w : World) (B : Nat) (t : TypeId) (l : List α) (v : Value) : Prop := ∃ p c xs, v = .slice p l.length c ∧ Owns w B t e.sz v l.length xs ∧ e.Cs w (fun k => B ≤ k ∧ k < w.heap.size ∧ v.ownBlock ≠ some k) l xs
section
variable {e : Enc α} {F G : Nat → Prop}
theorem Enc.Cs.len : ∀ {l : List α} {xs : List Value}, e.Cs w F l xs → xs.length = l.length * e.sz
  | [], xs, h => by rw [show xs = [] from h, List.length_nil, List.length_nil, Nat.zero_mul]
  | x :: r, xs, ⟨cs, ys, h1, h2, h3⟩ => by
    rw [h1, List.length_append, e.len h2, Enc.Cs.len h3, List.length_cons, Nat.succ_mul]
    omega
theorem Enc.Cs.one : ∀ {l : List α} {xs : List Value}, e.Cs w F l xs → ∀ u ∈ xs, u.oneCell' = true
  | [], xs, h => by rw [show xs = [] from h]; simp
  | x :: r, xs, ⟨cs, ys, h1, h2, h3⟩ => by
    intro u hu
    rw [h1] at hu
    rcases List.mem_append.1 hu with hu | hu
    · exact e.one h2 u hu
    · exact Enc.Cs.one h3 u hu
theorem Enc.Cs.turn {w' : World} (hF : ∀ k, F k → G k) (hw : ∀ a v, (∃ k, F k ∧ a.block = k) → w.cell? a = some v → w'.cell? a = some v) : ∀ {l : List α} {xs : List Value}, e.Cs w F l xs → e.Cs w' G l xs
  | [], _xs, h => h
  | x :: r, _xs, ⟨cs, ys, h1, h2, h3⟩ => ⟨cs, ys, h1, e.turn hF hw h2, Enc.Cs.turn hF hw h3⟩
theorem Enc.Cs.append : ∀ {l m : List α} {xs ys : List Value}, e.Cs w F l xs → e.Cs w F m ys → e.Cs w F (l ++ m) (xs ++ ys)
  | [], m, xs, ys, h, k => by rw [show xs = [] from h]; exact k
  | x :: r, m, xs, ys, ⟨cs, zs, h1, h2, h3⟩, k => ⟨cs, zs ++ ys, by rw [h1, List.append_assoc], h2, Enc.Cs.append h3 k⟩
theorem Enc.Cs.single {x : α} {cs : List Value} (h : e.E w F x cs) : e.Cs w F [x] cs := ⟨cs, [], (List.append_nil _).symm, h, rfl⟩
theorem Enc.Cs.get : ∀ {l : List α} {xs : List Value} {i : Nat} {x : α}, e.Cs w F l xs → l[i]? = some x → ∃ cs, e.E w F x cs ∧ ∀ (j : Nat) (u : Value), cs[j]? = some u → xs[i * e.sz + j]? = some u
  | y :: r, xs, 0, x, ⟨cs, ys, h1, h2, h3⟩, hx => by
    obtain rfl := Option.some.inj hx
    refine ⟨cs, h2, fun j u hu => ?_⟩
    rw [h1, Nat.zero_mul, Nat.zero_add, List.getElem?_append_left (List.getElem?_eq_some_iff.1 hu).1]
    exact hu
  | y :: r, xs, i + 1, x, ⟨cs, ys, h1, h2, h3⟩, hx => by
    obtain ⟨cs', g1, g2⟩ := Enc.Cs.get (i := i) h3 (by simpa using hx)
    refine ⟨cs', g1, fun j u hu => ?_⟩
    have hl := e.len h2
    rw [h1, Nat.succ_mul, List.getElem?_append_right (by omega), hl, show i * e.sz + e.sz + j - e.sz = i * e.sz + j by omega]
    exact g2 j u hu
theorem CellsAt.still {w' : World} {b : Addr} {xs : List Value} (h : CellsAt w b xs) (hm : Still w w') : CellsAt w' b xs := fun j u hu => hm.cell (h j u hu)
theorem CellsAt.row {g : Nat} {t : TypeId} {xs : List Value} (h : Row w g t ⟨xs⟩) : CellsAt w ⟨g, 0, none⟩ xs := fun j u hu => by
  rw [add_row, Nat.zero_add]
  exact h.lget hu
theorem Enc.At.turn {w' : World} (hF : ∀ k, F k → G k) (hw : ∀ a v, (∃ k, F k ∧ a.block = k) → w.cell? a = some v → w'.cell? a = some v) {l : List α} {v : Value} (h : e.At w F l v) : e.At w' G l v := by
  obtain ⟨p, c, rfl, h2, h3⟩ := h
  refine ⟨p, c, rfl, h2, fun hl => ?_⟩
  obtain ⟨b, xs, rfl, h4, h5, h6⟩ := h3 hl
  exact ⟨b, xs, rfl, hF _ h4, h5.turn hF hw, fun j u hu => hw _ _ ⟨_, h4, add_block b j⟩ (h6 j u hu)⟩
theorem Enc.At.mono (hF : ∀ k, F k → G k) {l : List α} {v : Value} (h : e.At w F l v) : e.At w G l v := h.turn hF fun _ _ _ h => h
theorem Enc.At.any {l : List α} {v : Value} (h : e.At w F l v) : e.At w (fun _ => True) l v := h.mono fun _ _ => trivial
theorem Enc.At.mod {S : Nat → Prop} {w' : World} {l : List α} {v : Value} (h : e.At w F l v) (hm : Mod S w w') (hS : ∀ k, F k → ¬ S k) : e.At w' F l v :=
  h.turn (fun _ h => h) fun a v ⟨k, hk, ea⟩ hc => mod_cell hm (by rw [ea]; exact hS k hk) hc
theorem Enc.At.still {w' : World} {l : List α} {v : Value} (h : e.At w F l v) (hm : Still w w') : e.At w' F l v := h.mod hm fun _ _ h => h
theorem Enc.At.nil (e : Enc α) (w : World) (F : Nat → Prop) (p : Option Addr) (c : Nat) : e.At w F [] (.slice p 0 c) := ⟨p, c, rfl, Nat.zero_le _, fun h => absurd rfl h⟩
theorem Enc.At.form {l : List α} {v : Value} (h : e.At w F l v) : ∃ p c, v = .slice p l.length c := by
  obtain ⟨p, c, he, _⟩ := h
  exact ⟨p, c, he⟩
theorem Enc.At.one {l : List α} {v : Value} (h : e.At w F l v) : v.oneCell' = true := by
  obtain ⟨p, c, rfl, _⟩ := h
  rfl
theorem Enc.At.len {l : List α} {p : Option Addr} {n c : Nat} (h : e.At w F l (.slice p n c)) : n = l.length ∧ l.length ≤ c := by
  obtain ⟨p', c', he, h2, _⟩ := h
  injection he with e1 e2 e3
  subst e3
  exact ⟨e2, h2⟩
theorem Enc.At.get {l : List α} {p : Option Addr} {n c : Nat} (h : e.At w F l (.slice p n c)) {i : Nat} {x : α} (hx : l[i]? = some x) : ∃ b cs, p = some b ∧ F b.block ∧ e.E w F x cs ∧ CellsAt w (b.add (i * e.sz)) cs := by
  obtain ⟨p', c', he, h2, h3⟩ := h
  injection he with e1 e2 e3
  subst e1 e2 e3
  have hl : l ≠ [] := by rintro rfl; cases hx
  obtain ⟨b, xs, rfl, h4, h5, h6⟩ := h3 hl
  obtain ⟨cs, g1, g2⟩ := h5.get hx
  refine ⟨b, cs, rfl, h4, g1, fun j u hu => ?_⟩
  rw [adds]
  exact h6 _ u (g2 j u hu)
theorem Enc.At.tail {x : α} {r : List α} {a : Addr} {n c : Nat} (h : e.At w F (x :: r) (.slice (some a) n c)) : e.At w F r (.slice (some (a.add e.sz)) (n - 1) (c - 1)) := by
  obtain ⟨p', c', he, h2, h3⟩ := h
  injection he with e1 e2 e3
  subst e1 e2 e3
  obtain ⟨b, xs, hb, h4, ⟨cs, ys, h5, h6, h7⟩, h8⟩ := h3 (by simp)
  obtain rfl := Option.some.inj hb
  refine ⟨some (a.add e.sz), c - 1, by rw [List.length_cons, Nat.add_sub_cancel], by simp only [List.length_cons] at h2; omega, fun _ => ⟨_, ys, rfl, by rw [add_block]; exact h4, h7, fun j u hu => ?_⟩⟩
  rw [adds]
  refine h8 _ u ?_
  have hl := e.len h6
  rw [h5, List.getElem?_append_right (by omega), show e.sz + j - cs.length = j by omega]
  exact hu
theorem Enc.At.ptr {x : α} {r : List α} {p : Option Addr} {n c : Nat} (h : e.At w F (x :: r) (.slice p n c)) : ∃ a, p = some a := by
  obtain ⟨b, _, hb, _⟩ := h.get (i := 0) rfl
  exact ⟨b, hb⟩
theorem Enc.At.row {g c : Nat} {t : TypeId} {l : List α} {xs : List Value} (hr : Row w g t ⟨xs⟩) (hc : e.Cs w F l xs) (hF : F g) (hl : l.length ≤ c) : e.At w F l (.slice (some ⟨g, 0, none⟩) l.length c) :=
  ⟨_, c, rfl, hl, fun _ => ⟨_, xs, rfl, hF, hc, CellsAt.row hr⟩⟩
theorem Enc.Out.nil (e : Enc α) (w : World) (B : Nat) (t : TypeId) : e.Out w B t [] (.slice none 0 0) := ⟨none, 0, [], rfl, Owns.nil _ _ _ _, rfl⟩
theorem Enc.Out.form {B : Nat} {t : TypeId} {l : List α} {v : Value} (h : e.Out w B t l v) : ∃ p c, v = .slice p l.length c := by
  obtain ⟨p, c, _, he, _⟩ := h
  exact ⟨p, c, he⟩
theorem Enc.Out.at {B : Nat} {t : TypeId} {l : List α} {v : Value} (h : e.Out w B t l v) (_hz : 0 < e.sz) : e.At w (fun k => B ≤ k ∧ k < w.heap.size) l v := by
  obtain ⟨p, c, xs, rfl, ho, hc⟩ := h
  obtain ⟨p', c', he, hle⟩ := ho.cap
  injection he with _ _ e3
  subst e3
  refine ⟨p, c, rfl, hle, fun hl => ?_⟩
  have hn : 0 < l.length := List.length_pos_iff.2 hl
  obtain ⟨g, cap, he, hB, hg, _, hcell⟩ := ho.ownAddr hn
  injection he with e1 e2 e3
  subst e1
  refine ⟨_, xs, rfl, ⟨hB, hg⟩, hc.turn (fun k hk => ⟨hk.1, hk.2.1⟩) (fun _ _ _ h => h), fun j u hu => ?_⟩
  rw [add_row, Nat.zero_add]
  exact hcell j u hu
theorem Enc.Out.mod {S : Nat → Prop} {w' : World} {B : Nat} {t : TypeId} {l : List α} {v : Value} (h : e.Out w B t l v) (hm : Mod S w w') (hS : ∀ k, B ≤ k → k < w.heap.size → ¬ S k) : e.Out w' B t l v := by
  obtain ⟨p, c, xs, rfl, ho, hc⟩ := h
  refine ⟨p, c, xs, rfl, ho.mod hm fun k hk => hS k (ho.lt k hk).1 (ho.lt k hk).2, hc.turn (fun k hk => ⟨hk.1, Nat.lt_of_lt_of_le hk.2.1 hm.size, hk.2.2⟩) fun a v ⟨k, hk, ea⟩ hcell => mod_cell hm (by rw [ea]; exact hS k hk.1 hk.2.1) hcell⟩
theorem Enc.Out.still {w' : World} {B : Nat} {t : TypeId} {l : List α} {v : Value} (h : e.Out w B t l v) (hm : Still w w') : e.Out w' B t l v := h.mod hm fun _ _ _ h => h
theorem Enc.Out.low {B B' : Nat} {t : TypeId} {l : List α} {v : Value} (h : e.Out w B t l v) (hB : B' ≤ B) : e.Out w B' t l v := by
  obtain ⟨p, c, xs, rfl, ho, hc⟩ := h
  exact ⟨p, c, xs, rfl, ho.base fun k hk => Nat.le_trans hB (ho.lt k hk).1, hc.turn (fun k hk => ⟨Nat.le_trans hB hk.1, hk.2⟩) fun _ _ _ h => h⟩
theorem Enc.Out.push {B bytes : Nat} {t : TypeId} {l : List α} {p : Option Addr} {n c : Nat} {x : α} {cs : List Value} {K : Option Addr → Nat → World → Prop} (ho : e.Out w B t l (.slice p n c)) (hB : B ≤ w.heap.size)
    (hx : e.E w (fun k => B ≤ k ∧ k < w.heap.size ∧ (Value.slice p n c).ownBlock ≠ some k) x cs) (hs : n + 1 ≤ 9223372036854775807) (hb : (n + 1) * bytes ≤ 140737488355328)
    (h : ∀ p' c' w', e.Out w' B t (l ++ [x]) (.slice p' (n + 1) c') → Mod (fun k => (Value.slice p n c).ownBlock = some k) w w' → K p' c' w') :
    letW (w.alloc (.cells ⟨cs⟩ t)) (fun w2 => appK w2 t e.sz bytes p n c (some (Addr.mk w.heap.size 0 none)) 1 K) := by
  obtain ⟨p0, c0, xs, he, ho, hc⟩ := ho
  injection he with e1 e2 e3
  subst e1 e2 e3
  have hl := e.len hx
  refine allocK fun w1 hr hst hz => ?_
  refine appK_push (ho.still hst) (by omega) cs (by omega) (e.one hx) (fun _ => ⟨_, rfl, fun j u hu => ?_⟩) hs hb fun p' c' w' ho' hm hk => h p' c' w' ?_ (Mod.trans hst hm (fun _ h => h.elim) (fun _ _ h => h))
  · rw [add_row, Nat.zero_add]
    exact hr.cellv (by simpa using hu)
  · have hz' := hm.size
    refine ⟨p', c', xs ++ cs, by rw [List.length_append]; rfl, by rw [List.length_append]; exact ho', ?_⟩
    have hn : ∀ k, k < w.heap.size → (Value.slice p l.length c).ownBlock ≠ some k → (Value.slice p' (l.length + 1) c').ownBlock ≠ some k := by
      intro k hkl hne hk'
      rcases hk.own (n := l.length) with hk | hk
      · exact hne (hk.symm.trans hk')
      · rw [hk'] at hk
        have := Option.some.inj hk
        omega
    refine (hc.append (Enc.Cs.single hx)).turn (fun k hk => ⟨hk.1, by omega, hn k hk.2.1 hk.2.2⟩) fun a v ⟨k, hk, ea⟩ hcell => mod_cell hm (by rw [ea]; exact hk.2.2) (hst.cell hcell)
end
end Go.Proofs.YtkdlmkbpfdogcaaGreatDoor
namespace Go.Proofs.YtkdlmkbpfdogcaaGreatDoor
open Go.RowKit Vc
structure St where
  n : Nat
  F : Nat → UInt8
  e : Bool
  p : Int
  m : Int
structure Dev (w : World) (g b : Nat) (s : St) : Prop where
  top : Row w g ty_device_Device #[.slice (some ⟨b, 0, none⟩) s.n s.n, .bool s.e, .int .i64 s.p, .int .u64 s.m]
  bytes : Row w b ty_device_sector ⟨cellsF s.F (s.n * 64)⟩
structure Ref (w : World) (h q : Nat) (s : St) : Prop where
  top : ∃ c, Row w h ty_scullionref03_Device #[.slice (some ⟨q, 0, none⟩) s.n c, .int .i64 (if s.e then -1 else s.p), .int .u64 s.m]
  strs : ∃ cur : List Value, Row w q ty_string ⟨cur⟩ ∧ ∀ k, k < s.n → cur[k]? = some (.string (S (rowF s.F (k * 64) 64)))
structure St.Ok (s : St) : Prop where
  n1 : 1 ≤ s.n
  n2 : s.n ≤ 4096
  p0 : 0 ≤ s.p
  p1 : s.p < 9223372036854775808
  m0 : 0 ≤ s.m
  m1 : s.m < 18446744073709551616
variable {w : World} {g b h q : Nat} {s : St}
theorem Dev.mod {w' : World} {T : Nat → Prop} (d : Dev w g b s) (hm : Mod T w w') (h1 : ¬ T g) (h2 : ¬ T b) : Dev w' g b s := ⟨d.top.mod hm h1, d.bytes.mod hm h2⟩
theorem Ref.mod {w' : World} {T : Nat → Prop} (d : Ref w h q s) (hm : Mod T w w') (h1 : ¬ T h) (h2 : ¬ T q) : Ref w' h q s := by
  obtain ⟨⟨c, ht⟩, cur, hc, hk⟩ := d
  exact ⟨⟨c, ht.mod hm h1⟩, cur, hc.mod hm h2, hk⟩
theorem device_Size_spec (d : Dev w g b s) : Calls Tryz.prog fn_device_Device_Size #[.pointer (some ⟨g, 0, none⟩)] w (fun e w' => e = .returned (.int .i64 s.n) ∧ w' = w) := by
  refine device_Device_Size_calls _ _ _ ?_
  exact ⟨_, _, _, d.top.cellv rfl, rfl, rfl⟩
theorem device_at_spec (d : Dev w g b s) (k : Int) : Calls Tryz.prog fn_device_Device_at #[.pointer (some ⟨g, 0, none⟩), .int .i64 k] w
    (fun e w' => e = .returned (.pointer (if 0 ≤ k ∧ k < s.n then some ⟨b, k.toNat * 64, none⟩ else none)) ∧ w' = w) := by
  refine device_Device_at_calls _ _ _ _ ?_
  refine bsel_of (fun h => ?_) (fun h => ⟨_, _, _, d.top.cellv rfl, ?_⟩)
  · rw [if_neg (by have := of_decide_eq_true h; omega)]; exact ⟨rfl, rfl⟩
  · have h0 := of_decide_eq_false h
    refine bsel_of (fun h => ?_) (fun h => ⟨_, _, _, d.top.cellv rfl, by omega, by have := of_decide_eq_false h; omega, ?_⟩)
    · rw [if_neg (by have := of_decide_eq_true h; omega)]; exact ⟨rfl, rfl⟩
    · rw [if_pos (by have := of_decide_eq_false h; omega)]
      exact ⟨by simp [add_row], rfl⟩
theorem device_Read_spec (d : Dev w g b s) (k : Int) : Calls Tryz.prog fn_device_Device_Read #[.pointer (some ⟨g, 0, none⟩), .int .i64 k] w
    (fun e w' => e = .returned (if 0 ≤ k ∧ k < s.n then .tuple #[.string (S (rowF s.F (k.toNat * 64) 64)), .int .i64 0] else .tuple #[.string (S []), .int .i64 1]) ∧ w' = w) := by
  refine device_Device_Read_calls _ _ _ _ ?_
  refine (device_at_spec d k).mono ?_
  rintro _ w' ⟨rfl, rfl⟩
  refine .inl ⟨_, rfl, ?_⟩
  by_cases hk : 0 ≤ k ∧ k < s.n
  · rw [if_pos hk, if_pos hk]
    refine ⟨_, rowF_bytes d.bytes (by omega), rfl, rfl⟩
  · rw [if_neg hk, if_neg hk]
    exact ⟨rfl, rfl⟩
def St.limit (s : St) (n m : Int) : St := { s with e := false, p := if 0 > n then 0 else n, m := m }
def St.restart (s : St) : St := { s with e := true, m := 0 }
theorem device_Limit_spec (d : Dev w g b s) (n m : Int) : Calls Tryz.prog fn_device_Device_Limit #[.pointer (some ⟨g, 0, none⟩), .int .i64 n, .int .u64 m] w
    (fun e w' => e = .returned (.tuple #[]) ∧ Mod (fun i => i = g ∨ i = b) w w' ∧ Dev w' g b (s.limit n m)) := by
  refine device_Device_Limit_calls _ _ _ _ _ ?_
  have hne : b ≠ g := d.bytes.ne d.top (by decide)
  refine ⟨d.top.wr 1 (by simp), ((d.top.set 1 _).wr 2 (by simp)), (((d.top.set 1 _).set 2 _).wr 3 (by simp)), rfl, ?_, ?_, ?_⟩
  · exact (((Mod.refl _ _).setCell (.inl (.inl rfl)) _).setCell (.inl (.inl rfl)) _).setCell (.inl (.inl rfl)) _
  · exact ((d.top.set 1 _).set 2 _).set 3 _
  · exact ((d.bytes.far hne _).far hne _).far hne _
theorem device_Restart_spec (d : Dev w g b s) : Calls Tryz.prog fn_device_Device_Restart #[.pointer (some ⟨g, 0, none⟩)] w
    (fun e w' => e = .returned (.tuple #[]) ∧ Mod (fun i => i = g ∨ i = b) w w' ∧ Dev w' g b s.restart) := by
  refine device_Device_Restart_calls _ _ _ ?_
  have hne : b ≠ g := d.bytes.ne d.top (by decide)
  refine ⟨d.top.wr 1 (by simp), ((d.top.set 1 _).wr 3 (by simp)), rfl, ?_, ?_, ?_⟩
  · exact ((Mod.refl _ _).setCell (.inl (.inl rfl)) _).setCell (.inl (.inl rfl)) _
  · exact (d.top.set 1 _).set 3 _
  · exact (d.bytes.far hne _).far hne _
def tornF (F T : Nat → UInt8) (m : Int) (o x : Nat) : Nat → UInt8 := fun j => if o ≤ j ∧ j < o + x ∧ bit m (j - o) = true then T (j - o) else F j
theorem torn_step {F T : Nat → UInt8} {m : Int} {o x y : Nat} (hc : bit m x = true) (hy : y = x + 1) : tornF F T m o y = fun j => if j = o + x then T x else tornF F T m o x j := by
  subst hy
  funext j
  by_cases hj : j = o + x
  · subst hj
    have e1 : o + x - o = x := by omega
    simp [tornF, e1, hc]
  · have : (o ≤ j ∧ j < o + (x + 1) ∧ bit m (j - o) = true) ↔ (o ≤ j ∧ j < o + x ∧ bit m (j - o) = true) := by
      constructor
      · rintro ⟨a, b, c⟩; exact ⟨a, by omega, c⟩
      · rintro ⟨a, b, c⟩; exact ⟨a, by omega, c⟩
    simp only [tornF, this, if_neg hj]
theorem torn_still {F T : Nat → UInt8} {m : Int} {o x y : Nat} (hc : bit m x = false) (hy : y = x + 1) : tornF F T m o y = tornF F T m o x := by
  subst hy
  funext j
  by_cases hj : j = o + x
  · subst hj
    have e1 : o + x - o = x := by omega
    simp [tornF, e1, hc]
  · have : (o ≤ j ∧ j < o + (x + 1) ∧ bit m (j - o) = true) ↔ (o ≤ j ∧ j < o + x ∧ bit m (j - o) = true) := by
      constructor
      · rintro ⟨a, b, c⟩; exact ⟨a, by omega, c⟩
      · rintro ⟨a, b, c⟩; exact ⟨a, by omega, c⟩
    simp only [tornF, this]
theorem torn_zero (F T : Nat → UInt8) (m : Int) (o : Nat) : tornF F T m o 0 = F := by
  funext j
  unfold tornF
  rw [if_neg (by omega)]
theorem tear_spec {F T : Nat → UInt8} {N tb o : Nat} {m : Int} (hb : Row w b ty_device_sector ⟨cellsF F N⟩) (ht : Row w tb ty_device_sector ⟨cellsF T 64⟩) (hne : tb ≠ b) (ho : o + 64 ≤ N)
    (hm0 : 0 ≤ m) (hm1 : m < 18446744073709551616) :
    Calls Tryz.prog fn_device_sector_tear #[.pointer (some ⟨b, o, none⟩), .pointer (some ⟨tb, 0, none⟩), .int .u64 m] w
      (fun e w' => e = .returned (.tuple #[]) ∧ Mod (fun i => i = b) w w' ∧ Row w' b ty_device_sector ⟨cellsF (tornF F T m o 64) N⟩) := by
  refine device_sector_tear_calls _ _ _ _ _ ?_
  refine ⟨fun x w1 => 0 ≤ x ∧ x ≤ 64 ∧ Mod (fun i => i = b) w w1 ∧ Row w1 b ty_device_sector ⟨cellsF (tornF F T m o x.toNat) N⟩, fun x _ => (64 - x).toNat, ?_, ?_⟩
  · refine ⟨by decide, by decide, Mod.refl _ _, ?_⟩
    have : tornF F T m o (Int.toNat 0) = F := torn_zero F T m o
    rw [this]; exact hb
  · rintro x _ w1 ⟨h0, h1, hmod, hrow⟩
    refine bsel_of (fun hx => ⟨h0, ?_⟩) (fun hx => ?_)
    · have hx := of_decide_eq_true hx
      have hw : IntKind.i64.wrap (x + 1) = x + 1 := wrap_i64 (by omega) (by omega)
      rw [bit_mask hm0 hm1 h0 hx, hw]
      refine bsel_of (fun hc => ?_) (fun hc => ?_)
      · have hc : bit m x.toNat = true := by simpa using hc
        refine ⟨fun wq => Row wq tb ty_device_sector ⟨cellsF T 64⟩, (ht.mod hmod hne).drew, h0, hx, (T x.toNat).toNat, ?_, h0, hx, ?_, ⟨by omega, by omega, ?_, ?_⟩, by dsimp only; omega⟩
        · intro wq hq
          rw [add_row]
          exact hq.cellv (by simpa using cellsF_get (F := T) (N := 64) (by omega))
        · rw [add_row]
          exact hrow.drew.wr _ (by simp; omega)
        · rw [add_row]
          exact hmod.drew.setCell (.inl rfl) _
        · rw [add_row, torn_step hc (by omega), Nat.mul_one, ← cellsF_set]
          exact hrow.drew.set _ _
      · have hc : bit m x.toNat = false := by simpa using hc
        refine ⟨⟨by omega, by omega, hmod, ?_⟩, by dsimp only; omega⟩
        rw [torn_still hc (by omega)]
        exact hrow
    · have hx := of_decide_eq_false hx
      have : x.toNat = 64 := by omega
      rw [this] at hrow
      exact ⟨rfl, hmod, hrow⟩
def St.put (s : St) (k : Nat) (t : Nat → UInt8) : St := { s with F := fun j => if k * 64 ≤ j ∧ j < k * 64 + 64 then t (j - k * 64) else s.F j }
def St.write (s : St) (k : Int) (text : List UInt8) : Int × St :=
  if 0 ≤ k ∧ k < s.n ∧ text.length ≤ 64 then
    if s.e then (0, s.put k.toNat fun j => text.getD j 0)
    else if 0 < s.p then (0, { s.put k.toNat (fun j => text.getD j 0) with p := s.p - 1 })
    else (13, { s with F := tornF s.F (fun j => text.getD j 0) s.m (k.toNat * 64) 64, m := 0 })
  else (1, s)
theorem rowF_put_here (s : St) (k : Nat) (T : Nat → UInt8) : rowF (s.put k T).F (k * 64) 64 = rowF T 0 64 := by
  apply List.map_congr_left
  intro i hi
  have hi := List.mem_range.1 hi
  simp only [St.put]
  rw [if_pos (by omega)]
  congr 1
  omega
theorem rowF_put_far (s : St) {k k' : Nat} (hne : k' ≠ k) (T : Nat → UInt8) : rowF (s.put k T).F (k' * 64) 64 = rowF s.F (k' * 64) 64 := by
  apply rowF_congr
  intro i hi
  simp only [St.put]
  rw [if_neg (by omega)]
theorem rowF_torn_far (F T : Nat → UInt8) {m : Int} {k k' : Nat} (hne : k' ≠ k) : rowF (tornF F T m (k * 64) 64) (k' * 64) 64 = rowF F (k' * 64) 64 := by
  apply rowF_congr
  intro i hi
  simp only [tornF]
  rw [if_neg (by omega)]
def St.new (n : Nat) : St := ⟨n, fun _ => 0, true, 0, 0⟩
theorem madeCells_zero (z : List Value) (hz : ∀ v ∈ z, v = .int .u8 0) (h0 : z ≠ []) (N : Nat) : madeCells ⟨z⟩ N = ⟨cellsF (fun _ => 0) N⟩ := by
  apply Array.ext'
  apply List.ext_getElem?
  intro i
  by_cases h : i < N
  · have hl : 0 < z.length := by cases z with
      | nil => exact (h0 rfl).elim
      | cons a r => simp
    have hm : i % z.length < z.length := Nat.mod_lt _ hl
    rw [cellsF_get h]
    simp [madeCells, h]
    simp [hm]
    exact hz _ (List.getElem_mem _)
  · rw [List.getElem?_eq_none (by simp [madeCells]; omega), List.getElem?_eq_none (by simp; omega)]
theorem device_New_spec {n : Int} (h1 : 1 ≤ n) (h2 : n ≤ 4096) : Calls Tryz.prog fn_device_New #[.int .i64 n] w
    (fun e w' => ∃ g b, e = .returned (.tuple #[.pointer (some ⟨g, 0, none⟩), .int .i64 0]) ∧ Mod (fun _ => False) w w' ∧ w.heap.size ≤ g ∧ w.heap.size ≤ b ∧ Dev w' g b (St.new n.toNat)) := by
  refine device_New_calls _ _ _ ?_
  refine bsel_of (fun h => (by have := of_decide_eq_true h; omega)) (fun _ => bsel_of (fun h => (by have := of_decide_eq_true h; omega)) (fun _ => ⟨by omega, by omega, by omega, by omega, ?_⟩))
  rw [madeCells_zero _ (by intro v hv; simpa using hv) (by simp)]
  refine ⟨_, w.heap.size, rfl, ((Mod.refl _ _).alloc _).alloc _, by simp, Nat.le_refl _, ?_, ?_⟩
  · exact Row.new _ _ _
  · exact (Row.new w _ _).alloc _
theorem device_Write_spec (d : Dev w g b s) (hs : s.Ok) (k : Int) (text : List UInt8) : Calls Tryz.prog fn_device_Device_Write #[.pointer (some ⟨g, 0, none⟩), .int .i64 k, .string (S text)] w
    (fun e w' => e = .returned (.int .i64 (s.write k text).1) ∧ Mod (fun i => i = g ∨ i = b) w w' ∧ Dev w' g b (s.write k text).2) := by
  refine device_Device_Write_calls _ _ _ _ _ ?_
  refine (device_at_spec d k).mono ?_
  rintro _ w ⟨rfl, rfl⟩
  refine .inl ⟨_, rfl, ?_⟩
  by_cases hk : 0 ≤ k ∧ k < s.n
  case neg =>
    rw [if_neg hk]
    have hw : s.write k text = (1, s) := by unfold St.write; rw [if_neg (fun h => hk ⟨h.1, h.2.1⟩)]
    rw [hw]
    exact ⟨rfl, Mod.refl _ _, d⟩
  rw [if_pos hk]
  refine bsel_of (fun h => by cases h) (fun _ => ?_)
  refine bsel_of (fun h => ?_) (fun hl => ?_)
  · have h := of_decide_eq_true h
    have hw : s.write k text = (1, s) := by unfold St.write; rw [if_neg (by omega)]
    rw [hw]
    exact ⟨rfl, Mod.refl _ _, d⟩
  have hl : text.length ≤ 64 := by have := of_decide_eq_false hl; omega
  have hne : b ≠ g := d.bytes.ne d.top (by decide)
  have hgz : g ≠ w.heap.size := Nat.ne_of_lt d.top.lt
  have hbz : b ≠ w.heap.size := Nat.ne_of_lt d.bytes.lt
  have hko : k.toNat * 64 + 64 ≤ s.n * 64 := by omega
  generalize hT : (fun j => text.getD j 0 : Nat → UInt8) = T
  have hcs : (text.take (min text.length 64)).map (fun b => Value.int .u8 b.toNat) = cellsF T text.length := by
    rw [Nat.min_eq_left hl, List.take_length, cellsF_map, hT]
  have hrep : List.replicate 64 (Value.int .u8 0) = cellsF (fun _ => 0) 64 := cellsF_replicate 64
  refine ⟨_, ?_, rfl, .inr ⟨w.heap.size, 0, cellsF (fun _ => 0) 64, ty_device_sector, rfl, ?_, by rw [hcs]; simpa using hl, ?_⟩⟩
  · rw [hcs]; exact cellsF_one _ _
  · rw [← hrep]; exact Row.new w _ _
  have hsp : (cellsF (fun _ => 0) 64).take 0 ++ (cellsF T text.length ++ (cellsF (fun _ => 0) 64).drop (0 + (cellsF T text.length).length)) = cellsF T 64 := by
    rw [cellsF_length, cellsF_splice (by omega)]
    apply cellsF_congr
    intro i hi
    by_cases h : i < text.length
    · simp [h]
    · rw [if_neg (by omega), ← hT]
      simp [Nat.le_of_not_lt h]
  rw [hcs, hsp, hrep]
  generalize hw2 : (w.alloc (.cells ⟨cellsF (fun _ => 0) 64⟩ 69)).setRow w.heap.size ⟨cellsF T 64⟩ = w2
  have hm2 : Mod (fun i => i = g ∨ i = b) w w2 := by
    subst hw2
    exact ((Mod.refl _ _).alloc _).setRow (.inr (Nat.le_refl _)) _
  have ht2 : Row w2 w.heap.size ty_device_sector ⟨cellsF T 64⟩ := by
    subst hw2
    exact (Row.new w _ _).setRow _ (by simp)
  have d2 : Dev w2 g b s := by
    subst hw2
    exact ⟨(d.top.alloc _).setRow_far hgz _, (d.bytes.alloc _).setRow_far hbz _⟩
  refine ⟨_, d2.top.cellv rfl, bsel_of (fun he => ?_) (fun he => ?_)⟩
  · have hw : s.write k text = (0, s.put k.toNat T) := by unfold St.write; rw [if_pos ⟨hk.1, hk.2, hl⟩, if_pos he, hT]
    rw [hw]
    refine ⟨cellsF T 64, by simp, ?_, by simp, cellsF_one _ _, b, k.toNat * 64, cellsF s.F (s.n * 64), ty_device_sector, rfl, d2.bytes, by simpa using hko, rfl, ?_, ?_, ?_⟩
    · intro j u hu
      rw [add_row, Nat.zero_add]
      exact ht2.cellv (by simpa using hu)
    · exact hm2.setRow (.inl (.inr rfl)) _
    · exact d2.top.setRow_far hne.symm _
    · rw [cellsF_length, cellsF_splice hko]
      exact d2.bytes.setRow _
  · refine ⟨_, d2.top.cellv rfl, bsel_of (fun hp => ?_) (fun hp => ?_)⟩
    · have hp := of_decide_eq_true hp
      have hw : s.write k text = (0, { s.put k.toNat T with p := s.p - 1 }) := by unfold St.write; rw [if_pos ⟨hk.1, hk.2, hl⟩, if_neg (by simp [he]), if_pos hp, hT]
      rw [hw]
      refine ⟨cellsF T 64, by simp, ?_, by simp, cellsF_one _ _, b, k.toNat * 64, cellsF s.F (s.n * 64), ty_device_sector, rfl, d2.bytes, by simpa using hko, ?_⟩
      · intro j u hu
        rw [add_row, Nat.zero_add]
        exact ht2.cellv (by simpa using hu)
      rw [cellsF_length, cellsF_splice hko]
      have h3 := d2.top.setRow_far hne.symm ⟨cellsF (fun j => if k.toNat * 64 ≤ j ∧ j < k.toNat * 64 + 64 then T (j - k.toNat * 64) else s.F j) (s.n * 64)⟩
      refine ⟨_, h3.cellv rfl, h3.wr 2 (by simp), rfl, ?_, ?_, ?_⟩
      · exact (hm2.setRow (.inl (.inr rfl)) _).setCell (.inl (.inl rfl)) _
      · rw [wrap_i64 (by have := hs.p1; omega) (by have := hs.p1; omega)]
        exact h3.set 2 _
      · exact (d2.bytes.setRow _).far hne _
    · have hp := of_decide_eq_false hp
      have hw : s.write k text = (13, { s with F := tornF s.F T s.m (k.toNat * 64) 64, m := 0 }) := by unfold St.write; rw [if_pos ⟨hk.1, hk.2, hl⟩, if_neg (by simp [he]), if_neg hp, hT]
      rw [hw]
      refine ⟨_, d2.top.cellv rfl, ?_⟩
      refine (tear_spec d2.bytes ht2 hbz.symm hko hs.m0 hs.m1).mono ?_
      rintro _ w3 ⟨rfl, hm3, hb3⟩
      have ht3 := d2.top.mod hm3 hne.symm
      refine .inl ⟨rfl, ht3.wr 3 (by simp), rfl, ?_, ?_, ?_⟩
      · exact (hm2.trans hm3 (fun _ h => h) (fun _ _ h => .inr h)).setCell (.inl (.inl rfl)) _
      · exact ht3.set 3 _
      · exact hb3.far hne _
abbrev B := BitVec 32
def uv (x : B) : Value := .int .u32 (x.toNat : Int)
theorem u32_bits : IntKind.u32.bits = 32 := rfl
theorem wrap_u32 {n : Int} (h0 : 0 ≤ n) (h1 : n < 4294967296) : IntKind.u32.wrap n = n := by
  simp only [IntKind.wrap, IntKind.signed, IntKind.bits]
  simp
  omega
theorem wrap_u32' (n : Nat) : IntKind.u32.wrap (n : Int) = ((BitVec.ofNat 32 n).toNat : Int) := by
  simp only [IntKind.wrap, IntKind.signed, IntKind.bits, BitVec.toNat_ofNat]
  simp
theorem ofInt_B (x : B) : BitVec.ofInt IntKind.u32.bits (x.toNat : Int) = x := by
  apply BitVec.eq_of_toNat_eq
  have := x.isLt
  simp [u32_bits]
theorem B_lt (x : B) : (x.toNat : Int) < 4294967296 := by have := x.isLt; omega
theorem wrap_B (x : B) : IntKind.u32.wrap (x.toNat : Int) = (x.toNat : Int) := wrap_u32 (by omega) (B_lt x)
theorem b_and (x y : B) : bits .and .u32 (x.toNat : Int) (y.toNat : Int) = ((x &&& y).toNat : Int) := by
  simp only [bits, ofInt_B]
  exact wrap_B _
theorem b_or (x y : B) : bits .or .u32 (x.toNat : Int) (y.toNat : Int) = ((x ||| y).toNat : Int) := by
  simp only [bits, ofInt_B]
  exact wrap_B _
theorem b_xor (x y : B) : bits .xor .u32 (x.toNat : Int) (y.toNat : Int) = ((x ^^^ y).toNat : Int) := by
  simp only [bits, ofInt_B]
  exact wrap_B _
theorem b_add (x y : B) : IntKind.u32.wrap ((x.toNat : Int) + (y.toNat : Int)) = ((x + y).toNat : Int) := by
  rw [← Int.natCast_add, wrap_u32']
  rfl
theorem b_not (x : B) : bits .xor .u32 IntKind.u32.max (x.toNat : Int) = ((~~~x).toNat : Int) := by
  have h : (IntKind.u32.max : Int) = ((BitVec.allOnes 32).toNat : Int) := by decide
  rw [h, b_xor]
  rw [BitVec.allOnes_xor]
theorem b_shr (x : B) (n : Nat) : Int.fdiv (x.toNat : Int) (2 ^ (min n IntKind.u32.bits)) = ((x >>> n).toNat : Int) := by
  rw [Int.fdiv_eq_ediv_of_nonneg _ (Int.pow_nonneg (by decide))]
  have h : ((2 : Int) ^ (min n IntKind.u32.bits)) = ((2 ^ (min n 32) : Nat) : Int) := by rw [u32_bits]; push_cast; rfl
  rw [h, ← Int.natCast_ediv]
  congr 1
  simp only [BitVec.toNat_ushiftRight, Nat.shiftRight_eq_div_pow]
  by_cases hn : n ≤ 32
  · rw [Nat.min_eq_left hn]
  · rw [Nat.min_eq_right (by omega)]
    have h1 := x.isLt
    have h2 : (2 : Nat) ^ 32 ≤ 2 ^ n := Nat.pow_le_pow_right (by decide) (by omega)
    rw [Nat.div_eq_of_lt h1, Nat.div_eq_of_lt (by omega)]
theorem b_shl (x : B) (n : Nat) : IntKind.u32.wrap ((x.toNat : Int) * 2 ^ (min n IntKind.u32.bits)) = ((x <<< n).toNat : Int) := by
  have h : ((2 : Int) ^ (min n IntKind.u32.bits)) = ((2 ^ (min n 32) : Nat) : Int) := by rw [u32_bits]; push_cast; rfl
  rw [h, ← Int.natCast_mul, wrap_u32']
  congr 1
  simp only [BitVec.toNat_ofNat, BitVec.toNat_shiftLeft, Nat.shiftLeft_eq]
  by_cases hn : n ≤ 32
  · rw [Nat.min_eq_left hn]
  · rw [Nat.min_eq_right (by omega)]
    have h2 : (2 : Nat) ^ n = 2 ^ 32 * 2 ^ (n - 32) := by rw [← Nat.pow_add]; congr 1; omega
    rw [h2, Nat.mul_mod_left, ← Nat.mul_assoc, Nat.mul_right_comm, Nat.mul_mod_left]
theorem b_byte (b : UInt8) : IntKind.u32.wrap (b.toNat : Int) = ((BitVec.ofNat 32 b.toNat).toNat : Int) := wrap_u32' _
def rotr (x : B) (n : Nat) : B := (x >>> n) ||| (x <<< (32 - n))
def sig0 (x : B) : B := rotr x 7 ^^^ rotr x 18 ^^^ (x >>> 3)
def sig1 (x : B) : B := rotr x 17 ^^^ rotr x 19 ^^^ (x >>> 10)
def big0 (x : B) : B := rotr x 2 ^^^ rotr x 13 ^^^ rotr x 22
def big1 (x : B) : B := rotr x 6 ^^^ rotr x 11 ^^^ rotr x 25
def wch (e f g : B) : B := (e &&& f) ^^^ (~~~e &&& g)
def wmaj (a b c : B) : B := (a &&& b) ^^^ (a &&& c) ^^^ (b &&& c)
theorem ch_other (e f g : B) : g ^^^ (e &&& (f ^^^ g)) = wch e f g := by
  apply BitVec.eq_of_getLsbD_eq
  intro i hi
  simp only [wch, BitVec.getLsbD_xor, BitVec.getLsbD_and, BitVec.getLsbD_not, hi, decide_true, Bool.true_and]
  cases e.getLsbD i <;> cases f.getLsbD i <;> cases g.getLsbD i <;> rfl
theorem maj_other (a b c : B) : (a &&& b) ||| (c &&& (a ||| b)) = wmaj a b c := by
  apply BitVec.eq_of_getLsbD_eq
  intro i hi
  simp only [wmaj, BitVec.getLsbD_xor, BitVec.getLsbD_and, BitVec.getLsbD_or]
  cases a.getLsbD i <;> cases b.getLsbD i <;> cases c.getLsbD i <;> rfl
structure S8 where
  a : B
  b : B
  c : B
  d : B
  e : B
  f : B
  g : B
  h : B
def S8.list (s : S8) : List B := [s.a, s.b, s.c, s.d, s.e, s.f, s.g, s.h]
def uvs (l : List B) : List Value := l.map uv
def rnd (s : S8) (k w : B) : S8 :=
  let t := s.h + big1 s.e + wch s.e s.f s.g + k + w
  ⟨t + big0 s.a + wmaj s.a s.b s.c, s.a, s.b, s.c, s.d + t, s.e, s.f, s.g⟩
def rnds : List B → List B → S8 → S8
  | k :: ks, w :: ws, s => rnds ks ws (rnd s k w)
  | _, _, s => s
def wordAt (b : List UInt8) (i : Nat) : B :=
  (BitVec.ofNat 32 (b.getD (4 * i) 0).toNat <<< 24) ||| (BitVec.ofNat 32 (b.getD (4 * i + 1) 0).toNat <<< 16) ||| (BitVec.ofNat 32 (b.getD (4 * i + 2) 0).toNat <<< 8) ||| BitVec.ofNat 32 (b.getD (4 * i + 3) 0).toNat
def wnext (b : List UInt8) (l : List B) : B :=
  if l.length < 16 then wordAt b l.length
  else l.getD (l.length - 16) 0 + sig0 (l.getD (l.length - 15) 0) + l.getD (l.length - 7) 0 + sig1 (l.getD (l.length - 2) 0)
def grow (b : List UInt8) : Nat → List B → List B
  | 0, l => l
  | n + 1, l => grow b n (l ++ [wnext b l])
def sched (b : List UInt8) : List B := grow b 64 []
def ks : List B := [0x428a2f98#32, 0x71374491#32, 0xb5c0fbcf#32, 0xe9b5dba5#32, 0x3956c25b#32, 0x59f111f1#32, 0x923f82a4#32, 0xab1c5ed5#32,
  0xd807aa98#32, 0x12835b01#32, 0x243185be#32, 0x550c7dc3#32, 0x72be5d74#32, 0x80deb1fe#32, 0x9bdc06a7#32, 0xc19bf174#32,
  0xe49b69c1#32, 0xefbe4786#32, 0x0fc19dc6#32, 0x240ca1cc#32, 0x2de92c6f#32, 0x4a7484aa#32, 0x5cb0a9dc#32, 0x76f988da#32,
  0x983e5152#32, 0xa831c66d#32, 0xb00327c8#32, 0xbf597fc7#32, 0xc6e00bf3#32, 0xd5a79147#32, 0x06ca6351#32, 0x14292967#32,
  0x27b70a85#32, 0x2e1b2138#32, 0x4d2c6dfc#32, 0x53380d13#32, 0x650a7354#32, 0x766a0abb#32, 0x81c2c92e#32, 0x92722c85#32,
  0xa2bfe8a1#32, 0xa81a664b#32, 0xc24b8b70#32, 0xc76c51a3#32, 0xd192e819#32, 0xd6990624#32, 0xf40e3585#32, 0x106aa070#32,
  0x19a4c116#32, 0x1e376c08#32, 0x2748774c#32, 0x34b0bcb5#32, 0x391c0cb3#32, 0x4ed8aa4a#32, 0x5b9cca4f#32, 0x682e6ff3#32,
  0x748f82ee#32, 0x78a5636f#32, 0x84c87814#32, 0x8cc70208#32, 0x90befffa#32, 0xa4506ceb#32, 0xbef9a3f7#32, 0xc67178f2#32]
def init8 : S8 := ⟨0x6a09e667#32, 0xbb67ae85#32, 0x3c6ef372#32, 0xa54ff53a#32, 0x510e527f#32, 0x9b05688c#32, 0x1f83d9ab#32, 0x5be0cd19#32⟩
def S8.plus (s x : S8) : S8 := ⟨s.a + x.a, s.b + x.b, s.c + x.c, s.d + x.d, s.e + x.e, s.f + x.f, s.g + x.g, s.h + x.h⟩
def comp (s : S8) (b : List UInt8) : S8 := s.plus (rnds ks (sched b) s)
def absorbW (f : S8 → List UInt8 → S8) : Nat → List UInt8 → S8 → S8
  | 0, _, s => s
  | n + 1, t, s => absorbW f n (t.drop 64) (f s (t.take 64))
def absorb : Nat → List UInt8 → S8 → S8 := absorbW comp
theorem absorb_zero (t : List UInt8) (s : S8) : absorb 0 t s = s := by rw [absorb, absorbW]
theorem absorb_succ (n : Nat) (t : List UInt8) (s : S8) : absorb (n + 1) t s = absorb n (t.drop 64) (comp s (t.take 64)) := by rw [absorb, absorbW]
def lenByte (n i : Nat) : UInt8 := UInt8.ofNat ((n * 8) >>> (8 * i))
def padding (n : Nat) : List UInt8 := 128 :: List.replicate ((119 - n % 64) % 64) 0 ++ [lenByte n 7, lenByte n 6, lenByte n 5, lenByte n 4, lenByte n 3, lenByte n 2, lenByte n 1, lenByte n 0]
def hexs : List UInt8 := [48, 49, 50, 51, 52, 53, 54, 55, 56, 57, 97, 98, 99, 100, 101, 102]
def hexd (x : B) (k : Nat) : UInt8 := hexs.getD ((x >>> k) &&& 15#32).toNat 0
def hex8 (x : B) : List UInt8 := [hexd x 28, hexd x 24, hexd x 20, hexd x 16, hexd x 12, hexd x 8, hexd x 4, hexd x 0]
def S8.hex (s : S8) : List UInt8 := s.list.flatMap hex8
def sha (s : List UInt8) : List UInt8 := (absorb ((s ++ padding s.length).length / 64) (s ++ padding s.length) init8).hex
end Go.Proofs.YtkdlmkbpfdogcaaGreatDoor
namespace Go.Proofs.YtkdlmkbpfdogcaaGreatDoor
open Go.RowKit Vc
variable {w : World}
theorem Row.at {w : World} {g : Nat} {t : TypeId} {cs : List Value} (h : Row w g t ⟨cs⟩) {k : Nat} {v : Value} (hv : cs[k]? = some v) : w.cell? ((Addr.mk g 0 none).add (k * 1)) = some v := by
  rw [add_row, Nat.zero_add, Nat.mul_one]
  exact h.cellv (by simpa using hv)
theorem Row.at1 {w : World} {g : Nat} {t : TypeId} {cs : List Value} (h : Row w g t ⟨cs⟩) {k : Nat} {v : Value} (hv : cs[k]? = some v) : w.cell? ((Addr.mk g 0 none).add k) = some v := by
  rw [add_row, Nat.zero_add]
  exact h.cellv (by simpa using hv)
theorem Row.wrAt {w : World} {g : Nat} {t : TypeId} {cs : List Value} (h : Row w g t ⟨cs⟩) {k : Nat} (hk : k < cs.length) : Wr w ((Addr.mk g 0 none).add (k * 1)) := by
  rw [add_row, Nat.zero_add, Nat.mul_one]
  exact h.wr _ (by simpa using hk)
theorem Row.setAt {w : World} {g : Nat} {t : TypeId} {cs : List Value} (h : Row w g t ⟨cs⟩) (k : Nat) (u : Value) : Row (w.setCell ((Addr.mk g 0 none).add (k * 1)) u) g t ⟨cs.set k u⟩ := by
  rw [add_row, Nat.zero_add, Nat.mul_one]
  exact h.setl _ _
theorem Row.farAt {w : World} {g p : Nat} {t : TypeId} {cs : Array Value} (h : Row w g t cs) (hne : g ≠ p) (k : Nat) (u : Value) : Row (w.setCell ((Addr.mk p 0 none).add (k * 1)) u) g t cs := by
  rw [add_row, Nat.zero_add, Nat.mul_one]
  exact h.far hne _
theorem Mod.setAt {S : Nat → Prop} {a b : World} (h : Mod S a b) {p : Nat} (hp : S p ∨ a.heap.size ≤ p) (k : Nat) (u : Value) : Mod S a (b.setCell ((Addr.mk p 0 none).add (k * 1)) u) := by
  rw [add_row, Nat.zero_add, Nat.mul_one]
  exact h.setCell hp _
theorem rot_count : ∀ n : Fin 32, n.val ≠ 0 → bits .and .u64 (IntKind.u64.wrap (IntKind.i64.wrap (0 - (n.val : Int)))) 31 = ((32 - n.val : Nat) : Int) := by decide
theorem turned_spec (x : B) (n : Nat) (h0 : n ≠ 0) (h1 : n < 32) : Calls Tryz.prog fn_digest_turned #[uv x, .int .i64 (n : Int)] w (fun e w' => e = .returned (uv (rotr x n)) ∧ w' = w) := by
  refine digest_turned_calls _ _ _ _ ?_
  have hr := rot_count ⟨n, h1⟩ h0
  dsimp only at hr
  have hw : IntKind.u64.wrap (32 - ((32 - n : Nat) : Int)) = ((n : Nat) : Int) := by
    rw [wrap_u64 (by omega) (by omega)]; omega
  refine Calls.mono (math_bits_RotateLeft32_calls _ _ _ (fun e w' => e = .returned (uv (rotr x n)) ∧ w' = w) ?_) ?_
  · unfold vc_math_bits_RotateLeft32
    simp only [hr, hw, Int.toNat_natCast, b_shl, b_shr, b_or]
    refine ⟨by omega, by omega, ?_, trivial⟩
    rw [BitVec.or_comm]
    rfl
  · rintro _ w' ⟨rfl, rfl⟩
    exact .inl ⟨_, rfl, rfl, rfl⟩
theorem word_spec (b : List UInt8) (h : 4 ≤ b.length) : Calls Tryz.prog fn_digest_word #[.string (S b)] w (fun e w' => e = .returned (uv (wordAt b 0)) ∧ w' = w.drew) := by
  refine digest_word_calls _ _ _ ?_
  match b, h with
  | b0 :: b1 :: b2 :: b3 :: r, _ =>
    refine ⟨by decide, b0, rfl, by decide, by decide, b1, rfl, by decide, by decide, b2, rfl, by decide, by decide, b3, rfl, ?_, rfl⟩
    simp only [b_byte, b_shl, b_or]
    rfl
theorem wordAt_drop (b : List UInt8) (i : Nat) : wordAt (b.drop (4 * i)) 0 = wordAt b i := by
  simp [wordAt, List.getD_eq_getElem?_getD, List.getElem?_drop]
theorem grow_length (b : List UInt8) : ∀ (n : Nat) (l : List B), (grow b n l).length = l.length + n
  | 0, l => rfl
  | n + 1, l => by rw [grow, grow_length b n]; simp; omega
theorem sched_length (b : List UInt8) : (sched b).length = 64 := by simp [sched, grow_length]
def wcells (l : List B) (n : Nat) : List Value := uvs (l ++ List.replicate (n - l.length) 0#32)
theorem wcells_length {l : List B} {n : Nat} (h : l.length ≤ n) : (wcells l n).length = n := by simp [wcells, uvs]; omega
theorem wcells_get {l : List B} {n k : Nat} (h : k < l.length) : (wcells l n)[k]? = some (.int .u32 ((l.getD k 0).toNat : Int)) := by
  have e : (l ++ List.replicate (n - l.length) 0#32)[k]? = some l[k] := by rw [List.getElem?_append_left h]; simp [h]
  simp only [wcells, uvs, List.getElem?_map, e, Option.map_some, uv, List.getD_eq_getElem?_getD, List.getElem?_eq_getElem h, Option.getD_some]
theorem wcells_set {l : List B} {n : Nat} (h : l.length < n) (x : B) : (wcells l n).set l.length (.int .u32 (x.toNat : Int)) = wcells (l ++ [x]) n := by
  have e : n - l.length = (n - (l ++ [x]).length) + 1 := by simp; omega
  unfold wcells
  rw [e, List.replicate_succ]
  simp [uvs, uv]
theorem wcells_full {l : List B} {n : Nat} (h : l.length = n) : wcells l n = uvs l := by simp [wcells, h]
theorem wcells_nil : wcells [] 64 = List.replicate 64 (.int .u32 0) := by simp [wcells, uvs, uv]
theorem uvs_one (l : List B) : ∀ v ∈ uvs l, v.oneCell' = true := by
  intro v hv
  simp only [uvs, List.mem_map] at hv
  obtain ⟨x, _, rfl⟩ := hv
  rfl
theorem uvs_length (l : List B) : (uvs l).length = l.length := by simp [uvs]
theorem uvs_get {l : List B} {k : Nat} (h : k < l.length) : (uvs l)[k]? = some (.int .u32 ((l.getD k 0).toNat : Int)) := by
  simp [uvs, uv, h, List.getD_eq_getElem?_getD]
theorem words_spec (b : List UInt8) (hb : b.length = 64) : Calls Tryz.prog fn_digest_words #[.string (S b)] w (fun e w' => e = .returned (.agg ⟨uvs (sched b)⟩) ∧ Still w w') := by
  refine digest_words_calls _ _ _ ?_
  refine ⟨fun x w1 => ∃ l : List B, x = (l.length : Int) ∧ l.length ≤ 64 ∧ grow b (64 - l.length) l = sched b ∧ Row w1 w.heap.size 176 ⟨wcells l 64⟩ ∧ Still w w1, fun x _ => (64 - x).toNat, ?_, ?_⟩
  · refine ⟨[], rfl, by simp, rfl, ?_, (Mod.refl _ _).alloc _⟩
    rw [wcells_nil]
    exact Row.new _ _ _
  · rintro _ _ w1 ⟨l, rfl, hl, hg, hr, hm⟩
    have w1e : IntKind.i64.wrap ((l.length : Int) + 1) = ((l.length + 1 : Nat) : Int) := by rw [wrap_i64 (by omega) (by omega)]; omega
    refine bsel_of (fun hx => ?_) (fun hx => ?_)
    · have hx := of_decide_eq_true hx
      have hx' : l.length < 64 := by omega
      have hgs : grow b (64 - (l.length + 1)) (l ++ [wnext b l]) = sched b := by
        rw [← hg, show 64 - l.length = (64 - (l.length + 1)) + 1 by omega]
        rfl
      refine bsel_of (fun h16 => ?_) (fun h16 => ?_)
      · have h16 := of_decide_eq_true h16
        have w4 : IntKind.i64.wrap (4 * (l.length : Int)) = ((4 * l.length : Nat) : Int) := by rw [wrap_i64 (by omega) (by omega)]; omega
        rw [w4, Int.toNat_natCast]
        refine ⟨by omega, by omega, (word_spec _ (by simp; omega)).mono ?_⟩
        rintro _ w2 ⟨rfl, rfl⟩
        rw [wordAt_drop]
        refine .inl ⟨_, rfl, by omega, by omega, ?_⟩
        rw [w1e, Int.toNat_natCast]
        refine ⟨hr.drew.wrAt (by rw [wcells_length (by omega)]; omega), ⟨l ++ [wordAt b l.length], by simp, by simp; omega, ?_, ?_, hm.drew.setAt (.inr (Nat.le_refl _)) _ _⟩, by dsimp only; omega⟩
        · have : wnext b l = wordAt b l.length := by unfold wnext; rw [if_pos (by omega)]
          rw [this] at hgs
          simpa using hgs
        · rw [← wcells_set hx']
          exact hr.drew.setAt _ _
      · have h16 := of_decide_eq_false h16
        have e15 : IntKind.i64.wrap ((l.length : Int) - 15) = ((l.length - 15 : Nat) : Int) := by rw [wrap_i64 (by omega) (by omega)]; omega
        have e2 : IntKind.i64.wrap ((l.length : Int) - 2) = ((l.length - 2 : Nat) : Int) := by rw [wrap_i64 (by omega) (by omega)]; omega
        have e16 : IntKind.i64.wrap ((l.length : Int) - 16) = ((l.length - 16 : Nat) : Int) := by rw [wrap_i64 (by omega) (by omega)]; omega
        have e7 : IntKind.i64.wrap ((l.length : Int) - 7) = ((l.length - 7 : Nat) : Int) := by rw [wrap_i64 (by omega) (by omega)]; omega
        simp only [e15, e2, e16, e7, w1e, Int.toNat_natCast]
        refine ⟨by omega, by omega, _, hr.at (wcells_get (by omega)), by omega, by omega, _, hr.at (wcells_get (by omega)),
          fun wq => Row wq w.heap.size 176 ⟨wcells l 64⟩ ∧ Still w wq, ⟨hr.drew.drew, hm.drew.drew⟩, by omega, by omega, _, fun wq hq => hq.1.at (wcells_get (by omega)), by omega, by omega, _, fun wq hq => hq.1.at (wcells_get (by omega)), by decide, by decide, ?_⟩
        refine (turned_spec _ 7 (by decide) (by decide)).mono ?_
        rintro _ _ ⟨rfl, rfl⟩
        refine .inl ⟨_, rfl, ⟨hr.drew.drew, hm.drew.drew⟩, (turned_spec _ 18 (by decide) (by decide)).mono ?_⟩
        rintro _ _ ⟨rfl, rfl⟩
        refine .inl ⟨_, rfl, ⟨hr.drew.drew, hm.drew.drew⟩, (turned_spec _ 17 (by decide) (by decide)).mono ?_⟩
        rintro _ _ ⟨rfl, rfl⟩
        refine .inl ⟨_, rfl, ⟨hr.drew.drew, hm.drew.drew⟩, (turned_spec _ 19 (by decide) (by decide)).mono ?_⟩
        rintro _ _ ⟨rfl, rfl⟩
        refine .inl ⟨_, rfl, ?_⟩
        simp only [b_add, b_xor, b_shr]
        refine ⟨⟨hr.drew.drew, hm.drew.drew⟩, by omega, by omega, hr.drew.drew.wrAt (by rw [wcells_length (by omega)]; omega), ⟨l ++ [wnext b l], by simp, by simp; omega, by simpa using hgs, ?_, hm.drew.drew.setAt (.inr (Nat.le_refl _)) _ _⟩, by omega⟩
        rw [← wcells_set hx']
        have hn : wnext b l = l.getD (l.length - 16) 0 + l.getD (l.length - 7) 0 + sig0 (l.getD (l.length - 15) 0) + sig1 (l.getD (l.length - 2) 0) := by
          unfold wnext
          rw [if_neg (by omega)]
          ac_rfl
        rw [hn]
        exact hr.drew.drew.setAt _ _
    · have hx := of_decide_eq_false hx
      have hx : l.length = 64 := by omega
      rw [hx, Nat.sub_self, grow] at hg
      rw [wcells_full hx] at hr
      rw [← hg]
      clear hg
      have hs : (uvs l).length = 64 := by rw [uvs_length, hx]
      have ho := uvs_one l
      generalize uvs l = W at hr hs ho ⊢
      refine ⟨W, hs, ?_, hs, ?_, w.heap.size, 0, W, 176, rfl, hr, by simp, W, hs, ?_, rfl, ?_⟩
      · intro j u hu
        rw [add_row, Nat.zero_add]
        exact hr.cellv (by simpa using hu)
      · exact ho
      · intro j u hu
        rw [add_row, Nat.zero_add]
        exact (hr.setRow _ (by simp)).cellv (by simpa using hu)
      · exact hm.setRow (.inr (Nat.le_refl _)) _
theorem cubes_aux (vs : List Value) (h : vs = uvs ks) (R : Ending → World → Prop) (hR : ∀ w', Still w w' → R (.returned (.agg ⟨uvs ks⟩)) w') :
    vs.length = 64 ∧ (∀ v ∈ vs, v.oneCell' = true) ∧ ∃ (g o : Nat) (cur : List Value) (ty : TypeId), Addr.mk w.heap.size 0 none = Addr.mk g o none ∧ Row (w.alloc (.cells ⟨List.replicate 64 (.int .u32 0)⟩ 176)) g ty ⟨cur⟩ ∧ o + vs.length ≤ cur.length ∧
      ∃ v : List Value, v.length = 64 ∧ (∀ (j : Nat) (u : Value), v[j]? = some u → ((w.alloc (.cells ⟨List.replicate 64 (.int .u32 0)⟩ 176)).setRow g ⟨cur.take o ++ (vs ++ cur.drop (o + vs.length))⟩).cell? ((Addr.mk w.heap.size 0 none).add j) = some u) ∧
        R (.returned (.agg ⟨v⟩)) ((w.alloc (.cells ⟨List.replicate 64 (.int .u32 0)⟩ 176)).setRow g ⟨cur.take o ++ (vs ++ cur.drop (o + vs.length))⟩) := by
  subst h
  have hl : (uvs ks).length = 64 := rfl
  have ho := uvs_one ks
  generalize uvs ks = W at hl ho hR ⊢
  refine ⟨hl, ho, w.heap.size, 0, List.replicate 64 (.int .u32 0), 176, rfl, Row.new _ _ _, by simp [hl], W, hl, ?_, hR _ (((Mod.refl _ _).alloc _).setRow (.inr (Nat.le_refl _)) _)⟩
  intro j u hu
  have hr := (Row.new w 176 ⟨List.replicate 64 (.int .u32 0)⟩).setRow ⟨(List.replicate 64 (Value.int .u32 0)).take 0 ++ (W ++ (List.replicate 64 (Value.int .u32 0)).drop (0 + W.length))⟩ (by simp [hl])
  refine hr.at1 ?_
  have hj : j < W.length := (List.getElem?_eq_some_iff.1 hu).1
  simp [List.getElem?_append_left hj, hu]
set_option maxRecDepth 10000 in
theorem cubes_spec : Calls Tryz.prog fn_digest_cubes #[] w (fun e w' => e = .returned (.agg ⟨uvs ks⟩) ∧ Still w w') := by
  refine digest_cubes_calls _ _ ?_
  unfold vc_digest_cubes
  exact cubes_aux (w := w) _ (by kernel_rfl) (fun e w' => e = .returned (.agg ⟨uvs ks⟩) ∧ Still w w') (fun w' h => ⟨rfl, h⟩)
def lens (n : Nat) : Nat → List UInt8
  | 0 => []
  | i + 1 => lenByte n i :: lens n i
def padAt (n i : Nat) : List UInt8 := 128 :: (List.replicate ((119 - n % 64) % 64 + (8 - i)) 0 ++ lens n i)
theorem lens_length (n : Nat) : ∀ i, (lens n i).length = i
  | 0 => rfl
  | i + 1 => by simp [lens, lens_length n i]
theorem padAt_length {n i : Nat} (h : i ≤ 8) : (padAt n i).length = (119 - n % 64) % 64 + 9 := by simp [padAt, lens_length]; omega
theorem padAt_eight (n : Nat) : padAt n 8 = padding n := by simp [padAt, padding, lens]
theorem padAt_set {n i : Nat} (h : i < 8) : (padAt n i).set ((119 - n % 64) % 64 + 8 - i) (lenByte n i) = padAt n (i + 1) := by
  have e1 : (119 - n % 64) % 64 + (8 - i) = ((119 - n % 64) % 64 + (8 - (i + 1))) + 1 := by omega
  have e2 : (119 - n % 64) % 64 + 8 - i = ((119 - n % 64) % 64 + (8 - (i + 1))) + 1 := by omega
  unfold padAt
  rw [e1, e2]
  generalize (119 - n % 64) % 64 + (8 - (i + 1)) = m
  rw [List.set_cons_succ, List.replicate_succ', List.append_assoc, List.set_append_right _ _ (by simp)]
  simp [lens]
theorem wrap_u8d (n : Nat) : IntKind.u8.wrap (n : Int) = ((UInt8.ofNat n).toNat : Int) := by
  simp only [IntKind.wrap, IntKind.signed, IntKind.bits, UInt8.toNat_ofNat']
  simp
theorem lenByte_int {n i : Nat} (hn : n < 1000000000000) (hi : i < 8) : IntKind.u8.wrap (Int.fdiv (IntKind.i64.wrap ((n : Int) * 8)) (2 ^ (min (8 * i) IntKind.i64.bits))) = ((lenByte n i).toNat : Int) := by
  have e : IntKind.i64.wrap ((n : Int) * 8) = ((n * 8 : Nat) : Int) := by rw [wrap_i64 (by omega) (by omega)]; omega
  have hm : min (8 * i) IntKind.i64.bits = 8 * i := by simp [IntKind.bits]; omega
  rw [e, hm, Int.fdiv_eq_ediv_of_nonneg _ (Int.pow_nonneg (by decide))]
  have h : ((2 : Int) ^ (8 * i)) = ((2 ^ (8 * i) : Nat) : Int) := by push_cast; rfl
  rw [h, ← Int.natCast_ediv, wrap_u8d, lenByte, Nat.shiftRight_eq_div_pow]
theorem padding_spec {n : Nat} (hn : n < 1000000000000) : Calls Tryz.prog fn_digest_padding #[.int .i64 (n : Int)] w (fun e w' => e = .returned (.string (S (padding n))) ∧ Still w w') := by
  refine digest_padding_calls _ _ _ ?_
  have h1 : Int.tmod (n : Int) 64 = ((n % 64 : Nat) : Int) := by rw [Int.tmod_eq_emod_of_nonneg (by omega)]; omega
  have h2 : IntKind.i64.wrap (119 - ((n % 64 : Nat) : Int)) = ((119 - n % 64 : Nat) : Int) := by rw [wrap_i64 (by omega) (by omega)]; omega
  have h3 : Int.tmod ((119 - n % 64 : Nat) : Int) 64 = (((119 - n % 64) % 64 : Nat) : Int) := by rw [Int.tmod_eq_emod_of_nonneg (by omega)]; omega
  have h4 : IntKind.i64.wrap (1 + (((119 - n % 64) % 64 : Nat) : Int)) = (((119 - n % 64) % 64 + 1 : Nat) : Int) := by rw [wrap_i64 (by omega) (by omega)]; omega
  have h5 : IntKind.i64.wrap ((((119 - n % 64) % 64 + 1 : Nat) : Int) + 8) = (((119 - n % 64) % 64 + 9 : Nat) : Int) := by rw [wrap_i64 (by omega) (by omega)]; omega
  unfold vc_digest_padding
  simp only [h1, h2, h3, h4, h5, Int.toNat_natCast]
  have hz : (119 - n % 64) % 64 < 64 := Nat.mod_lt _ (by decide)
  generalize hZ : (119 - n % 64) % 64 = Z at hz
  have hmk : madeCells #[(.int .u8 0)] ((Z + 9) * 1) = ⟨bc (0 :: (List.replicate (Z + 8) 0))⟩ := by
    apply Array.ext'
    apply List.ext_getElem?
    intro j
    have e0 : bc (0 :: (List.replicate (Z + 8) 0)) = List.replicate (Z + 9) (.int .u8 0) := by
      rw [← List.replicate_succ]
      simp [bc]
    rw [e0, List.getElem?_replicate]
    by_cases hj : j < Z + 9
    · simp [madeCells, hj, Nat.mod_one]
    · simp [madeCells, hj]
  rw [hmk]
  have hr0 := Row.new w 5 ⟨bc (0 :: (List.replicate (Z + 8) 0))⟩
  refine ⟨by decide, by decide, by omega, by omega, by omega, by omega, by omega, by omega, hr0.wrAt (k := 0) (by simp), ?_⟩
  refine ⟨fun x w1 => ∃ i : Nat, x = (i : Int) ∧ i ≤ 8 ∧ Row w1 w.heap.size 5 ⟨bc (padAt n i)⟩ ∧ Still w w1, fun x _ => (8 - x).toNat, ⟨0, rfl, by omega, ?_, ((Mod.refl _ _).alloc _).setAt (k := 0) (.inr (Nat.le_refl _)) _⟩, ?_⟩
  · have := hr0.setAt 0 (.int .u8 (((128 : UInt8).toNat : Nat) : Int))
    rw [bc_set] at this
    have e : padAt n 0 = (0 :: (List.replicate (Z + 8) 0)).set 0 128 := by simp [padAt, lens, hZ]
    rw [e]
    exact this
  · rintro _ _ w1 ⟨i, rfl, hi, hr, hm⟩
    have e1 : IntKind.i64.wrap ((i : Int) + 1) = ((i + 1 : Nat) : Int) := by rw [wrap_i64 (by omega) (by omega)]; omega
    have e8 : IntKind.i64.wrap (8 * (i : Int)) = ((8 * i : Nat) : Int) := by rw [wrap_i64 (by omega) (by omega)]; omega
    refine bsel_of (fun hx => ?_) (fun hx => ?_)
    · have hx := of_decide_eq_true hx
      have hx' : i < 8 := by omega
      have ea : IntKind.i64.wrap (((Z + 9 : Nat) : Int) - 1) = ((Z + 8 : Nat) : Int) := by rw [wrap_i64 (by omega) (by omega)]; omega
      have eb : IntKind.i64.wrap (((Z + 8 : Nat) : Int) - (i : Int)) = ((Z + 8 - i : Nat) : Int) := by rw [wrap_i64 (by omega) (by omega)]; omega
      simp only [e1, e8, ea, eb, Int.toNat_natCast, lenByte_int hn hx']
      refine ⟨by omega, by omega, by omega, hr.wrAt (by rw [bc_length, padAt_length hi]; omega), ⟨i + 1, rfl, by omega, ?_, hm.setAt (.inr (Nat.le_refl _)) _ _⟩, by omega⟩
      rw [← padAt_set hx', ← bc_set, hZ]
      exact hr.setAt _ _
    · have hx := of_decide_eq_false hx
      obtain rfl : i = 8 := by omega
      rw [padAt_eight] at hr
      exact ⟨_, hr.bytes (by rw [← padAt_eight, padAt_length (by omega), hZ]), rfl, hm⟩
theorem hex_at (x : B) (k : Nat) : hexs[Int.toNat (bits .and .u32 (Int.fdiv (x.toNat : Int) (2 ^ (min k IntKind.u32.bits))) 15)]? = some (hexd x k) ∧ 0 ≤ bits .and .u32 (Int.fdiv (x.toNat : Int) (2 ^ (min k IntKind.u32.bits))) 15 := by
  have h15 : bits .and .u32 ((x >>> k).toNat : Int) 15 = (((x >>> k) &&& 15#32).toNat : Int) := b_and _ 15#32
  rw [b_shr, h15, Int.toNat_natCast]
  have hlt : ((x >>> k) &&& 15#32).toNat < hexs.length := by
    rw [BitVec.toNat_and]
    exact Nat.lt_of_le_of_lt Nat.and_le_right (by decide)
  refine ⟨?_, by omega⟩
  rw [List.getElem?_eq_getElem hlt, hexd, List.getD_eq_getElem?_getD, List.getElem?_eq_getElem hlt]
  rfl
theorem hex8_get (x : B) {j : Nat} (h : j < 8) : (hex8 x).take (j + 1) = (hex8 x).take j ++ [hexd x (28 - 4 * j)] := by
  match j, h with
  | 0, _ => rfl
  | 1, _ => rfl
  | 2, _ => rfl
  | 3, _ => rfl
  | 4, _ => rfl
  | 5, _ => rfl
  | 6, _ => rfl
  | 7, _ => rfl
def hexUp (l : List B) (i : Nat) : List UInt8 := (l.take i).flatMap hex8
theorem hexUp_succ {l : List B} {i : Nat} (h : i < l.length) : hexUp l (i + 1) = hexUp l i ++ hex8 (l.getD i 0) := by
  rw [hexUp, List.take_add_one, List.getElem?_eq_getElem h, List.flatMap_append, List.getD_eq_getElem?_getD, List.getElem?_eq_getElem h]
  simp [hexUp]
theorem hexUp_length (l : List B) (i : Nat) : (hexUp l i).length ≤ 8 * i := by
  unfold hexUp
  induction i generalizing l with
  | zero => simp
  | succ i ih => cases l with
    | nil => simp
    | cons a l =>
      have := ih l
      have h8 : (hex8 a).length = 8 := rfl
      simp only [List.take_succ_cons, List.flatMap_cons, List.length_append, h8]
      omega
structure Dig (w w1 : World) (B : Nat) (p : Option Addr) (L C : Nat) (l : List UInt8) : Prop where
  own : Owns w1 B 5 1 (.slice p L C) L (bc l)
  still : Still w w1
theorem hexdigits_spec (s : S8) : Calls Tryz.prog fn_digest_state_digits #[.agg ⟨uvs s.list⟩] w (fun e w' => e = .returned (.string (S s.hex)) ∧ Still w w') := by
  refine digest_state_digits_calls _ _ _ _ _ _ _ _ _ _ ?_
  have hr : Row (w.alloc (.cells ⟨uvs s.list⟩ 155)) w.heap.size 155 ⟨uvs s.list⟩ := Row.new _ _ _
  refine ⟨_, _, _, _, _, _, _, _, hr.cellv rfl, hr.cellv rfl, hr.cellv rfl, hr.cellv rfl, hr.cellv rfl, hr.cellv rfl, hr.cellv rfl, hr.cellv rfl, ?_⟩
  refine ⟨fun p L C x w1 => ∃ i : Nat, x = (i : Int) ∧ i ≤ 8 ∧ Dig w w1 w.heap.size p L C (hexUp s.list i), fun _ _ _ x _ => (8 - x).toNat, ⟨0, rfl, by omega, Owns.nil _ _ _ _, (Mod.refl _ _).alloc _⟩, ?_⟩
  rintro p L C _ _ w1 ⟨i, rfl, hi, hd⟩
  refine bsel_of (fun hx => ?_) (fun hx => ?_)
  · have hx := of_decide_eq_true hx
    have hx' : i < 8 := by omega
    have hl := hexUp_length s.list i
    refine ⟨by omega, by omega, ((s.list.getD i 0).toNat : Int), ?_, ?_⟩
    · rw [Int.toNat_natCast, Nat.mul_one]
      exact uvs_get (l := s.list) (by simpa [S8.list] using hx')
    generalize hxx : s.list.getD i 0 = x
    refine ⟨fun p L C k w1 => ∃ j : Nat, k = 28 - 4 * (j : Int) ∧ j ≤ 8 ∧ Dig w w1 w.heap.size p L C (hexUp s.list i ++ (hex8 x).take j), fun _ _ _ k _ => (k + 8).toNat, ⟨0, rfl, by omega, by simpa using hd⟩, ?_⟩
    rintro p1 L1 C1 _ _ w2 ⟨j, rfl, hj, hd1⟩
    refine bsel_of (fun hk => ?_) (fun hk => ?_)
    · have hk := of_decide_eq_true hk
      have hj' : j < 8 := by omega
      have e4 : IntKind.i64.wrap (28 - 4 * (j : Int) - 4) = 28 - 4 * ((j + 1 : Nat) : Int) := by rw [wrap_i64 (by omega) (by omega)]; omega
      have ek : Int.toNat (28 - 4 * (j : Int)) = 28 - 4 * j := by omega
      rw [ek, e4]
      obtain ⟨hh, hh0⟩ := hex_at x (28 - 4 * j)
      have hL := hd1.own.length
      have hL2 : (hex8 x).length = 8 := rfl
      simp only [bc_length, List.length_append, List.length_take, hL2] at hL
      refine ⟨hk, hh0, _, hh, _, [.int .u8 ((hexd x (28 - 4 * j)).toNat : Int)], (hd1.own.alloc _).base0, rfl, one_one rfl, one_src _ _ _, by omega, by omega, ?_⟩
      intro p2 c2 w3 ho3 hg3 hb3
      refine ⟨⟨j + 1, rfl, by omega, ?_, hd1.still.pushed hd1.own (Nat.le_refl _) hg3⟩, by dsimp only; omega⟩
      have := hd1.own.pushed hd1.still.size ho3 hb3
      rw [hex8_get x hj', ← List.append_assoc, bc_append]
      exact this
    · have hk := of_decide_eq_false hk
      obtain rfl : j = 8 := by omega
      have e1 : IntKind.i64.wrap ((i : Int) + 1) = ((i + 1 : Nat) : Int) := by rw [wrap_i64 (by omega) (by omega)]; omega
      rw [e1]
      refine ⟨⟨i + 1, rfl, by omega, ?_⟩, by dsimp only; omega⟩
      rw [hexUp_succ (by simpa [S8.list] using hx'), hxx]
      exact hd1
  · have hx := of_decide_eq_false hx
    obtain rfl : i = 8 := by omega
    exact ⟨_, hd.own.bytes, rfl, hd.still⟩
abbrev fill8 (w : World) (t : TypeId) (s : S8) : World :=
  ((((((((w.alloc (.cells #[(.int .u32 0), (.int .u32 0), (.int .u32 0), (.int .u32 0), (.int .u32 0), (.int .u32 0), (.int .u32 0), (.int .u32 0)] t)).setCell (Addr.mk w.heap.size 0 none) (uv s.a)).setCell (Addr.mk w.heap.size 1 none) (uv s.b)).setCell (Addr.mk w.heap.size 2 none) (uv s.c)).setCell (Addr.mk w.heap.size 3 none) (uv s.d)).setCell (Addr.mk w.heap.size 4 none) (uv s.e)).setCell (Addr.mk w.heap.size 5 none) (uv s.f)).setCell (Addr.mk w.heap.size 6 none) (uv s.g)).setCell (Addr.mk w.heap.size 7 none) (uv s.h)
theorem fill8_row (w : World) (t : TypeId) (s : S8) : Row (fill8 w t s) w.heap.size t ⟨uvs s.list⟩ := by
  have h : Row (w.alloc (.cells ⟨List.replicate 8 (.int .u32 0)⟩ t)) w.heap.size t ⟨List.replicate 8 (.int .u32 0)⟩ := Row.new _ _ _
  exact (((((((h.setl 0 (uv s.a)).setl 1 (uv s.b)).setl 2 (uv s.c)).setl 3 (uv s.d)).setl 4 (uv s.e)).setl 5 (uv s.f)).setl 6 (uv s.g)).setl 7 (uv s.h)
theorem fill8_wr (w : World) (t : TypeId) (s : S8) {Q : Prop} (h : Q) :
    Wr (w.alloc (.cells #[(.int .u32 0), (.int .u32 0), (.int .u32 0), (.int .u32 0), (.int .u32 0), (.int .u32 0), (.int .u32 0), (.int .u32 0)] t)) (Addr.mk w.heap.size 0 none) ∧
    Wr ((w.alloc (.cells #[(.int .u32 0), (.int .u32 0), (.int .u32 0), (.int .u32 0), (.int .u32 0), (.int .u32 0), (.int .u32 0), (.int .u32 0)] t)).setCell (Addr.mk w.heap.size 0 none) (uv s.a)) (Addr.mk w.heap.size 1 none) ∧
    Wr (((w.alloc (.cells #[(.int .u32 0), (.int .u32 0), (.int .u32 0), (.int .u32 0), (.int .u32 0), (.int .u32 0), (.int .u32 0), (.int .u32 0)] t)).setCell (Addr.mk w.heap.size 0 none) (uv s.a)).setCell (Addr.mk w.heap.size 1 none) (uv s.b)) (Addr.mk w.heap.size 2 none) ∧
    Wr ((((w.alloc (.cells #[(.int .u32 0), (.int .u32 0), (.int .u32 0), (.int .u32 0), (.int .u32 0), (.int .u32 0), (.int .u32 0), (.int .u32 0)] t)).setCell (Addr.mk w.heap.size 0 none) (uv s.a)).setCell (Addr.mk w.heap.size 1 none) (uv s.b)).setCell (Addr.mk w.heap.size 2 none) (uv s.c)) (Addr.mk w.heap.size 3 none) ∧
    Wr (((((w.alloc (.cells #[(.int .u32 0), (.int .u32 0), (.int .u32 0), (.int .u32 0), (.int .u32 0), (.int .u32 0), (.int .u32 0), (.int .u32 0)] t)).setCell (Addr.mk w.heap.size 0 none) (uv s.a)).setCell (Addr.mk w.heap.size 1 none) (uv s.b)).setCell (Addr.mk w.heap.size 2 none) (uv s.c)).setCell (Addr.mk w.heap.size 3 none) (uv s.d)) (Addr.mk w.heap.size 4 none) ∧
    Wr ((((((w.alloc (.cells #[(.int .u32 0), (.int .u32 0), (.int .u32 0), (.int .u32 0), (.int .u32 0), (.int .u32 0), (.int .u32 0), (.int .u32 0)] t)).setCell (Addr.mk w.heap.size 0 none) (uv s.a)).setCell (Addr.mk w.heap.size 1 none) (uv s.b)).setCell (Addr.mk w.heap.size 2 none) (uv s.c)).setCell (Addr.mk w.heap.size 3 none) (uv s.d)).setCell (Addr.mk w.heap.size 4 none) (uv s.e)) (Addr.mk w.heap.size 5 none) ∧
    Wr (((((((w.alloc (.cells #[(.int .u32 0), (.int .u32 0), (.int .u32 0), (.int .u32 0), (.int .u32 0), (.int .u32 0), (.int .u32 0), (.int .u32 0)] t)).setCell (Addr.mk w.heap.size 0 none) (uv s.a)).setCell (Addr.mk w.heap.size 1 none) (uv s.b)).setCell (Addr.mk w.heap.size 2 none) (uv s.c)).setCell (Addr.mk w.heap.size 3 none) (uv s.d)).setCell (Addr.mk w.heap.size 4 none) (uv s.e)).setCell (Addr.mk w.heap.size 5 none) (uv s.f)) (Addr.mk w.heap.size 6 none) ∧
    Wr ((((((((w.alloc (.cells #[(.int .u32 0), (.int .u32 0), (.int .u32 0), (.int .u32 0), (.int .u32 0), (.int .u32 0), (.int .u32 0), (.int .u32 0)] t)).setCell (Addr.mk w.heap.size 0 none) (uv s.a)).setCell (Addr.mk w.heap.size 1 none) (uv s.b)).setCell (Addr.mk w.heap.size 2 none) (uv s.c)).setCell (Addr.mk w.heap.size 3 none) (uv s.d)).setCell (Addr.mk w.heap.size 4 none) (uv s.e)).setCell (Addr.mk w.heap.size 5 none) (uv s.f)).setCell (Addr.mk w.heap.size 6 none) (uv s.g)) (Addr.mk w.heap.size 7 none) ∧ Q := by
  have h0 : Row (w.alloc (.cells ⟨List.replicate 8 (.int .u32 0)⟩ t)) w.heap.size t ⟨List.replicate 8 (.int .u32 0)⟩ := Row.new _ _ _
  have h1 := h0.setl 0 (uv s.a)
  have h2 := h1.setl 1 (uv s.b)
  have h3 := h2.setl 2 (uv s.c)
  have h4 := h3.setl 3 (uv s.d)
  have h5 := h4.setl 4 (uv s.e)
  have h6 := h5.setl 5 (uv s.f)
  have h7 := h6.setl 6 (uv s.g)
  exact ⟨h0.wr 0 (by simp), h1.wr 1 (by simp), h2.wr 2 (by simp), h3.wr 3 (by simp), h4.wr 4 (by simp), h5.wr 5 (by simp), h6.wr 6 (by simp), h7.wr 7 (by simp), h⟩
theorem fill8_mod {S : Nat → Prop} {a w : World} (h : Mod S a w) (t : TypeId) (s : S8) : Mod S a (fill8 w t s) := by
  have hs := h.size
  exact ((((((((h.alloc _).setCell (.inr hs) _).setCell (.inr hs) _).setCell (.inr hs) _).setCell (.inr hs) _).setCell (.inr hs) _).setCell (.inr hs) _).setCell (.inr hs) _).setCell (.inr hs) _
structure Rnd (w w1 : World) (p q k : Nat) (t : TypeId) (s0 s : S8) : Prop where
  old : Row w1 p t ⟨uvs s0.list⟩
  new : Row w1 q 155 ⟨uvs s.list⟩
  cube : Row w1 k 176 ⟨uvs ks⟩
  still : Still w w1
theorem Rnd.drew {w w1 : World} {p q k : Nat} {t : TypeId} {s0 s : S8} (h : Rnd w w1 p q k t s0 s) : Rnd w w1.drew p q k t s0 s := ⟨h.old.drew, h.new.drew, h.cube.drew, h.still.drew⟩
theorem rnds_step {i : Nat} {b : List UInt8} {s : S8} (h : i < 64) : rnds (ks.drop i) ((sched b).drop i) s = rnds (ks.drop (i + 1)) ((sched b).drop (i + 1)) (rnd s (ks.getD i 0) ((sched b).getD i 0)) := by
  have h1 : i < ks.length := h
  have h2 : i < (sched b).length := by rw [sched_length]; exact h
  rw [List.drop_eq_getElem_cons h1, List.drop_eq_getElem_cons h2, rnds, List.getD_eq_getElem?_getD, List.getD_eq_getElem?_getD, List.getElem?_eq_getElem h1, List.getElem?_eq_getElem h2]
  rfl
theorem plus_part {s x : S8} {i : Nat} (h : i < 8) : (uvs (((s.plus x).list.take i) ++ s.list.drop i)).set i (.int .u32 ((s.list.getD i 0 + x.list.getD i 0).toNat : Int)) = uvs (((s.plus x).list.take (i + 1)) ++ s.list.drop (i + 1)) := by
  match i, h with
  | 0, _ => rfl
  | 1, _ => rfl
  | 2, _ => rfl
  | 3, _ => rfl
  | 4, _ => rfl
  | 5, _ => rfl
  | 6, _ => rfl
  | 7, _ => rfl
theorem plus_get {s x : S8} {i : Nat} (h : i < 8) : (uvs (((s.plus x).list.take i) ++ s.list.drop i))[i]? = some (.int .u32 ((s.list.getD i 0).toNat : Int)) := by
  match i, h with
  | 0, _ => rfl
  | 1, _ => rfl
  | 2, _ => rfl
  | 3, _ => rfl
  | 4, _ => rfl
  | 5, _ => rfl
  | 6, _ => rfl
  | 7, _ => rfl
theorem rnd_list (x : S8) (k v : B) : ((uvs [x.a, x.a, x.b, x.c, x.d, x.e, x.f, x.g]).set 4 (.int .u32 ((x.d + (x.h + (rotr x.e 6 ^^^ rotr x.e 11 ^^^ rotr x.e 25) + (x.g ^^^ (x.e &&& (x.f ^^^ x.g))) + k + v)).toNat : Int))).set 0
    (.int .u32 ((x.h + (rotr x.e 6 ^^^ rotr x.e 11 ^^^ rotr x.e 25) + (x.g ^^^ (x.e &&& (x.f ^^^ x.g))) + k + v + ((rotr x.a 2 ^^^ rotr x.a 13 ^^^ rotr x.a 22) + ((x.a &&& x.b) ||| (x.c &&& (x.a ||| x.b))))).toNat : Int)) = uvs (rnd x k v).list := by
  rw [ch_other, maj_other]
  have h (T u m : B) : T + (u + m) = T + u + m := (BitVec.add_assoc _ _ _).symm
  rw [h _ (rotr x.a 2 ^^^ rotr x.a 13 ^^^ rotr x.a 22)]
  rfl
set_option maxHeartbeats 1000000 in
theorem add_spec {p : Nat} {t : TypeId} {s : S8} (hp : Row w p t ⟨uvs s.list⟩) (b : List UInt8) (hb : b.length = 64) :
    Calls Tryz.prog fn_digest_state_add #[.pointer (some ⟨p, 0, none⟩), .string (S b)] w
      (fun e w' => e = .returned (.tuple #[]) ∧ Mod (fun i => i = p) w w' ∧ Row w' p t ⟨uvs (comp s b).list⟩) := by
  refine digest_state_add_calls _ _ _ _ ?_
  refine cubes_spec.mono ?_
  rintro _ w1 ⟨rfl, hm1⟩
  have hp1 := hp.mod hm1 (fun h => h)
  have hkl : (uvs ks).length = 64 := rfl
  have hko := uvs_one ks
  refine .inl ⟨uvs ks, hkl, rfl, hkl, hko, w1.heap.size, 0, List.replicate 64 (.int .u32 0), 176, rfl, Row.new _ _ _, by rw [hkl]; simp, ?_⟩
  have hek : (List.replicate 64 (Value.int .u32 0)).take 0 ++ (uvs ks ++ (List.replicate 64 (Value.int .u32 0)).drop (0 + (uvs ks).length)) = uvs ks := by rw [hkl]; simp
  rw [hek]
  have hk2 := (Row.new w1 176 ⟨List.replicate 64 (.int .u32 0)⟩).setRow ⟨uvs ks⟩ (by simp [hkl])
  have hp2 := (hp1.alloc (.cells ⟨List.replicate 64 (.int .u32 0)⟩ 176)).setRow_far (g' := w1.heap.size) (Nat.ne_of_lt hp1.lt) ⟨uvs ks⟩
  have hm2 : Still w ((w1.alloc (.cells ⟨List.replicate 64 (.int .u32 0)⟩ 176)).setRow w1.heap.size ⟨uvs ks⟩) := (hm1.alloc _).setRow (.inr hm1.size) _
  have hkp : w1.heap.size ≠ p := Nat.ne_of_gt hp1.lt
  have hk1s := hm1.size
  generalize w1.heap.size = k at hk2 hp2 hm2 hkp hk1s ⊢
  generalize (w1.alloc (.cells ⟨List.replicate 64 (.int .u32 0)⟩ 176)).setRow k ⟨uvs ks⟩ = w2 at hk2 hp2 hm2 ⊢
  refine ⟨_, _, _, _, _, _, _, _, hp2.cellv rfl, hp2.at1 rfl, hp2.at1 rfl, hp2.at1 rfl, hp2.at1 rfl, hp2.at1 rfl, hp2.at1 rfl, hp2.at1 rfl, ?_⟩
  refine fill8_wr w2 155 s ?_
  have hr3 : Rnd w (fill8 w2 155 s) p w2.heap.size k t s s := by
    have hpn := Nat.ne_of_lt hp2.lt
    have hkn := Nat.ne_of_lt hk2.lt
    exact ⟨((((((((hp2.alloc _).far hpn _).far hpn _).far hpn _).far hpn _).far hpn _).far hpn _).far hpn _).far hpn _, fill8_row w2 155 s,
      ((((((((hk2.alloc _).far hkn _).far hkn _).far hkn _).far hkn _).far hkn _).far hkn _).far hkn _).far hkn _, fill8_mod hm2 155 s⟩
  have hqp : w2.heap.size ≠ p := Nat.ne_of_gt hp2.lt
  have hqk : w2.heap.size ≠ k := Nat.ne_of_gt hk2.lt
  have hq := hm2.size
  change Calls _ _ _ (fill8 w2 155 s) _
  generalize fill8 w2 155 s = w3 at hr3 ⊢
  generalize w2.heap.size = q at hr3 hqp hqk hq ⊢
  refine (words_spec b hb).mono ?_
  rintro _ w4 ⟨rfl, hm4⟩
  have hr4 : Rnd w w4 p q k t s s := ⟨hr3.old.mod hm4 (fun h => h), hr3.new.mod hm4 (fun h => h), hr3.cube.mod hm4 (fun h => h), Mod.trans hr3.still hm4 (fun _ h => h) (fun _ _ h => h)⟩
  refine .inl ⟨_, by rw [uvs_length, sched_length], rfl, ?_⟩
  refine ⟨fun x w5 => ∃ (i : Nat) (x8 : S8), x = (i : Int) ∧ i ≤ 64 ∧ rnds (ks.drop i) ((sched b).drop i) x8 = rnds ks (sched b) s ∧ Rnd w w5 p q k t s x8, fun x _ => (64 - x).toNat, ⟨0, s, rfl, by omega, rfl, hr4⟩, ?_⟩
  rintro _ _ w5 ⟨i, x8, rfl, hi, hx8, hr⟩
  have e1 : IntKind.i64.wrap ((i : Int) + 1) = ((i + 1 : Nat) : Int) := by rw [wrap_i64 (by omega) (by omega)]; omega
  refine bsel_of (fun hx => ?_) (fun hx => ?_)
  · have hx := of_decide_eq_true hx
    have hx' : i < 64 := by omega
    have hks : i < ks.length := hx'
    rw [rnds_step hx'] at hx8
    simp only [e1, Int.toNat_natCast]
    refine ⟨by omega, by omega, _, by rw [Nat.mul_one]; exact uvs_get (by rw [sched_length]; exact hx'), by decide, by decide, _, hr.new.at (k := 4) rfl, by decide, by decide, _, hr.new.at (k := 0) rfl,
      fun wq => Rnd w wq p q k t s x8, hr.drew.drew, by decide, by decide, _, fun wq hq => hq.new.at (k := 7) rfl, by decide, by decide, _, fun wq hq => hq.new.at (k := 6) rfl, by decide, by decide, _, fun wq hq => hq.new.at (k := 5) rfl,
      by decide, by decide, _, fun wq hq => hq.new.at (k := 6) rfl, by omega, by omega, _, fun wq hq => hq.cube.at (uvs_get hks), ?_⟩
    refine (turned_spec _ 6 (by decide) (by decide)).mono ?_
    rintro _ _ ⟨rfl, rfl⟩
    refine .inl ⟨_, rfl, hr.drew.drew, (turned_spec _ 11 (by decide) (by decide)).mono ?_⟩
    rintro _ _ ⟨rfl, rfl⟩
    refine .inl ⟨_, rfl, hr.drew.drew, (turned_spec _ 25 (by decide) (by decide)).mono ?_⟩
    rintro _ _ ⟨rfl, rfl⟩
    refine .inl ⟨_, rfl, hr.drew.drew, fun wq => Rnd w wq p q k t s x8, hr.drew.drew.drew, by decide, by decide, _, fun wq hq => hq.new.at (k := 1) rfl, by decide, by decide, _, fun wq hq => hq.new.at (k := 2) rfl, by decide, by decide, _, fun wq hq => hq.new.at (k := 1) rfl, ?_⟩
    refine (turned_spec _ 2 (by decide) (by decide)).mono ?_
    rintro _ _ ⟨rfl, rfl⟩
    refine .inl ⟨_, rfl, hr.drew.drew.drew, (turned_spec _ 13 (by decide) (by decide)).mono ?_⟩
    rintro _ _ ⟨rfl, rfl⟩
    refine .inl ⟨_, rfl, hr.drew.drew.drew, (turned_spec _ 22 (by decide) (by decide)).mono ?_⟩
    rintro _ _ ⟨rfl, rfl⟩
    refine .inl ⟨_, rfl, hr.drew.drew.drew, ?_⟩
    simp only [b_add, b_xor, b_and, b_or]
    have hrd := hr.drew.drew.drew.drew
    have hc : (uvs x8.list).take 1 ++ ((uvs x8.list).take 7 ++ (uvs x8.list).drop (1 + ((uvs x8.list).take 7).length)) = uvs [x8.a, x8.a, x8.b, x8.c, x8.d, x8.e, x8.f, x8.g] := rfl
    refine ⟨fun wq => Rnd w wq p q k t s x8, hrd, by decide, by decide, by decide, by decide, (uvs x8.list).take 7, fun v hv => uvs_one x8.list v (List.mem_of_mem_take hv), ⟨rfl, fun _ => ⟨_, rfl, ?_⟩⟩, .inr ⟨q, 1, uvs x8.list, 155, ?_, hrd.new, Nat.le_refl 8, ?_⟩⟩
    · intro j u hu
      rw [List.getElem?_take] at hu
      split at hu
      · exact hrd.new.at1 hu
      · cases hu
    · rw [if_neg (by decide)]
      rfl
    · rw [hc]
      have hn := hrd.new.setRow ⟨uvs [x8.a, x8.a, x8.b, x8.c, x8.d, x8.e, x8.f, x8.g]⟩ (by simp [uvs, S8.list])
      refine ⟨by decide, by decide, _, hn.at (k := 4) rfl, ?_⟩
      simp only [b_add]
      refine ⟨by decide, by decide, hn.wrAt (k := 4) (show 4 < 8 by decide), by decide, by decide, (hn.setAt 4 _).wrAt (k := 0) (show 0 < 8 by decide), ⟨i + 1, _, rfl, by omega, hx8, ?_, ?_, ?_, ?_⟩, by omega⟩
      · exact ((hrd.old.setRow_far hqp.symm _).farAt hqp.symm 4 _).farAt hqp.symm 0 _
      · rw [← rnd_list]
        exact (hn.setAt 4 _).setAt 0 _
      · exact ((hrd.cube.setRow_far hqk.symm _).farAt hqk.symm 4 _).farAt hqk.symm 0 _
      · exact ((hrd.still.setRow (.inr hq) _).setAt (.inr hq) 4 _).setAt (.inr hq) 0 _
  · have hx := of_decide_eq_false hx
    obtain rfl : i = 64 := by omega
    have hdone : x8 = rnds ks (sched b) s := by
      have he : ks.drop 64 = [] := rfl
      rw [← hx8, he, rnds]
      intro a b c d h _
      cases h
    have hcs : comp s b = s.plus x8 := by rw [hdone]; rfl
    rw [hcs]
    clear hcs hdone hx8
    generalize x8 = x at hr
    refine ⟨fun v w6 => ∃ j : Nat, v = (j : Int) ∧ j ≤ 8 ∧ Row w6 p t ⟨uvs ((s.plus x).list.take j ++ s.list.drop j)⟩ ∧ Row w6 q 155 ⟨uvs x.list⟩ ∧ Mod (fun i => i = p) w w6, fun v _ => (8 - v).toNat,
      ⟨0, rfl, by omega, hr.old, hr.new, hr.still.weaken (fun _ h => h.elim)⟩, ?_⟩
    rintro _ _ w6 ⟨j, rfl, hj, ho, hn, hm⟩
    have e1 : IntKind.i64.wrap ((j : Int) + 1) = ((j + 1 : Nat) : Int) := by rw [wrap_i64 (by omega) (by omega)]; omega
    refine bsel_of (fun hx => ?_) (fun hx => ?_)
    · have hx := of_decide_eq_true hx
      have hj' : j < 8 := by omega
      simp only [e1, Int.toNat_natCast]
      refine ⟨fun wq => Row wq p t ⟨uvs ((s.plus x).list.take j ++ s.list.drop j)⟩ ∧ Row wq q 155 ⟨uvs x.list⟩, ⟨ho.drew, hn.drew⟩, by omega, by omega, _, fun wq hq => hq.1.at (plus_get hj'), by omega, by omega, _, fun wq hq => hq.2.at (uvs_get (l := x.list) hj'), by omega, by omega,
        ho.drew.wrAt ?_, ?_⟩
      · simp [uvs, S8.list, S8.plus]; omega
      simp only [b_add]
      refine ⟨⟨j + 1, rfl, by omega, ?_, hn.drew.farAt hqp _ _, hm.drew.setAt (.inl rfl) _ _⟩, by omega⟩
      rw [← plus_part hj']
      exact ho.drew.setAt _ _
    · have hx := of_decide_eq_false hx
      obtain rfl : j = 8 := by omega
      exact ⟨rfl, hm, ho⟩
theorem padding_length (n : Nat) : (padding n).length = (119 - n % 64) % 64 + 9 := by rw [← padAt_eight, padAt_length (by omega)]
theorem blocks_of (s : List UInt8) : (s ++ padding s.length).length = (s ++ padding s.length).length / 64 * 64 := by
  rw [List.length_append, padding_length]
  omega
theorem sum_spec (s : List UInt8) (hs : s.length < 1000000) : Calls Tryz.prog fn_digest_Sum #[.string (S s)] w (fun e w' => e = .returned (.string (S (sha s))) ∧ Still w w') := by
  refine digest_Sum_calls _ _ _ ?_
  refine fill8_wr w 155 init8 ?_
  change Calls _ _ _ (fill8 w 155 init8) _
  have hr0 := fill8_row w 155 init8
  have hm0 : Still w (fill8 w 155 init8) := fill8_mod (Mod.refl _ _) 155 init8
  generalize fill8 w 155 init8 = w0 at hr0 hm0 ⊢
  refine (padding_spec (by omega)).mono ?_
  rintro _ w1 ⟨rfl, hm1⟩
  have hpl := padding_length s.length
  refine .inl ⟨_, rfl, by omega, ?_⟩
  have hb := blocks_of s
  unfold sha
  generalize (s ++ padding s.length).length / 64 = N at hb ⊢
  generalize s ++ padding s.length = T at hb ⊢
  have hr1 := hr0.mod hm1 (fun h => h)
  have hmm : Still w w1 := Mod.trans hm0 hm1 (fun _ h => h) (fun _ _ h => h)
  refine ⟨fun t w2 => ∃ (n : Nat) (st : S8), t.length = n * 64 ∧ absorb n t st = absorb N T init8 ∧ Row w2 w.heap.size 155 ⟨uvs st.list⟩ ∧ Still w w2, fun t _ => t.length, ⟨N, init8, hb, rfl, hr1, hmm⟩, ?_⟩
  rintro t _ w2 ⟨n, st, hn, hab, hr, hm⟩
  refine bsel_of (fun hx => ?_) (fun hx => ?_)
  · have hx : t ≠ [] := by simpa using hx
    obtain ⟨m, rfl⟩ : ∃ m, n = m + 1 := by
      cases n with
      | zero => exact (hx (List.length_eq_zero_iff.1 (by omega))).elim
      | succ m => exact ⟨m, rfl⟩
    rw [absorb_succ] at hab
    have e64 : Int.toNat 64 = 64 := rfl
    rw [e64]
    generalize hcc : comp st (t.take 64) = st' at hab
    refine ⟨by decide, by omega, (add_spec hr (t.take 64) (by simp; omega)).mono ?_⟩
    rintro _ w3 ⟨rfl, hm3, hr3⟩
    rw [hcc] at hr3
    refine .inl ⟨rfl, by decide, by omega, ⟨m, _, ?_, hab, hr3, Mod.trans hm hm3 (fun _ h => h) (fun i hi h => by omega)⟩, ?_⟩
    · show (t.drop 64).length = m * 64
      simp; omega
    · show (t.drop 64).length < t.length
      simp; omega
  · have hx : t = [] := by simpa using hx
    subst hx
    obtain rfl : n = 0 := by simp at hn; omega
    rw [absorb_zero] at hab
    rw [← hab]
    refine ⟨_, _, _, _, _, _, _, _, hr.cellv rfl, hr.cellv rfl, hr.cellv rfl, hr.cellv rfl, hr.cellv rfl, hr.cellv rfl, hr.cellv rfl, hr.cellv rfl, (hexdigits_spec st).mono ?_⟩
    rintro _ w3 ⟨rfl, hm3⟩
    exact .inl ⟨_, rfl, rfl, Mod.trans hm hm3 (fun _ h => h) (fun _ _ h => h)⟩
theorem Owns.at {w : World} {B : Nat} {e : TypeId} {g n c k : Nat} {xs : List Value} {u : Value} (h : Owns w B e 1 (.slice (some ⟨g, 0, none⟩) n c) n xs) (hu : xs[k]? = some u) : w.cell? ((Addr.mk g 0 none).add (k * 1)) = some u := by
  rw [add_row, Nat.zero_add, Nat.mul_one]
  exact h.cells rfl _ _ hu
theorem Owns.of_row {w : World} {B g : Nat} {e : TypeId} {xs : List Value} {n : Nat} (h : Row w g e ⟨xs⟩) (hB : B ≤ g) (hn : xs.length = n) (hm : n ≤ maxLen) : Owns w B e 1 (.slice (some ⟨g, 0, none⟩) n n) n xs :=
  ⟨by omega, .inr ⟨g, n, ⟨xs⟩, rfl, hB, h, Nat.le_refl _, hm, by simp; omega, by simp [← hn]⟩⟩
theorem Owns.pushedOther {w2 w7 : World} {B B1 L L1 : Nat} {e e1 : TypeId} {v v1 : Value} {xs ys : List Value} {size size1 : Nat} (h : Owns w2 B1 e1 size1 v1 L1 ys) (ho : Owns w2 B e size v L xs)
    (hB : ∀ k, v1.ownBlock = some k → k < B) {o : Obj} (hg : (w2.alloc o).grownBy w7 v.ownBlock) : Owns w7 B1 e1 size1 v1 L1 ys :=
  (h.alloc o).grown hg fun k hk e => by have := hB k hk; have := (ho.lt k e.symm).1; omega
theorem turn_spec (x : B) (n : Nat) (h1 : n ≤ 32) : Calls Tryz.prog fn_ref01_turn #[uv x, .int .i64 (n : Int)] w (fun e w' => e = .returned (uv (rotr x n)) ∧ w' = w.drew) := by
  refine ref01_turn_calls _ _ _ _ ?_
  unfold vc_ref01_turn
  have e : IntKind.i64.wrap (32 - (n : Int)) = ((32 - n : Nat) : Int) := by rw [wrap_i64 (by omega) (by omega)]; omega
  simp only [e, Int.toNat_natCast, b_shl, b_shr, b_or]
  exact ⟨by omega, by omega, rfl, trivial⟩
theorem initial_spec : Calls Tryz.prog fn_ref01_initial #[] w (fun e w' => ∃ g, e = .returned (.slice (some ⟨g, 0, none⟩) 8 8) ∧ w.heap.size ≤ g ∧ Row w' g 151 ⟨uvs init8.list⟩ ∧ Still w w') := by
  refine ref01_initial_calls _ _ ?_
  exact ⟨_, rfl, Nat.le_refl _, Row.new w 151 ⟨uvs init8.list⟩, (Mod.refl _ _).alloc _⟩
set_option maxRecDepth 10000 in
theorem rounds_spec : Calls Tryz.prog fn_ref01_rounds #[] w (fun e w' => ∃ g, e = .returned (.slice (some ⟨g, 0, none⟩) 64 64) ∧ w.heap.size ≤ g ∧ Row w' g 151 ⟨uvs ks⟩ ∧ Still w w') := by
  refine ref01_rounds_calls _ _ ?_
  exact ⟨_, rfl, Nat.le_refl _, Row.new w 151 ⟨uvs ks⟩, (Mod.refl _ _).alloc _⟩
theorem lens_take (n : Nat) {j : Nat} (h : j < 8) : (lens n 8).take (j + 1) = (lens n 8).take j ++ [lenByte n (7 - j)] := by
  match j, h with
  | 0, _ => rfl
  | 1, _ => rfl
  | 2, _ => rfl
  | 3, _ => rfl
  | 4, _ => rfl
  | 5, _ => rfl
  | 6, _ => rfl
  | 7, _ => rfl
theorem padded_spec (s : List UInt8) (hs : s.length < 1000000) : Calls Tryz.prog fn_ref01_padded #[.string (S s)] w
    (fun e w' => ∃ p L C, e = .returned (.slice p L C) ∧ Owns w' w.heap.size 5 1 (.slice p L C) L (bc (s ++ padding s.length)) ∧ Still w w') := by
  refine ref01_padded_calls _ _ _ ?_
  refine ⟨by omega, fun c w1 ho1 hg1 => ?_⟩
  have ho1 : Owns w1 w.heap.size 5 1 (.slice (some ⟨w.heap.size, 0, none⟩) s.length c) s.length (bc s) := ho1.base (fun k hk => by
    obtain rfl := Option.some.inj hk
    exact Nat.le_refl _)
  have hm1 : Still w w1 := (Mod.refl _ _).grown hg1 (fun _ h => by cases h)
  refine ⟨_, [.int .u8 (((128 : UInt8).toNat : Nat) : Int)], (ho1.alloc _).base0, rfl, one_one rfl, one_src _ _ _, by omega, by omega, fun p2 c2 w2 ho2 hg2 hb2 => ?_⟩
  have hm2 : Still w w2 := hm1.pushed ho1 (Nat.le_refl _) hg2
  have ho2 : Owns w2 w.heap.size 5 1 (.slice p2 (s.length + 1) c2) (s.length + 1) (bc (s ++ [128])) := by
    rw [bc_append]
    exact ho1.pushed hm1.size ho2 hb2
  generalize hZ : (119 - s.length % 64) % 64 = Z
  refine ⟨fun p L C w3 => ∃ z, L = s.length + 1 + z ∧ z ≤ Z ∧ Owns w3 w.heap.size 5 1 (.slice p L C) L (bc (s ++ 128 :: List.replicate z 0)) ∧ Still w w3, fun _ L _ _ => 1000100 - L, ⟨0, rfl, by omega, ho2, hm2⟩, ?_⟩
  rintro p L C _ w3 ⟨z, rfl, hz, ho3, hm3⟩
  have ht : Int.tmod (((s.length + 1 + z : Nat) : Int)) 64 = (((s.length + 1 + z) % 64 : Nat) : Int) := by rw [Int.tmod_eq_emod_of_nonneg (by omega)]; omega
  rw [ht]
  refine ⟨by decide, bsel_of (fun hx => ?_) (fun hx => ?_)⟩
  · have hx : ¬ (s.length + 1 + z) % 64 = 56 := by
      intro e
      rw [e] at hx
      exact absurd hx (by decide)
    refine ⟨_, [.int .u8 (((0 : UInt8).toNat : Nat) : Int)], (ho3.alloc _).base0, rfl, one_one rfl, one_src _ _ _, by omega, by omega, fun p4 c4 w4 ho4 hg4 hb4 => ?_⟩
    refine ⟨⟨z + 1, by omega, by omega, ?_, hm3.pushed ho3 (Nat.le_refl _) hg4⟩, by dsimp only; omega⟩
    have h := ho3.pushed hm3.size ho4 hb4
    have e : s ++ 128 :: List.replicate (z + 1) 0 = (s ++ 128 :: List.replicate z 0) ++ [0] := by rw [List.replicate_succ']; simp
    rw [e, bc_append]
    exact h
  · have hx : (s.length + 1 + z) % 64 = 56 := by
      have : decide ((((s.length + 1 + z) % 64 : Nat) : Int) = 56) = true := by simpa using hx
      have := of_decide_eq_true this
      omega
    obtain rfl : z = Z := by omega
    refine ⟨fun p L C i w5 => ∃ j : Nat, i = 7 - (j : Int) ∧ j ≤ 8 ∧ L = s.length + 1 + z + j ∧ Owns w5 w.heap.size 5 1 (.slice p L C) L (bc (s ++ 128 :: List.replicate z 0 ++ (lens s.length 8).take j)) ∧ Still w w5,
      fun _ _ _ i _ => (8 + i).toNat, ⟨0, rfl, by omega, rfl, by simpa using ho3, hm3⟩, ?_⟩
    rintro p5 _ C5 _ _ w5 ⟨j, rfl, hj, rfl, ho5, hm5⟩
    refine bsel_of (fun hi => ?_) (fun hi => ?_)
    · have hi := of_decide_eq_true hi
      have hj' : j < 8 := by omega
      have e8 : IntKind.i64.wrap (8 * (7 - (j : Int))) = ((8 * (7 - j) : Nat) : Int) := by rw [wrap_i64 (by omega) (by omega)]; omega
      have e1 : IntKind.i64.wrap (7 - (j : Int) - 1) = 7 - ((j + 1 : Nat) : Int) := by rw [wrap_i64 (by omega) (by omega)]; omega
      simp only [e8, e1, Int.toNat_natCast, lenByte_int (n := s.length) (i := 7 - j) (by omega) (by omega)]
      refine ⟨by omega, _, [.int .u8 ((lenByte s.length (7 - j)).toNat : Int)], (ho5.alloc _).base0, rfl, one_one rfl, one_src _ _ _, by omega, by omega, fun p6 c6 w6 ho6 hg6 hb6 => ?_⟩
      refine ⟨⟨j + 1, rfl, by omega, by omega, ?_, hm5.pushed ho5 (Nat.le_refl _) hg6⟩, by omega⟩
      have h := ho5.pushed hm5.size ho6 hb6
      rw [lens_take _ hj', ← List.append_assoc, bc_append]
      exact h
    · have hi := of_decide_eq_false hi
      obtain rfl : j = 8 := by omega
      refine ⟨_, _, _, rfl, ?_, hm5⟩
      have e : s ++ padding s.length = s ++ 128 :: List.replicate z 0 ++ (lens s.length 8).take 8 := by
        rw [padding, hZ]
        simp [lens]
      rw [e]
      exact ho5
structure Src (w : World) (g o : Nat) (blk : List UInt8) : Prop where
  row : ∃ t cs, Row w g t cs ∧ ∀ (j : Nat) (x : UInt8), blk[j]? = some x → cs[o + j]? = some (.int .u8 (x.toNat : Int))
theorem Src.lt {g o : Nat} {blk : List UInt8} (h : Src w g o blk) : g < w.heap.size := by
  obtain ⟨t, cs, hr, _⟩ := h.row
  exact hr.lt
theorem Src.drew {g o : Nat} {blk : List UInt8} (h : Src w g o blk) : Src w.drew g o blk := ⟨h.row⟩
theorem Src.mod {w' : World} {T : Nat → Prop} {g o : Nat} {blk : List UInt8} (h : Src w g o blk) (hm : Mod T w w') (hg : ¬ T g) : Src w' g o blk := by
  obtain ⟨t, cs, hr, hc⟩ := h.row
  exact ⟨t, cs, hr.mod hm hg, hc⟩
theorem Src.at {g o : Nat} {blk : List UInt8} (h : Src w g o blk) {k : Nat} (hk : k < blk.length) : w.cell? ((Addr.mk g o none).add (k * 1)) = some (.int .u8 ((blk.getD k 0).toNat : Int)) := by
  obtain ⟨t, cs, hr, hc⟩ := h.row
  rw [add_row, Nat.mul_one]
  refine hr.cellv (hc k _ ?_)
  rw [List.getD_eq_getElem?_getD, List.getElem?_eq_getElem hk]
  rfl
set_option maxHeartbeats 1000000 in
theorem schedule_spec {g o C : Nat} {blk : List UInt8} (hs : Src w g o blk) (hb : blk.length = 64) : Calls Tryz.prog fn_ref01_schedule #[.slice (some ⟨g, o, none⟩) 64 C] w
    (fun e w' => ∃ p C', e = .returned (.slice p 64 C') ∧ Owns w' w.heap.size 151 1 (.slice p 64 C') 64 (uvs (sched blk)) ∧ Still w w') := by
  refine ref01_schedule_calls _ _ _ _ _ ?_
  refine ⟨fun p L C i w2 => ∃ l : List B, i = (l.length : Int) ∧ L = l.length ∧ l.length ≤ 16 ∧ grow blk (64 - l.length) l = sched blk ∧ Owns w2 w.heap.size 151 1 (.slice p L C) L (uvs l) ∧ Src w2 g o blk ∧ Still w w2, fun _ _ _ i _ => (16 - i).toNat,
    ⟨[], rfl, rfl, by simp, rfl, Owns.nil _ _ _ _, hs, Mod.refl _ _⟩, ?_⟩
  rintro p _ C1 _ _ w2 ⟨l, rfl, rfl, hl, hg, ho, hsr, hm⟩
  have e1 : IntKind.i64.wrap ((l.length : Int) + 1) = ((l.length + 1 : Nat) : Int) := by rw [wrap_i64 (by omega) (by omega)]; omega
  refine bsel_of (fun hx => ?_) (fun hx => ?_)
  · have hx := of_decide_eq_true hx
    have hx' : l.length < 16 := by omega
    have hgs : grow blk (64 - (l.length + 1)) (l ++ [wnext blk l]) = sched blk := by
      rw [← hg, show 64 - l.length = (64 - (l.length + 1)) + 1 by omega]
      rfl
    have hwn : wnext blk l = wordAt blk l.length := by unfold wnext; rw [if_pos (by omega)]
    have w4 : IntKind.i64.wrap (4 * (l.length : Int)) = ((4 * l.length : Nat) : Int) := by rw [wrap_i64 (by omega) (by omega)]; omega
    have w41 : IntKind.i64.wrap (((4 * l.length : Nat) : Int) + 1) = ((4 * l.length + 1 : Nat) : Int) := by rw [wrap_i64 (by omega) (by omega)]; omega
    have w42 : IntKind.i64.wrap (((4 * l.length : Nat) : Int) + 2) = ((4 * l.length + 2 : Nat) : Int) := by rw [wrap_i64 (by omega) (by omega)]; omega
    have w43 : IntKind.i64.wrap (((4 * l.length : Nat) : Int) + 3) = ((4 * l.length + 3 : Nat) : Int) := by rw [wrap_i64 (by omega) (by omega)]; omega
    simp only [w4, w41, w42, w43, e1, Int.toNat_natCast]
    refine ⟨fun wq => Src wq g o blk, hsr.drew, by omega, by omega, _, fun wq hq => hq.at (by omega), by decide, by omega, by omega, _, fun wq hq => hq.at (by omega), by decide, by omega, by omega, _, fun wq hq => hq.at (by omega), by decide, by omega, by omega, _, fun wq hq => hq.at (by omega), ?_⟩
    simp only [b_byte, b_shl, b_or]
    refine ⟨_, [uv (wordAt blk l.length)], (ho.drew.alloc _).base0, rfl, one_one rfl, one_src _ _ _, by omega, by omega, fun p6 c6 w6 ho6 hg6 hb6 => ?_⟩
    have hlt := hs.lt
    refine ⟨⟨l ++ [wordAt blk l.length], by simp, by simp, by simp; omega, ?_, ?_, ?_, hm.drew.pushed ho.drew (Nat.le_refl _) hg6⟩, by omega⟩
    · rw [hwn] at hgs
      simpa using hgs
    · have h := ho.drew.pushed (w2 := w2.drew) hm.size ho6 hb6
      simpa [uvs] using h
    · obtain ⟨t, cs, hr, hc⟩ := hsr.row
      exact ⟨t, cs, hr.drew.pushed ho.drew hlt hg6, hc⟩
  · have hx := of_decide_eq_false hx
    have hx' : l.length = 16 := by omega
    refine ⟨fun p L C i w2 => ∃ l : List B, i = (l.length : Int) ∧ L = l.length ∧ 16 ≤ l.length ∧ l.length ≤ 64 ∧ grow blk (64 - l.length) l = sched blk ∧ Owns w2 w.heap.size 151 1 (.slice p L C) L (uvs l) ∧ Still w w2, fun _ _ _ i _ => (64 - i).toNat,
      ⟨l, by omega, rfl, by omega, by omega, hg, ho, hm⟩, ?_⟩
    clear hx hx' hg ho hsr hm e1 hl
    rintro p _ C1 _ _ w2 ⟨l, rfl, rfl, h16, hl, hg, ho, hm⟩
    have e1 : IntKind.i64.wrap ((l.length : Int) + 1) = ((l.length + 1 : Nat) : Int) := by rw [wrap_i64 (by omega) (by omega)]; omega
    refine bsel_of (fun hx => ?_) (fun hx => ?_)
    · have hx := of_decide_eq_true hx
      have hx' : l.length < 64 := by omega
      have hgs : grow blk (64 - (l.length + 1)) (l ++ [wnext blk l]) = sched blk := by
        rw [← hg, show 64 - l.length = (64 - (l.length + 1)) + 1 by omega]
        rfl
      have e15 : IntKind.i64.wrap ((l.length : Int) - 15) = ((l.length - 15 : Nat) : Int) := by rw [wrap_i64 (by omega) (by omega)]; omega
      have e2 : IntKind.i64.wrap ((l.length : Int) - 2) = ((l.length - 2 : Nat) : Int) := by rw [wrap_i64 (by omega) (by omega)]; omega
      have e16 : IntKind.i64.wrap ((l.length : Int) - 16) = ((l.length - 16 : Nat) : Int) := by rw [wrap_i64 (by omega) (by omega)]; omega
      have e7 : IntKind.i64.wrap ((l.length : Int) - 7) = ((l.length - 7 : Nat) : Int) := by rw [wrap_i64 (by omega) (by omega)]; omega
      obtain ⟨ga, ca, he, hga, hgl, hca, _⟩ := ho.ownAddr (by omega)
      injection he with he1 he2 he3
      subst he1
      subst he3
      simp only [e15, e2, e16, e7, e1, Int.toNat_natCast]
      have O : ∀ wq : World, wq.heap = w2.heap → Owns wq w.heap.size 151 1 (.slice (some ⟨ga, 0, none⟩) l.length C1) l.length (uvs l) := fun wq hq => ho.block (fun k _ => by rw [hq])
      refine ⟨by omega, by omega, _, ho.at (uvs_get (by omega)), by omega, by omega, _, ho.at (uvs_get (by omega)), ?_⟩
      refine (turn_spec _ 7 (by decide)).mono ?_
      rintro _ _ ⟨rfl, rfl⟩
      refine .inl ⟨_, rfl, (turn_spec _ 18 (by decide)).mono ?_⟩
      rintro _ _ ⟨rfl, rfl⟩
      refine .inl ⟨_, rfl, by decide, (turn_spec _ 17 (by decide)).mono ?_⟩
      rintro _ _ ⟨rfl, rfl⟩
      refine .inl ⟨_, rfl, (turn_spec _ 19 (by decide)).mono ?_⟩
      rintro _ _ ⟨rfl, rfl⟩
      have o9 := ho.drew.drew.drew.drew.drew.drew
      have m9 := hm.drew.drew.drew.drew.drew.drew
      refine .inl ⟨_, rfl, by decide, fun wq => Owns wq w.heap.size 151 1 (.slice (some ⟨ga, 0, none⟩) l.length C1) l.length (uvs l), o9, by omega, by omega, _, fun wq hq => hq.at (uvs_get (by omega)), by omega, by omega, _, fun wq hq => hq.at (uvs_get (by omega)), ?_⟩
      simp only [b_add, b_xor, b_shr]
      refine ⟨_, [uv (wnext blk l)], (o9.alloc _).base0, rfl, one_one rfl, ?_, by omega, by omega, fun p6 c6 w6 ho6 hg6 hb6 => ?_⟩
      · have hwn : wnext blk l = l.getD (l.length - 16) 0 + sig0 (l.getD (l.length - 15) 0) + l.getD (l.length - 7) 0 + sig1 (l.getD (l.length - 2) 0) := by unfold wnext; rw [if_neg (by omega)]
        rw [hwn]
        exact one_src _ _ _
      · refine ⟨⟨l ++ [wnext blk l], by simp, by simp, by simp; omega, by simp; omega, by simpa using hgs, ?_, m9.pushed o9 (Nat.le_refl _) hg6⟩, by omega⟩
        have h := o9.pushed m9.size ho6 hb6
        simpa [uvs] using h
    · have hx := of_decide_eq_false hx
      have hx' : l.length = 64 := by omega
      rw [hx', Nat.sub_self, grow] at hg
      rw [hx', hg] at ho
      rw [hx']
      exact ⟨_, _, rfl, ho, hm⟩
theorem plus_take {s x : S8} {i : Nat} (h : i < 8) : uvs ((s.plus x).list.take (i + 1)) = uvs ((s.plus x).list.take i) ++ [uv (s.list.getD i 0 + x.list.getD i 0)] := by
  match i, h with
  | 0, _ => rfl
  | 1, _ => rfl
  | 2, _ => rfl
  | 3, _ => rfl
  | 4, _ => rfl
  | 5, _ => rfl
  | 6, _ => rfl
  | 7, _ => rfl
theorem Owns.heap {w w' : World} {B : Nat} {e : TypeId} {v : Value} {n : Nat} {xs : List Value} (h : Owns w B e 1 v n xs) (he : w'.heap = w.heap) : Owns w' B e 1 v n xs := h.block (fun k _ => by rw [he])
set_option maxRecDepth 20000 in
set_option maxHeartbeats 2000000 in
theorem block_spec {g o C gh hC Bh : Nat} {blk : List UInt8} {s : S8} (hsrc : Src w g o blk) (hb : blk.length = 64) (hh : Owns w Bh 151 1 (.slice (some ⟨gh, 0, none⟩) 8 hC) 8 (uvs s.list)) :
    Calls Tryz.prog fn_ref01_block #[.slice (some ⟨gh, 0, none⟩) 8 hC, .slice (some ⟨g, o, none⟩) 64 C] w
    (fun e w' => ∃ p C', e = .returned (.slice p 8 C') ∧ Owns w' w.heap.size 151 1 (.slice p 8 C') 8 (uvs (comp s blk).list) ∧ Still w w') := by
  refine ref01_block_calls _ _ _ _ _ _ _ _ ?_
  refine (schedule_spec hsrc hb).mono ?_
  rintro _ w1 ⟨ps, Cs, rfl, hs1, hm1⟩
  obtain ⟨gs, cs, he, _, _, _, _⟩ := hs1.ownAddr (by omega)
  injection he with he1 he2 he3
  subst he1
  refine .inl ⟨_, _, _, rfl, rounds_spec.mono ?_⟩
  rintro _ w2 ⟨gk, rfl, hgk, hk2, hm2⟩
  have hs2 := hs1.mod hm2 (fun _ _ h => h)
  have hh2 := (hh.mod hm1 (fun _ _ h => h)).mod hm2 (fun _ _ h => h)
  have hm12 : Still w w2 := Mod.trans hm1 hm2 (fun _ h => h) (fun _ _ h => h)
  have hk2 : Owns w2 0 151 1 (.slice (some ⟨gk, 0, none⟩) 64 64) 64 (uvs ks) := Owns.of_row hk2 (Nat.zero_le _) rfl (by decide)
  refine .inl ⟨_, _, _, rfl, [], uvs s.list, Owns.nil _ _ _ _, rfl, uvs_one _, ⟨fun _ => ⟨_, rfl, ?_⟩, by decide, by decide, fun p3 c3 w3 ho3 hg3 hb3 => ?_⟩⟩
  · intro j u hu
    rw [add_row, Nat.zero_add]
    exact hh2.cells rfl j u hu
  have hs3 := hs2.grown hg3 (fun _ _ h => by cases h)
  have hh3 := hh2.grown hg3 (fun _ _ h => by cases h)
  have hk3 := hk2.grown hg3 (fun _ _ h => by cases h)
  have hm3 : Still w w3 := hm12.grown hg3 (fun _ h => by cases h)
  have ho3 : Owns w3 0 151 1 (.slice p3 8 c3) 8 (uvs s.list) := ho3
  refine ⟨fun p L C i w4 => ∃ (n : Nat) (x8 : S8), i = (n : Int) ∧ n ≤ 64 ∧ L = 8 ∧ rnds (ks.drop n) ((sched blk).drop n) x8 = rnds ks (sched blk) s ∧ Owns w4 0 151 1 (.slice p 8 C) 8 (uvs x8.list) ∧
      Owns w4 w.heap.size 151 1 (.slice (some ⟨gs, 0, none⟩) 64 Cs) 64 (uvs (sched blk)) ∧ Owns w4 0 151 1 (.slice (some ⟨gk, 0, none⟩) 64 64) 64 (uvs ks) ∧ Owns w4 Bh 151 1 (.slice (some ⟨gh, 0, none⟩) 8 hC) 8 (uvs s.list) ∧ Still w w4,
    fun _ _ _ i _ => (64 - i).toNat, ⟨0, s, rfl, by omega, rfl, rfl, ho3, hs3, hk3, hh3, hm3⟩, ?_⟩
  rintro p4 _ C4 _ _ w4 ⟨n, x8, rfl, hn, rfl, hx8, ho4, hs4, hk4, hh4, hm4⟩
  obtain ⟨ga, ca, he, _, _, _, _⟩ := ho4.ownAddr (by omega)
  injection he with he1 he2 he3
  subst he1
  have e1 : IntKind.i64.wrap ((n : Int) + 1) = ((n + 1 : Nat) : Int) := by rw [wrap_i64 (by omega) (by omega)]; omega
  refine bsel_of (fun hx => ?_) (fun hx => ?_)
  · have hx := of_decide_eq_true hx
    have hx' : n < 64 := by omega
    have hks : n < ks.length := hx'
    rw [rnds_step hx'] at hx8
    simp only [e1, Int.toNat_natCast]
    have A : ∀ {k : Nat} {u : Value} (wq : World), wq.heap = w4.heap → (uvs x8.list)[k]? = some u → wq.cell? ((Addr.mk ga 0 none).add (k * 1)) = some u := fun wq hq hu => (ho4.heap hq).at hu
    refine ⟨fun wq => wq.heap = w4.heap, rfl, by decide, by decide, _, fun wq hq => A (k := 4) wq hq rfl, by decide, by decide, _, fun wq hq => A (k := 4) wq hq rfl, by decide, by decide, _, fun wq hq => A (k := 4) wq hq rfl, ?_⟩
    refine (turn_spec _ 6 (by decide)).mono ?_
    rintro _ _ ⟨rfl, rfl⟩
    refine .inl ⟨_, rfl, rfl, (turn_spec _ 11 (by decide)).mono ?_⟩
    rintro _ _ ⟨rfl, rfl⟩
    refine .inl ⟨_, rfl, rfl, (turn_spec _ 25 (by decide)).mono ?_⟩
    rintro _ _ ⟨rfl, rfl⟩
    refine .inl ⟨_, rfl, by decide, by decide, _, A (k := 4) _ rfl rfl, by decide, by decide, _, A (k := 5) _ rfl rfl, by decide, by decide, _, A (k := 4) _ rfl rfl, by decide, by decide, _, A (k := 6) _ rfl rfl,
      by decide, by decide, _, A (k := 7) _ rfl rfl, by omega, by omega, _, (hk4.heap rfl).at (uvs_get hks), by omega, by omega, _, (hs4.heap rfl).at (uvs_get (by rw [sched_length]; exact hx')),
      fun wq => wq.heap = w4.heap, rfl, by decide, by decide, _, fun wq hq => A (k := 0) wq hq rfl, by decide, by decide, _, fun wq hq => A (k := 0) wq hq rfl, by decide, by decide, _, fun wq hq => A (k := 0) wq hq rfl, ?_⟩
    refine (turn_spec _ 2 (by decide)).mono ?_
    rintro _ _ ⟨rfl, rfl⟩
    refine .inl ⟨_, rfl, rfl, (turn_spec _ 13 (by decide)).mono ?_⟩
    rintro _ _ ⟨rfl, rfl⟩
    refine .inl ⟨_, rfl, rfl, (turn_spec _ 22 (by decide)).mono ?_⟩
    rintro _ _ ⟨rfl, rfl⟩
    refine .inl ⟨_, rfl, by decide, by decide, _, A (k := 0) _ rfl rfl, by decide, by decide, _, A (k := 1) _ rfl rfl, by decide, by decide, _, A (k := 0) _ rfl rfl, by decide, by decide, _, A (k := 2) _ rfl rfl, by decide, by decide, _, A (k := 1) _ rfl rfl, by decide, by decide, _, A (k := 2) _ rfl rfl,
      fun wq => wq.heap = w4.heap, rfl, by decide, by decide, _, fun wq hq => A (k := 0) wq hq rfl, by decide, by decide, _, fun wq hq => A (k := 1) wq hq rfl, by decide, by decide, _, fun wq hq => A (k := 2) wq hq rfl, by decide, by decide, _, fun wq hq => A (k := 3) wq hq rfl,
      by decide, by decide, _, fun wq hq => A (k := 4) wq hq rfl, by decide, by decide, _, fun wq hq => A (k := 5) wq hq rfl, by decide, by decide, _, fun wq hq => A (k := 6) wq hq rfl, ?_⟩
    simp only [b_add, b_xor, b_and, b_not]
    refine ⟨⟨n + 1, _, rfl, by omega, by trivial, hx8, ?_, hs4.drew.drew.drew.drew.drew.drew.drew.drew.drew.drew.drew.drew.alloc _, hk4.drew.drew.drew.drew.drew.drew.drew.drew.drew.drew.drew.drew.alloc _, hh4.drew.drew.drew.drew.drew.drew.drew.drew.drew.drew.drew.drew.alloc _, ?_⟩, by omega⟩
    · exact Owns.of_row (Row.new _ 151 ⟨uvs (rnd x8 (ks.getD n 0) ((sched blk).getD n 0)).list⟩) (Nat.zero_le _) rfl (by decide)
    · exact hm4.drew.drew.drew.drew.drew.drew.drew.drew.drew.drew.drew.drew.alloc _
  · have hx := of_decide_eq_false hx
    obtain rfl : n = 64 := by omega
    have hdone : x8 = rnds ks (sched blk) s := by
      have he : ks.drop 64 = [] := rfl
      rw [← hx8, he, rnds]
      intro a b c d h _
      cases h
    have hcs : comp s blk = s.plus x8 := by rw [hdone]; rfl
    rw [hcs]
    clear hcs hdone hx8
    refine ⟨fun p L C i w5 => ∃ n : Nat, i = (n : Int) ∧ n ≤ 8 ∧ L = n ∧ Owns w5 w4.heap.size 151 1 (.slice p L C) L (uvs ((s.plus x8).list.take n)) ∧ Owns w5 0 151 1 (.slice (some ⟨ga, 0, none⟩) 8 C4) 8 (uvs x8.list) ∧
        Owns w5 Bh 151 1 (.slice (some ⟨gh, 0, none⟩) 8 hC) 8 (uvs s.list) ∧ Still w w5 ∧ w4.heap.size ≤ w5.heap.size, fun _ _ _ i _ => (8 - i).toNat, ⟨0, rfl, by omega, rfl, Owns.nil _ _ _ _, ho4, hh4, hm4, Nat.le_refl _⟩, ?_⟩
    rintro p5 n C5 _ _ w5 ⟨_, rfl, hn, rfl, ho5, ha5, hh5, hm5, hsz⟩
    have e1 : IntKind.i64.wrap ((n : Int) + 1) = ((n + 1 : Nat) : Int) := by rw [wrap_i64 (by omega) (by omega)]; omega
    refine bsel_of (fun hx => ?_) (fun hx => ?_)
    · have hx := of_decide_eq_true hx
      have hx' : n < 8 := by omega
      simp only [e1, Int.toNat_natCast]
      refine ⟨fun wq => wq.heap = w5.heap, rfl, by omega, by omega, _, fun wq hq => (hh5.heap hq).at (uvs_get (l := s.list) hx'), by omega, by omega, _, fun wq hq => (ha5.heap hq).at (uvs_get (l := x8.list) hx'), ?_⟩
      simp only [b_add]
      have hgh : ∀ k, (Value.slice (some ⟨gh, 0, none⟩) 8 hC).ownBlock = some k → k < w4.heap.size := fun k hk => (hh4.lt k hk).2
      have hga : ∀ k, (Value.slice (some ⟨ga, 0, none⟩) 8 C4).ownBlock = some k → k < w4.heap.size := fun k hk => (ho4.lt k hk).2
      refine ⟨_, [uv (s.list.getD n 0 + x8.list.getD n 0)], (ho5.drew.alloc _).base0, rfl, one_one rfl, one_src _ _ _, by omega, by omega, fun p6 c6 w6 ho6 hg6 hb6 => ?_⟩
      have hg6' : ((w5.drew).alloc (.cells #[uv (s.list.getD n 0 + x8.list.getD n 0)] 151)).grownBy w6 (Value.slice p5 n C5).ownBlock := hg6
      refine ⟨⟨n + 1, rfl, by omega, rfl, ?_, ha5.drew.pushedOther ho5.drew hga hg6', hh5.drew.pushedOther ho5.drew hgh hg6', hm5.drew.pushed ho5.drew hm4.size hg6', ?_⟩, by omega⟩
      · have h := ho5.drew.pushed (w2 := w5.drew) hsz ho6 hb6
        rw [plus_take hx']
        exact h
      · have h1 := hg6.size
        have h2 : w5.drew.heap.size ≤ ((w5.drew).alloc (.cells #[uv (s.list.getD n 0 + x8.list.getD n 0)] 151)).heap.size := by simp
        have h3 : w5.drew.heap.size = w5.heap.size := rfl
        have h4 : ((w5.drew).alloc (.cells #[uv (s.list.getD n 0 + x8.list.getD n 0)] 151)).heap.size ≤ w6.heap.size := h1
        omega
    · have hx := of_decide_eq_false hx
      obtain rfl : n = 8 := by omega
      exact ⟨_, _, rfl, ho5.base (fun k hk => Nat.le_trans hm4.size (ho5.lt k hk).1), hm5⟩
end Go.Proofs.YtkdlmkbpfdogcaaGreatDoor
