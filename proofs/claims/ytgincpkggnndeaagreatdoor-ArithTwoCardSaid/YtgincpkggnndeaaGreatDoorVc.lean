/- A verification condition for a function's code, computed: 'vc' of the code, of the values in its slots and of a world is a statement that names neither slots nor code any more; whoever proves it has the code's run ('vc_sound', 'calls_vc'). Conditions: none; no program is named. -/
import Derived.Laws.StructEq
import Derived.WalkKit
import Derived.WalkLawsBesides
import Derived.Laws.CopyOwn
import Derived.KernelRfl
import Derived.Lib.Builder
import Derived.Lib.UnsafeStr
import Derived.Lib.IfaceEq
import Derived.Stop.IfaceNil
import Derived.LaidEql
namespace Go.Proofs.YtgincpkggnndeaaGreatDoor.Vc
open Go.RowKit

/-! ### Values by their shape -/
abbrev S (l : List UInt8) : ByteArray := ⟨⟨l⟩⟩
abbrev Fr := List Value

/-- A choice that vanishes where the test is known. -/
def bsel (c : Bool) (A B : Prop) : Prop := match c with
  | true => A
  | false => B
theorem bsel_of {c : Bool} {A B : Prop} (ht : c = true → A) (hf : c = false → B) : bsel c A B := by
  cases c
  · exact hf rfl
  · exact ht rfl
@[simp] theorem bsel_true (A B : Prop) : bsel true A B = A := rfl
@[simp] theorem bsel_false (A B : Prop) : bsel false A B = B := rfl
theorem bsel_iff {c : Bool} {A B : Prop} : bsel c A B ↔ (c = true → A) ∧ (c = false → B) := by cases c <;> simp [bsel]
def someK {α : Type} (p : Option α) (K : α → Prop) : Prop := match p with
  | some a => K a
  | none => False
@[simp] theorem someK_some {α : Type} (a : α) (K : α → Prop) : someK (some a) K = K a := rfl
@[simp] theorem someK_none {α : Type} (K : α → Prop) : someK none K = False := rfl
theorem someK_out {α : Type} {p : Option α} {K : α → Prop} (h : someK p K) : ∃ a, p = some a ∧ K a := by
  cases p with
  | none => exact h.elim
  | some a => exact ⟨a, rfl, h⟩

inductive Leaf where
  | int (k : IntKind)
  | bool
  | str
  | ptr
  | slc
  | raw
  deriving DecidableEq

def leafOf : Value → Leaf
  | .int k _ => .int k
  | .bool _ => .bool
  | .string _ => .str
  | .pointer _ => .ptr
  | .slice _ _ _ => .slc
  | _ => .raw

def exLeaf : Leaf → (Value → Prop) → Prop
  | .int k, K => ∃ n : Int, K (.int k n)
  | .bool, K => ∃ b : Bool, K (.bool b)
  | .str, K => ∃ s : List UInt8, K (.string (S s))
  | .ptr, K => ∃ p : Option Addr, K (.pointer p)
  | .slc, K => ∃ (p : Option Addr) (n c : Nat), K (.slice p n c)
  | .raw, K => ∃ v : Value, v.oneCell' = true ∧ K v
def exLeaves : List Leaf → (List Value → Prop) → Prop
  | [], K => K []
  | x :: r, K => exLeaf x fun v => exLeaves r fun vs => K (v :: vs)
def allLeaf : Leaf → (Value → Prop) → Prop
  | .int k, K => ∀ n : Int, K (.int k n)
  | .bool, K => ∀ b : Bool, K (.bool b)
  | .str, K => ∀ s : List UInt8, K (.string (S s))
  | .ptr, K => ∀ p : Option Addr, K (.pointer p)
  | .slc, K => ∀ (p : Option Addr) (n c : Nat), K (.slice p n c)
  | .raw, K => ∀ v : Value, K v
def allLeaves : List Leaf → (List Value → Prop) → Prop
  | [], K => K []
  | x :: r, K => allLeaf x fun v => allLeaves r fun vs => K (v :: vs)

theorem exLeaf_out {x : Leaf} {K : Value → Prop} (h : exLeaf x K) : ∃ v, v.oneCell' = true ∧ K v := by
  cases x <;> simp only [exLeaf] at h
  · obtain ⟨n, h⟩ := h; exact ⟨_, rfl, h⟩
  · obtain ⟨n, h⟩ := h; exact ⟨_, rfl, h⟩
  · obtain ⟨n, h⟩ := h; exact ⟨_, rfl, h⟩
  · obtain ⟨n, h⟩ := h; exact ⟨_, rfl, h⟩
  · obtain ⟨p, n, c, h⟩ := h; exact ⟨_, rfl, h⟩
  · exact h
theorem exLeaves_out {l : List Leaf} {K : List Value → Prop} (h : exLeaves l K) : ∃ vs : List Value, vs.length = l.length ∧ (∀ v ∈ vs, v.oneCell' = true) ∧ K vs := by
  induction l generalizing K with
  | nil => exact ⟨[], rfl, by simp, h⟩
  | cons x r ih =>
    obtain ⟨v, hv, h⟩ := exLeaf_out h
    obtain ⟨vs, hl, h1, h⟩ := ih h
    exact ⟨v :: vs, by simp [hl], by simpa using ⟨hv, h1⟩, h⟩

/-- Functions of values of given shapes. -/
def LeafT : Leaf → Type → Type
  | .int _, X => Int → X
  | .bool, X => Bool → X
  | .str, X => List UInt8 → X
  | .ptr, X => Option Addr → X
  | .slc, X => Option Addr → Nat → Nat → X
  | .raw, X => Value → X
def LeavesT : List Leaf → Type → Type
  | [], X => X
  | x :: r, X => LeafT x (LeavesT r X)
def LeafT.app {X : Type} : (x : Leaf) → LeafT x X → Value → (X → Prop) → Prop
  | .int k, f, .int k' n, K => bsel (decide (k = k')) (K (f n)) False
  | .bool, f, .bool b, K => K (f b)
  | .str, f, .string ⟨⟨l⟩⟩, K => K (f l)
  | .ptr, f, .pointer p, K => K (f p)
  | .slc, f, .slice p n c, K => K (f p n c)
  | .raw, f, v, K => K (f v)
  | _, _, _, _ => False
def LeavesT.app {X : Type} : (l : List Leaf) → LeavesT l X → List Value → (X → Prop) → Prop
  | [], f, [], K => K f
  | x :: r, f, v :: vs, K => LeafT.app x f v fun g => LeavesT.app r g vs K
  | _, _, _, _ => False
theorem LeafT.app_mono {X : Type} {x : Leaf} {f : LeafT x X} {v : Value} {K K' : X → Prop} (h : LeafT.app x f v K) (hk : ∀ y, K y → K' y) : LeafT.app x f v K' := by
  cases x <;> cases v <;> simp only [LeafT.app] at h ⊢ <;> first | exact h.elim | exact hk _ h | skip
  rename_i k k' n
  cases hd : decide (k = k') <;> simp [hd] at h ⊢
  exact hk _ h
theorem LeafT.app_all {X : Type} {x : Leaf} {f : LeafT x X} {v : Value} {K : X → Prop} {Q : Value → Prop} (h : LeafT.app x f v K) (hq : allLeaf x Q) : Q v := by
  cases x <;> cases v <;> simp only [LeafT.app] at h <;> first | exact h.elim | skip
  · rename_i k k' n
    cases hd : decide (k = k') <;> simp [hd] at h
    obtain rfl := of_decide_eq_true hd
    exact hq n
  all_goals first | exact hq _ | exact hq _ _ _ | skip
theorem LeavesT.app_mono {X : Type} {l : List Leaf} {f : LeavesT l X} {vs : List Value} {K K' : X → Prop} (h : LeavesT.app l f vs K) (hk : ∀ y, K y → K' y) : LeavesT.app l f vs K' := by
  induction l generalizing vs with
  | nil => cases vs with
    | nil => exact hk _ h
    | cons v vs => exact h.elim
  | cons x r ih => cases vs with
    | nil => exact h.elim
    | cons v vs => exact LeafT.app_mono h fun g hg => ih hg
theorem LeavesT.app_all {X : Type} {l : List Leaf} {f : LeavesT l X} {vs : List Value} {K : X → Prop} {Q : List Value → Prop} (h : LeavesT.app l f vs K) (hq : allLeaves l Q) : Q vs := by
  induction l generalizing vs Q with
  | nil => cases vs with
    | nil => exact hq
    | cons v vs => exact h.elim
  | cons x r ih => cases vs with
    | nil => exact h.elim
    | cons v vs =>
      have h1 := LeafT.app_all h hq
      obtain ⟨g, hg⟩ : ∃ g, LeavesT.app r g vs K := by
        clear ih hq h1
        cases x <;> cases v <;> simp only [LeavesT.app, LeafT.app] at h <;> first | exact h.elim | exact ⟨_, h⟩ | skip
        rename_i k k' n
        cases hd : decide (k = k') <;> simp [hd] at h
        exact ⟨_, h⟩
      exact ih (Q := fun vs => Q (v :: vs)) hg h1

/-! ### Types -/
inductive Ty where
  | leaf (x : Leaf)
  | agg (l : List Leaf)
  | big (n : Nat)
def tyOfZero : Value → Ty
  | .agg ⟨cs⟩ => bif Nat.ble cs.length 16 then .agg (cs.map leafOf) else .big cs.length
  | v => .leaf (leafOf v)
def tyOf (P : Program) (t : TypeId) : Ty := match P.info? t with
  | some i => match i.zero with
    | some z => tyOfZero z
    | none => .big 0
  | none => .big 0
def exTy : Ty → (Value → Prop) → Prop
  | .leaf x, K => exLeaf x K
  | .agg l, K => exLeaves l fun vs => K (.agg ⟨vs⟩)
  | .big n, K => ∃ cs : List Value, cs.length = n ∧ K (.agg ⟨cs⟩)
theorem exTy_out {x : Ty} {K : Value → Prop} (h : exTy x K) : ∃ v, K v := by
  cases x with
  | leaf x => obtain ⟨v, _, h⟩ := exLeaf_out h; exact ⟨v, h⟩
  | agg l => obtain ⟨vs, _, _, h⟩ := exLeaves_out h; exact ⟨_, h⟩
  | big n => obtain ⟨cs, _, h⟩ := h; exact ⟨_, h⟩
def exTys (P : Program) : List TypeId → (List Value → Prop) → Prop
  | [], K => K []
  | t :: r, K => exTy (tyOf P t) fun v => exTys P r fun vs => K (v :: vs)
theorem exTys_out {P : Program} {l : List TypeId} {K : List Value → Prop} (h : exTys P l K) : ∃ vs, K vs := by
  induction l generalizing K with
  | nil => exact ⟨[], h⟩
  | cons t r ih =>
    obtain ⟨v, h⟩ := exTy_out h
    obtain ⟨vs, h⟩ := ih h
    exact ⟨v :: vs, h⟩
/-- What a call hands back, by the type of the call's operation. -/
def exRet (P : Program) (t : TypeId) (K : Value → Prop) : Prop := match P.underlying t with
  | some (.tuple ⟨es⟩) => exTys P es fun vs => K (.tuple ⟨vs⟩)
  | _ => exTy (tyOf P t) K
theorem exRet_out {P : Program} {t : TypeId} {K : Value → Prop} (h : exRet P t K) : ∃ v, K v := by
  unfold exRet at h
  split at h
  · obtain ⟨vs, h⟩ := exTys_out h; exact ⟨_, h⟩
  · exact exTy_out h

def TyT : Ty → Type → Type
  | .leaf x, X => LeafT x X
  | .agg l, X => LeavesT l X
  | .big _, X => List Value → X
def TysT : List Ty → Type → Type
  | [], X => X
  | x :: r, X => TyT x (TysT r X)
def TyT.app {X : Type} : (x : Ty) → TyT x X → Value → (X → Prop) → Prop
  | .leaf x, f, v, K => LeafT.app x f v K
  | .agg l, f, .agg ⟨vs⟩, K => LeavesT.app l f vs K
  | .big n, f, .agg ⟨cs⟩, K => cs.length = n ∧ K (f cs)
  | _, _, _, _ => False
def TysT.app {X : Type} : (l : List Ty) → TysT l X → List Value → (X → Prop) → Prop
  | [], f, [], K => K f
  | x :: r, f, v :: vs, K => TyT.app x f v fun g => TysT.app r g vs K
  | _, _, _, _ => False
def allTy : Ty → (Value → Prop) → Prop
  | .leaf x, K => allLeaf x K
  | .agg l, K => allLeaves l fun vs => K (.agg ⟨vs⟩)
  | .big n, K => ∀ cs : List Value, cs.length = n → K (.agg ⟨cs⟩)
def allTys : List Ty → (List Value → Prop) → Prop
  | [], K => K []
  | x :: r, K => allTy x fun v => allTys r fun vs => K (v :: vs)
theorem TyT.app_mono {X : Type} {x : Ty} {f : TyT x X} {v : Value} {K K' : X → Prop} (h : TyT.app x f v K) (hk : ∀ y, K y → K' y) : TyT.app x f v K' := by
  cases x with
  | leaf x => exact LeafT.app_mono h hk
  | agg l => cases v <;> first | exact h.elim | exact LeavesT.app_mono h hk
  | big n => cases v <;> first | exact h.elim | exact ⟨h.1, hk _ h.2⟩
theorem TyT.app_all {X : Type} {x : Ty} {f : TyT x X} {v : Value} {K : X → Prop} {Q : Value → Prop} (h : TyT.app x f v K) (hq : allTy x Q) : Q v := by
  cases x with
  | leaf x => exact LeafT.app_all h hq
  | agg l => cases v <;> first | exact h.elim | exact LeavesT.app_all h hq
  | big n => cases v <;> first | exact h.elim | exact hq _ h.1
theorem LeafT.app_some {X : Type} {x : Leaf} {f : LeafT x X} {v : Value} {K : X → Prop} (h : LeafT.app x f v K) : ∃ y, K y := by
  cases x <;> cases v <;> simp only [LeafT.app] at h <;> first | exact h.elim | exact ⟨_, h⟩ | skip
  rename_i k k' n
  cases hd : decide (k = k') <;> simp [hd] at h
  exact ⟨_, h⟩
theorem LeavesT.app_some {X : Type} {l : List Leaf} {f : LeavesT l X} {vs : List Value} {K : X → Prop} (h : LeavesT.app l f vs K) : ∃ y, K y := by
  induction l generalizing vs with
  | nil => cases vs with
    | nil => exact ⟨_, h⟩
    | cons v vs => exact h.elim
  | cons x r ih => cases vs with
    | nil => exact h.elim
    | cons v vs =>
      obtain ⟨g, hg⟩ := LeafT.app_some h
      exact ih hg
theorem TyT.app_some {X : Type} {x : Ty} {f : TyT x X} {v : Value} {K : X → Prop} (h : TyT.app x f v K) : ∃ y, K y := by
  cases x with
  | leaf x => exact LeafT.app_some h
  | agg l => cases v <;> first | exact h.elim | exact LeavesT.app_some h
  | big n => cases v <;> first | exact h.elim | exact ⟨_, h.2⟩
theorem TysT.app_mono {X : Type} {l : List Ty} {f : TysT l X} {vs : List Value} {K K' : X → Prop} (h : TysT.app l f vs K) (hk : ∀ y, K y → K' y) : TysT.app l f vs K' := by
  induction l generalizing vs with
  | nil => cases vs with
    | nil => exact hk _ h
    | cons v vs => exact h.elim
  | cons x r ih => cases vs with
    | nil => exact h.elim
    | cons v vs => exact TyT.app_mono h fun g hg => ih hg
theorem TysT.app_all {X : Type} {l : List Ty} {f : TysT l X} {vs : List Value} {K : X → Prop} {Q : List Value → Prop} (h : TysT.app l f vs K) (hq : allTys l Q) : Q vs := by
  induction l generalizing vs Q with
  | nil => cases vs with
    | nil => exact hq
    | cons v vs => exact h.elim
  | cons x r ih => cases vs with
    | nil => exact h.elim
    | cons v vs =>
      obtain ⟨g, hg⟩ := TyT.app_some h
      exact ih (Q := fun vs => Q (v :: vs)) hg (TyT.app_all h hq)

/-! ### Slots -/
def getK : Fr → Nat → (Value → Prop) → Prop
  | [], _, _ => False
  | v :: _, 0, K => K v
  | _ :: l, n + 1, K => getK l n K
def setK : Fr → Nat → Value → (Fr → Prop) → Prop
  | [], _, _, K => K []
  | _ :: l, 0, v, K => K (v :: l)
  | x :: l, n + 1, v, K => setK l n v fun l' => K (x :: l')
theorem getK_out {l : Fr} {t : Nat} {K : Value → Prop} (h : getK l t K) : ∃ v, l[t]? = some v ∧ K v := by
  induction l generalizing t with
  | nil => exact h.elim
  | cons x l ih => cases t with
    | zero => exact ⟨x, rfl, h⟩
    | succ t => exact ih h
theorem setK_out {l : Fr} {t : Nat} {v : Value} {K : Fr → Prop} (h : setK l t v K) : K (l.set t v) := by
  induction l generalizing t K with
  | nil => exact h
  | cons x l ih => cases t with
    | zero => exact h
    | succ t => exact ih (K := fun l' => K (x :: l')) h
def putK (l : Fr) : Option Nat → Value → (Fr → Prop) → Prop
  | some d, v, K => setK l d v K
  | none, _, K => K l
def put (l : Fr) : Option Nat → Value → Fr
  | some d, v => l.set d v
  | none, _ => l
theorem putK_out {l : Fr} {d : Option Nat} {v : Value} {K : Fr → Prop} (h : putK l d v K) : K (put l d v) := by
  cases d with
  | none => exact h
  | some d => exact setK_out h
def act (l : Fr) (ds : List Deferred) : Act := ⟨⟨l⟩, ds⟩
theorem act_put (l : Fr) (ds : List Deferred) (d : Option Nat) (v : Value) : (act l ds).put d v = act (put l d v) ds := by
  cases d with
  | none => rfl
  | some d => simp [act, Act.put, put, List.setIfInBounds_toArray]
def opK (l : Fr) : Operand → (Value → Prop) → Prop
  | .tmp t, K => getK l t K
  | .const v, K => K v
  | .global g, K => K (.pointer (some ⟨g, 0, none⟩))
  | .func f, K => K (.func (.func f) #[] #[])
theorem opK_out {l : Fr} {ds : List Deferred} {x : Operand} {K : Value → Prop} (h : opK l x K) : K ((act l ds).eval x) := by
  cases x with
  | tmp t =>
    obtain ⟨v, hv, h⟩ := getK_out h
    simpa [act, Act.eval, hv] using h
  | const v => exact h
  | global g => exact h
  | func f => exact h
def opsK (l : Fr) : List Operand → (List Value → Prop) → Prop
  | [], K => K []
  | x :: r, K => opK l x fun v => opsK l r fun vs => K (v :: vs)
theorem opsK_out {l : Fr} {ds : List Deferred} {xs : List Operand} {K : List Value → Prop} (h : opsK l xs K) : K (xs.map (act l ds).eval) := by
  induction xs generalizing K with
  | nil => exact h
  | cons x r ih => exact ih (opK_out (ds := ds) h)

/-! ### Operations that leave the world alone -/
def szOf (P : Program) (t : TypeId) : Nat := match P.info? t with
  | some i => i.size
  | none => 0
def hasInfo (P : Program) (t : TypeId) : Bool := match P.info? t with
  | some _ => true
  | none => false
def leavesOf (P : Program) (t : TypeId) : List Leaf := match P.info? t with
  | some i => match i.zero with
    | some (.agg ⟨cs⟩) => cs.map leafOf
    | some v => [leafOf v]
    | none => []
  | none => []
def leaf1 (P : Program) (t : TypeId) : Leaf := match P.info? t with
  | some i => match i.zero with
    | some v => leafOf v
    | none => .raw
  | none => .raw
def RdOk (Rd : Addr → Value → Prop) (w : World) : Prop := ∀ a u, Rd a u → w.cell? a = some u

theorem run_size {P : Program} {t : TypeId} (h : hasInfo P t = true) (w : World) : (sizeOf t).run P w = .ok (szOf P t) w := by
  unfold hasInfo at h
  unfold szOf
  cases hi : P.info? t with
  | none => simp [hi] at h
  | some i => simp [sizeOf, typeInfo, hi]

def ptrK (v : Value) (K : Addr → Prop) : Prop := match v with
  | .pointer p => someK p K
  | _ => False
theorem ptrK_out {v : Value} {K : Addr → Prop} (h : ptrK v K) : ∃ a, v = .pointer (some a) ∧ K a := by
  cases v <;> simp only [ptrK] at h <;> first | exact h.elim | skip
  obtain ⟨a, rfl, h⟩ := someK_out h
  exact ⟨a, rfl, h⟩
def intK (v : Value) (K : IntKind → Int → Prop) : Prop := match v with
  | .int k n => K k n
  | _ => False
theorem intK_out {v : Value} {K : IntKind → Int → Prop} (h : intK v K) : ∃ k n, v = .int k n ∧ K k n := by
  cases v <;> simp only [intK] at h <;> first | exact h.elim | exact ⟨_, _, rfl, h⟩

def rdAll (Rd : Addr → Value → Prop) (a : Addr) : Nat → List Value → Prop → Prop
  | _, [], K => K
  | i, v :: r, K => Rd (a.add i) v ∧ rdAll Rd a (i + 1) r K
theorem rdAll_out {Rd : Addr → Value → Prop} {a : Addr} {vs : List Value} : ∀ {i : Nat} {K : Prop}, rdAll Rd a i vs K → (∀ j u, vs[j]? = some u → Rd (a.add (i + j)) u) ∧ K := by
  induction vs with
  | nil => intro i K h; exact ⟨by simp, h⟩
  | cons v r ih =>
    intro i K h
    obtain ⟨h0, h⟩ := h
    obtain ⟨h1, h2⟩ := ih h
    refine ⟨fun j u hj => ?_, h2⟩
    cases j with
    | zero => simp at hj; subst hj; exact h0
    | succ j => have := h1 j u (by simpa using hj); rwa [Nat.add_assoc, Nat.add_comm 1 j] at this

def loadQ (P : Program) (t : TypeId) (a : Addr) (Rd : Addr → Value → Prop) (K : Value → Prop) : Prop :=
  match P.underlying t with
  | some (.struct _) | some (.array _ _) => bsel (hasInfo P t)
      (bsel (Nat.ble (szOf P t) 16)
        (exLeaves (leavesOf P t) fun vs => bsel (Nat.beq vs.length (szOf P t)) (rdAll Rd a 0 vs (K (.agg ⟨vs⟩))) False)
        (∃ cs : List Value, cs.length = szOf P t ∧ (∀ j u, cs[j]? = some u → Rd (a.add j) u) ∧ K (.agg ⟨cs⟩))) False
  | some _ => exLeaf (leaf1 P t) fun v => Rd a v ∧ K v
  | none => False
def aggD : TypeDesc → Bool
  | .struct _ | .array _ _ => true
  | _ => false
theorem run_isAgg {P : Program} {t : TypeId} {d : TypeDesc} (h : P.underlying t = some d) (w : World) : (isAgg t).run P w = .ok (aggD d) w := by
  unfold isAgg
  rw [Sem.run_bind, run_underlying h w]
  cases d <;> rfl
theorem loadVar_agg {P : Program} {t : TypeId} {d : TypeDesc} (h : P.underlying t = some d) (hd : aggD d = true) (hi : hasInfo P t = true) {w : World} {a : Addr} {cs : List Value}
    (hl : cs.length = szOf P t) (hc : ∀ j u, cs[j]? = some u → w.cell? (a.add j) = some u) : (loadVar t a).run P w = .ok (.agg ⟨cs⟩) w := by
  have h1 := run_isAgg h w
  rw [hd] at h1
  have h2 := run_loadCells_list (P := P) w a cs hc
  rw [hl] at h2
  simp only [loadVar, Sem.run_bind, h1, Result.andThen_ok, if_true, run_size hi, h2, Sem.run_pure]
theorem loadQ_out {P : Program} {t : TypeId} {a : Addr} {Rd : Addr → Value → Prop} {K : Value → Prop} (h : loadQ P t a Rd K) :
    ∃ v, K v ∧ ∀ w, RdOk Rd w → (loadVar t a).run P w = .ok v w := by
  unfold loadQ at h
  have agg : ∀ d, P.underlying t = some d → aggD d = true → bsel (hasInfo P t)
      (bsel (Nat.ble (szOf P t) 16)
        (exLeaves (leavesOf P t) fun vs => bsel (Nat.beq vs.length (szOf P t)) (rdAll Rd a 0 vs (K (.agg ⟨vs⟩))) False)
        (∃ cs : List Value, cs.length = szOf P t ∧ (∀ j u, cs[j]? = some u → Rd (a.add j) u) ∧ K (.agg ⟨cs⟩))) False → ∃ v, K v ∧ ∀ w, RdOk Rd w → (loadVar t a).run P w = .ok v w := by
    intro d hu hd h
    rw [bsel_iff] at h
    have hi : hasInfo P t = true := by
      cases hh : hasInfo P t with
      | true => rfl
      | false => exact (h.2 hh).elim
    have h := h.1 hi
    rw [bsel_iff] at h
    cases hb : Nat.ble (szOf P t) 16 with
    | true =>
      obtain ⟨vs, _, _, h⟩ := exLeaves_out (h.1 hb)
      rw [bsel_iff] at h
      cases hl : Nat.beq vs.length (szOf P t) with
      | false => exact (h.2 hl).elim
      | true =>
        obtain ⟨h1, h2⟩ := rdAll_out (h.1 hl)
        exact ⟨_, h2, fun w hw => loadVar_agg hu hd hi (Nat.eq_of_beq_eq_true hl) fun j u hj => hw _ _ (by simpa using h1 j u hj)⟩
    | false =>
      obtain ⟨cs, h1, h2, h3⟩ := h.2 hb
      exact ⟨_, h3, fun w hw => loadVar_agg hu hd hi h1 fun j u hj => hw _ _ (h2 j u hj)⟩
  split at h
  · rename_i hu; exact agg _ hu rfl h
  · rename_i hu; exact agg _ hu rfl h
  · rename_i d hs ha hu
    obtain ⟨v, _, h1, h2⟩ := exLeaf_out h
    refine ⟨v, h2, fun w hw => ?_⟩
    have h3 := run_isAgg hu w
    have h4 : aggD d = false := by
      cases d <;> first | rfl | skip
      · rename_i n e; exact (ha n e rfl).elim
      · rename_i fs; exact (hs fs rfl).elim
    rw [h4] at h3
    simp only [loadVar, Sem.run_bind, h3, Result.andThen_ok, Bool.false_eq_true, if_false, run_load, hw _ _ h1]
  · exact h.elim

def strQ (op : BinOp) (a b : List UInt8) (K : Value → Prop) : Prop := match op with
  | .add => a.length + b.length ≤ 9223372036854775807 ∧ K (.string (S (a ++ b)))
  | .eql => K (.bool (decide (a = b)))
  | .neq => K (.bool (!decide (a = b)))
  | .lss => K (.bool (Op.bytesLess a b))
  | .geq => K (.bool (!Op.bytesLess a b))
  | .leq => K (.bool (Op.bytesLess a b || decide (a = b)))
  | .gtr => K (.bool (!(Op.bytesLess a b || decide (a = b))))
  | _ => False
def intQ (op : BinOp) (k : IntKind) (a b : Int) (K : Value → Prop) : Prop := match op with
  | .add => K (.int k (k.wrap (a + b)))
  | .sub => K (.int k (k.wrap (a - b)))
  | .mul => K (.int k (k.wrap (a * b)))
  | .quo => b ≠ 0 ∧ K (.int k (k.wrap (a.tdiv b)))
  | .rem => b ≠ 0 ∧ K (.int k (a.tmod b))
  | .and => K (.int k (bits .and k a b))
  | .or => K (.int k (bits .or k a b))
  | .xor => K (.int k (bits .xor k a b))
  | .andNot => K (.int k (bits .andNot k a b))
  | .eql => K (.bool (decide (a = b)))
  | .neq => K (.bool (!decide (a = b)))
  | .lss => K (.bool (decide (a < b)))
  | .leq => K (.bool (decide (a ≤ b)))
  | .gtr => K (.bool (decide (b < a)))
  | .geq => K (.bool (decide (b ≤ a)))
  | _ => False
theorem bsel_true_out {c : Bool} {A : Prop} (h : bsel c A False) : c = true ∧ A := by
  cases c
  · exact h.elim
  · exact ⟨rfl, h⟩
/-- '==' of structs whose fields are numbers, texts and truths. -/
def eqLeafQ (P : Program) (t : TypeId) (x y : Value) (K : Bool → Prop) : Prop := match P.underlying t with
  | some (.int _) => match x, y with
    | .int k a, .int k' b => bsel (decide (k = k')) (K (decide (a = b))) False
    | _, _ => False
  | some .string => match x, y with
    | .string ⟨⟨a⟩⟩, .string ⟨⟨b⟩⟩ => K (decide (a = b))
    | _, _ => False
  | some .bool => match x, y with
    | .bool a, .bool b => K (decide (a = b))
    | _, _ => False
  | _ => False
def eqFieldsQ (P : Program) (xs ys : List Value) : List Field → (Bool → Prop) → Prop
  | [], K => K true
  | f :: r, K => bsel (decide (f.name ≠ "_")) (getK xs f.offset fun x => getK ys f.offset fun y => eqLeafQ P f.type x y fun b => eqFieldsQ P xs ys r fun b' => K (b && b')) False
def isStructB (P : Program) (t : TypeId) : Bool := match P.underlying t with
  | some (.struct _) => true
  | _ => false
theorem S_toList (a : List UInt8) : (S a).toList = a := ByteArray.toList_mk a
theorem eqLeafQ_out {P : Program} {t : TypeId} {x y : Value} {K : Bool → Prop} (h : eqLeafQ P t x y K) :
    ∃ b, K b ∧ (∀ d w, (Op.equalIn (d + 1) t x y).run P w = .ok b w) ∧ ∀ (cs : Array Value) (off : Nat) (v : Value) (w : World), cs[off]? = some v → (part t cs off).run P w = .ok v w := by
  have plain : ∀ {d : TypeDesc}, P.underlying t = some d → aggD d = false → ∀ (cs : Array Value) (off : Nat) (v : Value) (w : World), cs[off]? = some v → (part t cs off).run P w = .ok v w := by
    intro d hu hd cs off v w hv
    have h3 := run_isAgg hu w
    rw [hd] at h3
    simp only [part, Sem.run_bind, h3, Result.andThen_ok, Bool.false_eq_true, if_false, hv, Sem.run_pure]
  unfold eqLeafQ at h
  split at h
  · rename_i k0 hu
    split at h
    · rename_i k a k' b
      rw [bsel_iff] at h
      cases hd : decide (k = k') with
      | false => exact (h.2 hd).elim
      | true =>
        obtain rfl := of_decide_eq_true hd
        exact ⟨_, h.1 hd, fun d w => by rw [run_equalIn_int w d t _ _ _ _ hu]; rfl, plain hu rfl⟩
    · exact h.elim
  · rename_i hu
    split at h
    · rename_i a b
      refine ⟨_, h, fun d w => ?_, plain hu rfl⟩
      have := run_equalIn_string w d t (S a) (S b) hu
      rw [S_toList, S_toList] at this
      rw [show (Value.string ⟨⟨a⟩⟩) = .string (S a) from rfl, show (Value.string ⟨⟨b⟩⟩) = .string (S b) from rfl, this]
      congr 1
      rw [Bool.eq_iff_iff]; simp
    · exact h.elim
  · rename_i hu
    split at h
    · rename_i a b
      refine ⟨_, h, fun d w => ?_, plain hu rfl⟩
      rw [run_equalIn_bool' w d t a b hu]
      rfl
    · exact h.elim
  · exact h.elim
theorem eqFieldsQ_out {P : Program} {xs ys : List Value} : ∀ {fs : List Field} {K : Bool → Prop}, eqFieldsQ P xs ys fs K → ∃ b, K b ∧ ∀ d w, (Op.eqFields (d + 1) ⟨xs⟩ ⟨ys⟩ fs).run P w = .ok b w
  | [], K, h => ⟨true, h, fun d w => by simp [Op.eqFields]⟩
  | f :: r, K, h => by
    obtain ⟨hn, h⟩ := bsel_true_out h
    obtain ⟨x, hx, h⟩ := getK_out h
    obtain ⟨y, hy, h⟩ := getK_out h
    obtain ⟨b, h, he, hp⟩ := eqLeafQ_out h
    obtain ⟨b', hk, hr⟩ := eqFieldsQ_out h
    refine ⟨b && b', hk, fun d w => ?_⟩
    have hn := of_decide_eq_true hn
    have h1 := hp ⟨xs⟩ f.offset x w (by simpa using hx)
    have h2 := hp ⟨ys⟩ f.offset y w (by simpa using hy)
    simp only [Op.eqFields, if_pos hn, Sem.run_bind, h1, h2, Result.andThen_ok, he d w]
    cases b with
    | true => simpa using hr d w
    | false => simp
def structQ (P : Program) (op : BinOp) (t : TypeId) (xs ys : List Value) (K : Value → Prop) : Prop :=
  bsel (isStructB P t && !P.stoodInHeld t && !P.eqGuardType P.depth t) (eqFieldsQ P xs ys (P.fieldsOf t).toList fun b => match op with
    | .eql => K (.bool b)
    | .neq => K (.bool (!b))
    | _ => False) False
theorem structQ_out {P : Program} {op : BinOp} {t : TypeId} {xs ys : List Value} {K : Value → Prop} (h : structQ P op t xs ys K) :
    P.eqGuardType P.depth t = false ∧ ∃ v, K v ∧ ∀ w, (binOp op t (.agg ⟨xs⟩) (.agg ⟨ys⟩)).run P w = .ok v w := by
  obtain ⟨hb, h⟩ := bsel_true_out h
  simp only [Bool.and_eq_true, Bool.not_eq_true'] at hb
  obtain ⟨⟨h1, h2⟩, h3⟩ := hb
  obtain ⟨b, hk, hr⟩ := eqFieldsQ_out h
  have ht : P.underlying t = some (.struct (P.fieldsOf t)) := by
    unfold isStructB at h1
    unfold Program.fieldsOf
    split at h1
    · rename_i fs hu
      rw [hu]
    · cases h1
  have heq : ∀ w, (Op.equalIn 10000 t (.agg ⟨xs⟩) (.agg ⟨ys⟩)).run P w = .ok b w := fun w => by
    rw [show (10000 : Nat) = 9999 + 1 from rfl, run_equalIn_struct w 9999 t _ _ ht h2]
    exact hr 9998 w
  refine ⟨h3, ?_⟩
  split at hk
  · exact ⟨_, hk, fun w => by rw [run_eql_struct, heq w]; rfl⟩
  · exact ⟨_, hk, fun w => by rw [run_neq_struct, heq w]; rfl⟩
  · exact hk.elim
/-- A pointer against nil, or against one that is the same. -/
def ptrB (P : Program) (te : TypeId) (op : BinOp) (p q : Option Addr) (K : Bool → Prop) : Prop := match q with
  | none => match op with
    | .eql => K p.isNone
    | .neq => K (!p.isNone)
    | _ => False
  | some b => hasInfo P te = true ∧ p = some b ∧ match op with
    | .eql => K true
    | .neq => K false
    | _ => False
theorem ptrB_out {P : Program} {te t : TypeId} (hu : P.underlying t = some (.pointer te)) {op : BinOp} {p q : Option Addr} {K : Bool → Prop} (h : ptrB P te op p q K) :
    ∃ b, K b ∧ ∀ w, (binOp op t (.pointer p) (.pointer q)).run P w = .ok (.bool b) w := by
  cases q with
  | none =>
    have hd : ∀ d w, (Op.equalIn (d + 1) t (.pointer p) (.pointer none)).run P w = .ok p.isNone w := by
      intro d w
      cases p <;> simp [Op.equalIn, run_underlying hu]
    have hq : ∀ w, (Op.equal t (.pointer p) (.pointer none)).run P w = .ok p.isNone w := hd 9999
    cases op <;> simp only [ptrB] at h <;> first | exact h.elim | exact ⟨_, h, fun w => by simp [binOp, hq w]⟩
  | some b =>
    obtain ⟨hi, rfl, h⟩ := h
    obtain ⟨j, hj⟩ : ∃ j, P.info? te = some j := by
      unfold hasInfo at hi
      cases hj : P.info? te with
      | none => rw [hj] at hi; cases hi
      | some j => exact ⟨j, rfl⟩
    cases op <;> simp only at h <;> first | exact h.elim | skip
    · refine ⟨_, h, fun w => ?_⟩
      have h : ∀ d : Nat, (Op.equalIn (d + 1) t (.pointer (some b)) (.pointer (some b))).run P w = .ok true w := fun d => by
        simp [Op.equalIn, run_underlying hu, sizeOf, typeInfo, hj, run_sameAddr_same]
      simp only [binOp]
      simp [Op.equal, Op.maxDepth, h 9999]
    · exact ⟨_, h, fun w => Lib.run_neq_ptr_same w b hu hj⟩
def binQ0 (P : Program) (op : BinOp) (t : TypeId) (x y : Value) (K : Value → Prop) : Prop :=
  match x, y with
  | .int k a, .int k' b => match op with
    | .shl => 0 ≤ b ∧ K (.int k (k.wrap (a * 2 ^ (min b.toNat k.bits))))
    | .shr => 0 ≤ b ∧ K (.int k (a.fdiv (2 ^ (min b.toNat k.bits))))
    | op => bsel (decide (k = k')) (intQ op k a b K) False
  | .string ⟨⟨a⟩⟩, .string ⟨⟨b⟩⟩ => strQ op a b K
  | .bool a, .bool b => match P.underlying t with
    | some .bool => match op with
      | .eql => K (.bool (decide (a = b)))
      | .neq => K (.bool (!decide (a = b)))
      | _ => False
    | _ => False
  | .pointer p, .pointer q => match P.underlying t with
    | some (.pointer te) => ptrB P te op p q fun b => K (.bool b)
    | _ => False
  | .slice p _ _, .slice none _ _ => match P.underlying t with
    | some (.slice _) => match op with
      | .eql => K (.bool p.isNone)
      | .neq => K (.bool (!p.isNone))
      | _ => False
    | _ => False
  | .agg ⟨xs⟩, .agg ⟨ys⟩ => structQ P op t xs ys K
  | _, _ => False
theorem strQ_out {P : Program} {op : BinOp} {a b : List UInt8} {K : Value → Prop} (h : strQ op a b K) : ∃ v, K v ∧ ∀ w, (Op.stringOp op (S a) (S b)).run P w = .ok v w := by
  have he : ((S a).toList == (S b).toList) = decide (a = b) := by rw [S_toList, S_toList, Bool.eq_iff_iff]; simp
  have hb : Op.bytesLess (S a).toList (S b).toList = Op.bytesLess a b := by rw [S_toList, S_toList]
  cases op <;> simp only [strQ] at h <;> first | exact h.elim | skip
  · refine ⟨_, h.2, fun w => ?_⟩
    have := run_string_add_sum (P := P) w (S a) (S b) (by simpa [ByteArray.size] using h.1)
    rw [this]
    congr 2
  all_goals (refine ⟨_, h, fun w => ?_⟩; simp only [Op.stringOp, he, hb, Sem.run_pure])
theorem intQ_out {P : Program} {op : BinOp} {t : TypeId} {k : IntKind} {a b : Int} {K : Value → Prop} (hs : op ≠ .shl) (hr : op ≠ .shr) (h : intQ op k a b K) : ∃ v, K v ∧ ∀ w, (binOp op t (.int k a) (.int k b)).run P w = .ok v w := by
  cases op <;> simp only [intQ] at h <;> first | exact h.elim | exact absurd rfl hs | exact absurd rfl hr | skip
  all_goals first
    | (refine ⟨_, h, fun w => ?_⟩; first
        | (simp only [binOp_add, binOp_sub, binOp_mul, Op.intArith, Sem.run_pure]; done)
        | (simp only [binOp_and, binOp_or, binOp_xor, binOp_andNot, intBits_and, intBits_or, intBits_xor, intBits_andNot, Sem.run_pure]; done)
        | (simp only [binOp_lss, binOp_leq, binOp_gtr, binOp_geq, Sem.run_pure, gt_iff_lt, ge_iff_le]; done)
        | (simp only [binOp_eql, binOp_neq, Sem.run_pure]; rfl))
    | (refine ⟨_, h.2, fun w => ?_⟩; simp [binOp_quo, binOp_rem, Op.intDiv, h.1])
theorem binQ0_out {P : Program} {op : BinOp} {t : TypeId} {x y : Value} {K : Value → Prop} (h : binQ0 P op t x y K) : ∃ v, K v ∧ ∀ w, (binOp op t x y).run P w = .ok v w := by
  unfold binQ0 at h
  split at h
  · rename_i k a k' b
    split at h
    · exact ⟨_, h.2, fun w => by simp [binOp_shl, Op.shift, show ¬ b < 0 by omega]⟩
    · exact ⟨_, h.2, fun w => by simp [binOp_shr, Op.shift, show ¬ b < 0 by omega]⟩
    · rename_i hs hr
      rw [bsel_iff] at h
      cases hd : decide (k = k') with
      | false => exact (h.2 hd).elim
      | true =>
        obtain rfl := of_decide_eq_true hd
        exact intQ_out (fun e => hs e) (fun e => hr e) (h.1 hd)
  · rename_i a b
    obtain ⟨v, h1, h2⟩ := strQ_out (P := P) h
    refine ⟨v, h1, fun w => ?_⟩
    have := h2 w
    cases op <;> simpa [binOp] using this
  · split at h
    · rename_i hu
      split at h <;> first | exact h.elim | skip
      · exact ⟨_, h, fun w => by rw [run_eql_bool w t _ _ hu]; rfl⟩
      · exact ⟨_, h, fun w => by rw [run_neq_bool w t _ _ hu]; rfl⟩
    · exact h.elim
  · rename_i p q
    split at h
    · rename_i e hu
      obtain ⟨b, hk, hr⟩ := ptrB_out hu h
      exact ⟨_, hk, hr⟩
    · exact h.elim
  · rename_i p n c n' c'
    split at h
    · rename_i e hu
      have hd : ∀ d w, (Op.equalIn (d + 1) t (.slice p n c) (.slice none n' c')).run P w = .ok p.isNone w := by
        intro d w
        cases p <;> simp [Op.equalIn, run_underlying hu]
      have hq : ∀ w, (Op.equal t (.slice p n c) (.slice none n' c')).run P w = .ok p.isNone w := hd 9999
      split at h <;> first | exact h.elim | skip
      · exact ⟨_, h, fun w => by simp [binOp, hq w]⟩
      · exact ⟨_, h, fun w => by simp [binOp, hq w]⟩
    · exact h.elim
  · exact (structQ_out h).2
  · exact h.elim

/-- An interface's value against nil. -/
def ifNil (op : BinOp) (v : Value) (K : Bool → Prop) : Prop := match v with
  | .nilIface => (match op with
    | .eql => K true
    | .neq => K false
    | _ => False)
  | .iface _ _ => (match op with
    | .eql => K false
    | .neq => K true
    | _ => False)
  | _ => False
/-- An interface's value, nil or a number of the type ty, against such a number. -/
def ifInt (op : BinOp) (ty : TypeId) (k : IntKind) (n : Int) (v : Value) (K : Bool → Prop) : Prop := match v with
  | .nilIface => (match op with
    | .eql => K false
    | .neq => K true
    | _ => False)
  | .iface tx (.int k' m) => tx = ty ∧ k' = k ∧ (match op with
    | .eql => K (decide (m = n))
    | .neq => K (!decide (m = n))
    | _ => False)
  | _ => False
def ifaceB (P : Program) (t : TypeId) : Bool := match P.underlying t with
  | some (.interface _) => true
  | _ => false
def compB (P : Program) (t : TypeId) : Bool := match P.info? t with
  | some i => i.comparable
  | none => false
def intB (P : Program) (t : TypeId) : Bool := match P.underlying t with
  | some (.int _) => true
  | _ => false
theorem ifaceB_out {P : Program} {t : TypeId} (h : ifaceB P t = true) : ∃ ms, P.underlying t = some (.interface ms) := by
  unfold ifaceB at h
  split at h
  · exact ⟨_, by assumption⟩
  · cases h
theorem ifNil_out {P : Program} {op : BinOp} {t : TypeId} {v : Value} {K : Bool → Prop} (ht : ifaceB P t = true) (h : ifNil op v K) : ∃ b, K b ∧ ∀ w, (binOp op t v .nilIface).run P w = .ok (.bool b) w := by
  obtain ⟨ms, hu⟩ := ifaceB_out ht
  have hi : P.isIface t = true := by simp [Program.isIface, hu]
  unfold ifNil at h
  split at h
  · split at h
    · exact ⟨_, h, fun w => run_eql_nil_nil_at w t hi⟩
    · exact ⟨_, h, fun w => run_neq_nil_nil_at w t hi⟩
    · exact h.elim
  · split at h
    · exact ⟨_, h, fun w => run_eql_iface_nil w t hi _ _⟩
    · exact ⟨_, h, fun w => run_neq_iface_nil w t hi _ _⟩
    · exact h.elim
  · exact h.elim
theorem ifInt_out {P : Program} {op : BinOp} {t ty : TypeId} {k : IntKind} {n : Int} {v : Value} {K : Bool → Prop} (ht : ifaceB P t = true) (hc : compB P ty = true) (hn : intB P ty = true) (h : ifInt op ty k n v K) :
    ∃ b, K b ∧ ∀ w, (binOp op t v (.iface ty (.int k n))).run P w = .ok (.bool b) w := by
  obtain ⟨ms, hu⟩ := ifaceB_out ht
  have hc' : (P.info? ty).map (·.comparable) = some true := by
    unfold compB at hc
    split at hc
    · rename_i i hi
      rw [hi]
      simpa using hc
    · cases hc
  obtain ⟨q, hq⟩ : ∃ q, P.underlying ty = some (.int q) := by
    unfold intB at hn
    split at hn
    · exact ⟨_, by assumption⟩
    · cases hn
  unfold ifInt at h
  split at h
  · split at h
    · exact ⟨_, h, fun w => run_eql_iface_nil_left w ty _ hu⟩
    · refine ⟨_, h, fun w => ?_⟩
      have h : ∀ d : Nat, (Op.equalIn (d + 1) t .nilIface (.iface ty (.int k n))).run P w = .ok false w := fun d => by simp [Op.equalIn, run_underlying hu]
      simp only [binOp]
      simp [Op.equal, Op.maxDepth, h 9999]
    · exact h.elim
  · rename_i tx k' m
    obtain ⟨rfl, rfl, h⟩ := h
    split at h
    · refine ⟨_, h, fun w => ?_⟩
      rw [Lib.run_eql_iface_int w _ _ hu hc' hq]
      rfl
    · refine ⟨_, h, fun w => ?_⟩
      cases hi : P.info? tx with
      | none => simp [hi] at hc'
      | some i =>
        have hcc : i.comparable = true := by simpa [hi] using hc'
        have h : ∀ d : Nat, (Op.equalIn (d + 2) t (.iface tx (.int k' m)) (.iface tx (.int k' n))).run P w = .ok (m == n) w := fun d => by
          simp [Op.equalIn, run_underlying hu, run_underlying hq, typeInfo, hi, hcc]
        simp only [binOp]
        simp [Op.equal, Op.maxDepth, h 9998]
        rfl
    · exact h.elim
  · exact h.elim
def binQ (P : Program) (op : BinOp) (t : TypeId) (x y : Value) (K : Value → Prop) : Prop := match y with
  | .iface ty (.int k n) => bsel (ifaceB P t && compB P ty && intB P ty) (ifInt op ty k n x fun b => K (.bool b)) False
  | y => binQ0 P op t x y K
theorem binQ_out {P : Program} {op : BinOp} {t : TypeId} {x y : Value} {K : Value → Prop} (h : binQ P op t x y K) : ∃ v, K v ∧ ∀ w, (binOp op t x y).run P w = .ok v w := by
  unfold binQ at h
  split at h
  · obtain ⟨hb, h⟩ := bsel_true_out h
    simp only [Bool.and_eq_true] at hb
    obtain ⟨b, hk, hr⟩ := ifInt_out hb.1.1 hb.1.2 hb.2 h
    exact ⟨_, hk, hr⟩
  · exact binQ0_out h

def unQ (op : UnOp) (x : Value) (K : Value → Prop) : Prop := match op, x with
  | .not, .bool b => K (.bool (!b))
  | .neg, .int k n => K (.int k (k.wrap (0 - n)))
  | .xor, .int k n => K (.int k (bits .xor k (bif k.signed then -1 else k.max) n))
  | _, _ => False
theorem unQ_out {P : Program} {op : UnOp} {x : Value} {K : Value → Prop} (h : unQ op x K) : ∃ v, K v ∧ ∀ w, (Op.unary op x).run P w = .ok v w := by
  unfold unQ at h
  split at h
  · exact ⟨_, h, fun w => rfl⟩
  · exact ⟨_, h, fun w => rfl⟩
  · rename_i k n
    refine ⟨_, h, fun w => ?_⟩
    cases hk : k.signed <;> simp [Op.unary, hk, intBits_xor]
  · exact h.elim

def isU8 (P : Program) (e : TypeId) : Bool := match P.underlying e with
  | some (.int .u8) => true
  | _ => false
theorem isU8_out {P : Program} {e : TypeId} (h : isU8 P e = true) : P.underlying e = some (.int .u8) := by
  unfold isU8 at h
  split at h
  · assumption
  · cases h
/-- A slice of bytes that reads as a list of bytes. -/
def BytesAt (Rd : Addr → Value → Prop) (p : Option Addr) (n : Nat) (bs : List UInt8) : Prop :=
  bs.length = n ∧ (0 < n → ∃ a, p = some a ∧ ∀ (j : Nat) (b : UInt8), bs[j]? = some b → Rd (a.add j) (.int .u8 b.toNat))
def convQ (P : Program) (src dst : TypeId) (x : Value) (Rd : Addr → Value → Prop) (K : Value → Prop) : Prop := match x with
  | .int _ n => match P.underlying src, P.underlying dst with
    | some _, some (.int k) => K (.int k (k.wrap n))
    | _, _ => False
  | .string ⟨⟨s⟩⟩ => match P.underlying src, P.underlying dst with
    | some _, some .string => K (.string (S s))
    | _, _ => False
  | .slice p n _ => match P.underlying src, P.underlying dst with
    | some (.slice e), some .string => bsel (isU8 P e) (∃ bs : List UInt8, BytesAt Rd p n bs ∧ K (.string (S bs))) False
    | _, _ => False
  | _ => False
theorem foldl_push (bs : List UInt8) : ∀ acc : List UInt8, (bs.map fun b => (b.toNat : Int)).foldl (fun r n => r.push (UInt8.ofNat n.toNat)) (S acc) = S (acc ++ bs) := by
  induction bs with
  | nil => intro acc; simp
  | cons b r ih =>
    intro acc
    have hb : UInt8.ofNat ((b.toNat : Int)).toNat = b := by simp
    have hp : (S acc).push b = S (acc ++ [b]) := by
      show ByteArray.mk ((Array.mk acc).push b) = _
      simp
    simp only [List.map_cons, List.foldl_cons, hb, hp, ih]
    simp
theorem bytesAt_run {P : Program} {w : World} {p : Option Addr} {n c : Nat} {bs : List UInt8} (h : BytesAt (fun a v => w.cell? a = some v) p n bs) :
    (Conv.bytesToString (.slice p n c)).run P w = .ok (.string (S bs)) w := by
  obtain ⟨hl, hp⟩ := h
  cases p with
  | none =>
    have : n = 0 := by
      rcases Nat.eq_zero_or_pos n with h | h
      · exact h
      · obtain ⟨a, h, _⟩ := hp h; cases h
    subst this
    obtain rfl := List.eq_nil_of_length_eq_zero hl
    rfl
  | some a =>
    have hc : ∀ j v, (bs.map fun b => Value.int .u8 b.toNat)[j]? = some v → w.cell? (a.add j) = some v := by
      intro j v hj
      rcases Nat.eq_zero_or_pos n with h0 | h0
      · subst h0; obtain rfl := List.eq_nil_of_length_eq_zero hl; simp at hj
      · obtain ⟨a', ha, hc⟩ := hp h0
        obtain rfl := Option.some.inj ha
        simp only [List.getElem?_map, Option.map_eq_some_iff] at hj
        obtain ⟨b, hb, rfl⟩ := hj
        exact hc j b hb
    have h1 := run_loadCells_list (P := P) w a _ hc
    rw [List.length_map, hl] at h1
    have h2 : (bs.map fun b => Value.int .u8 b.toNat) = (bs.map fun b => (b.toNat : Int)).map (Value.int .u8) := by simp
    rw [h2] at h1
    rw [run_bytesToString w a n c _ h1]
    have := foldl_push bs []
    simp only [List.nil_append] at this
    exact congrArg (fun s => Result.ok (Value.string s) w) this
theorem convQ_out {P : Program} {src dst : TypeId} {x : Value} {Rd : Addr → Value → Prop} {K : Value → Prop} (h : convQ P src dst x Rd K) :
    ∃ v, K v ∧ ∀ w, RdOk Rd w → (convert src dst x).run P w = .ok v w := by
  unfold convQ at h
  split at h
  · split at h
    · rename_i hs hd
      refine ⟨_, h, fun w _ => ?_⟩
      simp [convert, run_underlying hs, run_underlying hd, Conv.intToInt]
    · exact h.elim
  · split at h
    · rename_i hs hd
      refine ⟨_, h, fun w _ => ?_⟩
      simp [convert, run_underlying hs, run_underlying hd]
    · exact h.elim
  · split at h
    · rename_i hs hd
      rw [bsel_iff] at h
      cases hu : isU8 P _ with
      | false => exact (h.2 hu).elim
      | true =>
        obtain ⟨bs, hb, hk⟩ := h.1 hu
        refine ⟨_, hk, fun w hw => ?_⟩
        rw [run_convert_bytes_string w src dst _ _ _ _ hs (isU8_out hu) hd]
        exact bytesAt_run ⟨hb.1, fun h0 => by
          obtain ⟨a, ha, hc⟩ := hb.2 h0
          exact ⟨a, ha, fun j b hj => hw _ _ (hc j b hj)⟩⟩
    · exact h.elim
  · exact h.elim

def strSl (s : List UInt8) (lo hi : Option Value) (K : Value → Prop) : Prop := match lo, hi with
  | none, none => K (.string (S s))
  | some (.int _ i), none => 0 ≤ i ∧ i ≤ s.length ∧ K (.string (S (s.drop i.toNat)))
  | none, some (.int _ j) => 0 ≤ j ∧ j ≤ s.length ∧ K (.string (S (s.take j.toNat)))
  | some (.int _ i), some (.int _ j) => 0 ≤ i ∧ i ≤ j ∧ j ≤ s.length ∧ K (.string (S ((s.drop i.toNat).take (j.toNat - i.toNat))))
  | _, _ => False
def slcSl (p : Option Addr) (n c sz : Nat) (lo hi : Option Value) (K : Value → Prop) : Prop := match lo, hi with
  | none, none => K (.slice p n c)
  | some (.int _ i), none => 0 ≤ i ∧ i ≤ n ∧ K (.slice (if c = i.toNat then p else p.map (·.add (i.toNat * sz))) (n - i.toNat) (c - i.toNat))
  | none, some (.int _ j) => 0 ≤ j ∧ j ≤ c ∧ K (.slice p j.toNat c)
  | some (.int _ i), some (.int _ j) => 0 ≤ i ∧ i ≤ j ∧ j ≤ c ∧ K (.slice (if c = i.toNat then p else p.map (·.add (i.toNat * sz))) (j.toNat - i.toNat) (c - i.toNat))
  | _, _ => False
def sliceQ (P : Program) (t : TypeId) (x : Value) (lo hi : Option Value) (K : Value → Prop) : Prop := match x with
  | .string ⟨⟨s⟩⟩ => match P.underlying t with
    | some .string => strSl s lo hi K
    | _ => False
  | .slice p n c => match P.underlying t with
    | some (.slice e) => bsel (hasInfo P e) (slcSl p n c (szOf P e) lo hi K) False
    | _ => False
  | .pointer p => match P.underlying t with
    | some (.array n e) => bsel (hasInfo P e) (someK p fun a => slcSl (some a) n n (szOf P e) lo hi K) False
    | _ => False
  | _ => False
theorem bound_run {P : Program} {k : IntKind} {i : Int} {y : Nat} {code : BoundsCode} (h0 : 0 ≤ i) (h1 : i ≤ y) (w : World) : (Instr.sliceBound (.int k i) y code).run P w = .ok i.toNat w := run_sliceBound w k i y code h0 h1
theorem bounds_none (P : Program) (b : Bool) (n c : Nat) (w : World) : (Instr.sliceBounds b n c none none none).run P w = .ok (0, n, c) w := by
  simp [Instr.sliceBounds]
theorem bounds_lo {P : Program} {k : IntKind} {i : Int} (b : Bool) {n : Nat} (c : Nat) (h0 : 0 ≤ i) (h1 : i ≤ n) (w : World) : (Instr.sliceBounds b n c (some (.int k i)) none none).run P w = .ok (i.toNat, n, c) w := by
  simp [Instr.sliceBounds, bound_run h0 h1]
theorem bounds_hi {P : Program} {k : IntKind} {j : Int} (b : Bool) (n : Nat) {c : Nat} (h0 : 0 ≤ j) (h1 : j ≤ c) (w : World) : (Instr.sliceBounds b n c none (some (.int k j)) none).run P w = .ok (0, j.toNat, c) w := by
  simp [Instr.sliceBounds, bound_run h0 h1]
theorem bounds_both {P : Program} {k k' : IntKind} {i j : Int} (b : Bool) (n : Nat) {c : Nat} (h0 : 0 ≤ i) (h1 : i ≤ j) (h2 : j ≤ c) (w : World) : (Instr.sliceBounds b n c (some (.int k i)) (some (.int k' j)) none).run P w = .ok (i.toNat, j.toNat, c) w := by
  have e : ((j.toNat : Nat) : Int) = j := Int.toNat_of_nonneg (by omega)
  have hj : 0 ≤ j := by omega
  simp [Instr.sliceBounds, bound_run hj h2, bound_run h0 (show i ≤ ((j.toNat : Nat) : Int) by omega)]
theorem strSl_out {P : Program} {t : TypeId} {s : List UInt8} {lo hi : Option Value} {K : Value → Prop} (ht : P.underlying t = some .string) (h : strSl s lo hi K) :
    ∃ v, K v ∧ ∀ w, (Instr.sliceAt t (.string (S s)) lo hi none).run P w = .ok v w := by
  have ex : ∀ a b, (S s).extract a b = S ((s.drop a).take (b - a)) := fun a b => ByteArray.extract_mk s a b
  have fin : ∀ a b w, (Instr.sliceBounds false s.length s.length lo hi none).run P w = .ok (a, b, s.length) w → (Instr.sliceAt t (.string (S s)) lo hi none).run P w = .ok (.string (S ((s.drop a).take (b - a)))) w := by
    intro a b w hb
    have hsz : (S s).size = s.length := rfl
    rw [run_sliceAt_string w t _ _ _ _ ht]
    simp only [Instr.slice, Sem.run_bind, run_underlying ht, Result.andThen_ok, Option.isSome_none, Bool.false_eq_true, if_false, hsz, hb, Sem.run_pure, ex]
  unfold strSl at h
  split at h
  · refine ⟨_, h, fun w => ?_⟩
    have := fin 0 s.length w (bounds_none ..)
    simpa using this
  · refine ⟨_, h.2.2, fun w => ?_⟩
    have := fin _ _ w (bounds_lo _ _ h.1 h.2.1 w)
    rw [this]
    rw [List.take_of_length_le (by simp)]
  · refine ⟨_, h.2.2, fun w => ?_⟩
    have := fin _ _ w (bounds_hi _ _ h.1 h.2.1 w)
    simpa using this
  · exact ⟨_, h.2.2.2, fun w => fin _ _ w (bounds_both _ _ h.1 h.2.1 h.2.2.1 w)⟩
  · exact h.elim
theorem slcSl_out {P : Program} {p : Option Addr} {n c sz : Nat} {lo hi : Option Value} {K : Value → Prop} (h : slcSl p n c sz lo hi K) :
    ∃ l j, (∀ b w, (Instr.sliceBounds b n c lo hi none).run P w = .ok (l, j, c) w) ∧ K (.slice (if c = l then p else p.map (·.add (l * sz))) (j - l) (c - l)) := by
  have z : (if c = 0 then p else p.map (·.add (0 * sz))) = p := by
    split
    · rfl
    · cases p <;> simp [Addr.add]
  unfold slcSl at h
  split at h
  · exact ⟨0, n, fun b w => bounds_none .., by rw [z]; exact h⟩
  · exact ⟨_, _, fun b w => bounds_lo b c h.1 h.2.1 w, h.2.2⟩
  · exact ⟨0, _, fun b w => bounds_hi b n h.1 h.2.1 w, by rw [z]; exact h.2.2⟩
  · exact ⟨_, _, fun b w => bounds_both b n h.1 h.2.1 h.2.2.1 w, h.2.2.2⟩
  · exact h.elim
theorem sliceQ_out {P : Program} {t : TypeId} {x : Value} {lo hi : Option Value} {K : Value → Prop} (h : sliceQ P t x lo hi K) :
    ∃ v, K v ∧ ∀ w, (Instr.sliceAt t x lo hi none).run P w = .ok v w := by
  unfold sliceQ at h
  split at h
  · split at h
    · rename_i ht; exact strSl_out ht h
    · exact h.elim
  · split at h
    · rename_i e ht
      obtain ⟨hi', h⟩ := bsel_true_out h
      obtain ⟨l, j, hb, hk⟩ := slcSl_out (P := P) h
      refine ⟨_, hk, fun w => ?_⟩
      simp only [Instr.sliceAt, Instr.slice, Sem.run_bind, run_underlying ht, Result.andThen_ok, hb, run_size hi', Sem.run_pure]
    · exact h.elim
  · split at h
    · rename_i n e ht
      obtain ⟨hi', h⟩ := bsel_true_out h
      obtain ⟨a, rfl, h⟩ := someK_out h
      obtain ⟨l, j, hb, hk⟩ := slcSl_out (P := P) h
      refine ⟨_, hk, fun w => ?_⟩
      simp only [Instr.sliceAt, Instr.sureAddr, Sem.run_bind, run_underlying ht, Result.andThen_ok, hb, run_size hi', Sem.run_pure, Option.map_some]
      split <;> rfl
    · exact h.elim
  · exact h.elim

def indexQ (P : Program) (t : TypeId) (x i : Value) (K : Value → Prop) : Prop := intK i fun _ i => match x with
  | .string ⟨⟨s⟩⟩ => match P.underlying t with
    | some .string => 0 ≤ i ∧ ∃ b : UInt8, s[i.toNat]? = some b ∧ K (.int .u8 b.toNat)
    | _ => False
  | .agg ⟨cs⟩ => match P.underlying t with
    | some (.array n e) => match P.underlying e with
      | some (.struct _) | some (.array _ _) => False
      | some _ => bsel (hasInfo P e) (0 ≤ i ∧ i < n ∧ exLeaf (leaf1 P e) fun v => cs[i.toNat * szOf P e]? = some v ∧ K v) False
      | none => False
    | _ => False
  | _ => False
theorem indexQ_out {P : Program} {t : TypeId} {x i : Value} {K : Value → Prop} (h : indexQ P t x i K) : ∃ v, K v ∧ ∀ w, (Instr.index t x i).run P w = .ok v w := by
  obtain ⟨k, i, rfl, h'⟩ := intK_out h
  clear h
  have h := h'
  clear h'
  split at h
  · rename_i s
    split at h
    · rename_i ht
      obtain ⟨h0, b, hb, hk⟩ := h
      refine ⟨_, hk, fun w => ?_⟩
      have hl : i.toNat < s.length := (List.getElem?_eq_some_iff.1 hb).1
      have hsz : (S s).size = s.length := rfl
      have hg : (S s)[i.toNat]? = some b := by
        rw [ByteArray.getElem?_lt' _ _ (by rw [hsz]; exact hl)]
        rw [List.getElem?_eq_getElem hl] at hb
        exact hb
      simp only [Instr.index, asIntOf, Sem.run_bind, Sem.run_pure, Result.andThen_ok, run_underlying ht, if_pos h0, hg]
    · exact h.elim
  · rename_i cs
    split at h
    · rename_i n e ht
      split at h
      · exact h.elim
      · exact h.elim
      · rename_i d hs ha hu
        obtain ⟨hi, h⟩ := bsel_true_out h
        obtain ⟨h0, h1, h⟩ := h
        obtain ⟨v, _, hv, hk⟩ := exLeaf_out h
        refine ⟨v, hk, fun w => ?_⟩
        have h3 := run_isAgg hu w
        have h4 : aggD d = false := by
          cases d <;> first | rfl | skip
          · rename_i n e; exact (ha n e rfl).elim
          · rename_i fs; exact (hs fs rfl).elim
        rw [h4] at h3
        simp only [Instr.index, asIntOf, Sem.run_bind, Sem.run_pure, Result.andThen_ok, run_underlying ht, if_pos (And.intro h0 h1), run_size hi, part, h3, Bool.false_eq_true, if_false, List.getElem?_toArray, hv]
      · exact h.elim
    · exact h.elim
  · exact h.elim

def indexAddrQ (P : Program) (t : TypeId) (x i : Value) (K : Value → Prop) : Prop := intK i fun _ i => match x with
  | .slice p n _ => match P.underlying t with
    | some (.slice e) => bsel (hasInfo P e) (0 ≤ i ∧ i < n ∧ someK p fun a => K (.pointer (some (a.add (i.toNat * szOf P e))))) False
    | _ => False
  | .pointer p => match P.underlying t with
    | some (.array n e) => bsel (hasInfo P e) (someK p fun a => 0 ≤ i ∧ i < n ∧ K (.pointer (some (a.add (i.toNat * szOf P e))))) False
    | _ => False
  | _ => False
theorem indexAddrQ_out {P : Program} {t : TypeId} {x i : Value} {K : Value → Prop} (h : indexAddrQ P t x i K) : ∃ v, K v ∧ ∀ w, (Instr.indexAt t x i).run P w = .ok v w := by
  obtain ⟨k, i, rfl, h'⟩ := intK_out h
  clear h
  have h := h'
  clear h'
  split at h
  · split at h
    · rename_i e ht
      obtain ⟨hi, h⟩ := bsel_true_out h
      obtain ⟨h0, h1, h⟩ := h
      obtain ⟨a, rfl, hk⟩ := someK_out h
      refine ⟨_, hk, fun w => ?_⟩
      simp only [Instr.indexAt, asIntOf, Sem.run_bind, Sem.run_pure, Result.andThen_ok, run_underlying ht, if_pos (And.intro h0 h1), run_size hi]
    · exact h.elim
  · split at h
    · rename_i n e ht
      obtain ⟨hi, h⟩ := bsel_true_out h
      obtain ⟨a, rfl, h0, h1, hk⟩ := someK_out h
      refine ⟨_, hk, fun w => ?_⟩
      simp only [Instr.indexAt, Instr.sureAddr, asIntOf, Sem.run_bind, Sem.run_pure, Result.andThen_ok, run_underlying ht, if_pos (And.intro h0 h1), run_size hi]
    · exact h.elim
  · exact h.elim

def fieldAddrQ (P : Program) (s : TypeId) (x : Value) (f : Nat) (K : Value → Prop) : Prop := match P.underlying s with
  | some (.struct ⟨fs⟩) => match fs[f]? with
    | some fl => bsel (hasInfo P fl.type) (bsel (Nat.beq (szOf P fl.type) 0) False (ptrK x fun a => K (.pointer (some (a.add fl.offset))))) False
    | none => False
  | _ => False
theorem fieldAddrQ_out {P : Program} {s : TypeId} {x : Value} {f : Nat} {K : Value → Prop} (h : fieldAddrQ P s x f K) : ∃ v, K v ∧ ∀ w, (Instr.fieldAt s x f).run P w = .ok v w := by
  unfold fieldAddrQ at h
  split at h
  · rename_i fs hu
    split at h
    · rename_i fl hf
      obtain ⟨hi, h⟩ := bsel_true_out h
      rw [bsel_iff] at h
      cases hz : Nat.beq (szOf P fl.type) 0 with
      | true => exact (h.1 hz).elim
      | false =>
        obtain ⟨a, rfl, hk⟩ := ptrK_out (h.2 hz)
        refine ⟨_, hk, fun w => ?_⟩
        have hne : ¬ szOf P fl.type = 0 := fun e => by rw [e] at hz; cases hz
        simp only [Instr.fieldAt, Instr.sureAddr, Sem.run_bind, Sem.run_pure, Result.andThen_ok, run_underlying hu, List.getElem?_toArray, hf, fieldPlace, run_size hi, if_neg hne]
    · exact h.elim
  · exact h.elim

def fieldQ (P : Program) (s : TypeId) (x : Value) (f : Nat) (K : Value → Prop) : Prop := match P.underlying s, x with
  | some (.struct ⟨fs⟩), .agg ⟨cs⟩ => match fs[f]? with
    | some fl => match P.underlying fl.type with
      | some (.struct _) | some (.array _ _) => bsel (hasInfo P fl.type) (K (.agg ⟨(cs.drop fl.offset).take (szOf P fl.type)⟩)) False
      | some _ => getK cs fl.offset K
      | none => False
    | none => False
  | _, _ => False
theorem fieldQ_out {P : Program} {s : TypeId} {x : Value} {f : Nat} {K : Value → Prop} (h : fieldQ P s x f K) : ∃ v, K v ∧ ∀ w, (Instr.field s x f).run P w = .ok v w := by
  unfold fieldQ at h
  split at h
  · rename_i fs cs hu
    split at h
    · rename_i fl hf
      have big : ∀ d, P.underlying fl.type = some d → aggD d = true → bsel (hasInfo P fl.type) (K (.agg ⟨(cs.drop fl.offset).take (szOf P fl.type)⟩)) False → ∃ v, K v ∧ ∀ w, (Instr.field s (.agg ⟨cs⟩) f).run P w = .ok v w := by
        intro d hd ha h
        obtain ⟨hi, h⟩ := bsel_true_out h
        refine ⟨_, h, fun w => ?_⟩
        have h3 := run_isAgg hd w
        rw [ha] at h3
        have hx : (Array.mk cs).extract fl.offset (fl.offset + szOf P fl.type) = ⟨(cs.drop fl.offset).take (szOf P fl.type)⟩ := by
          apply Array.ext'
          simp [List.extract_eq_take_drop]
        simp only [Instr.field, asAgg, part, Sem.run_bind, Sem.run_pure, Result.andThen_ok, run_underlying hu, List.getElem?_toArray, hf, h3, if_true, run_size hi, hx]
      split at h
      · rename_i hd; exact big _ hd rfl h
      · rename_i hd; exact big _ hd rfl h
      · rename_i d hs ha hd
        obtain ⟨v, hv, hk⟩ := getK_out h
        refine ⟨v, hk, fun w => ?_⟩
        have h3 := run_isAgg hd w
        have h4 : aggD d = false := by
          cases d <;> first | rfl | skip
          · rename_i n e; exact (ha n e rfl).elim
          · rename_i fs; exact (hs fs rfl).elim
        rw [h4] at h3
        simp only [Instr.field, asAgg, part, Sem.run_bind, Sem.run_pure, Result.andThen_ok, run_underlying hu, List.getElem?_toArray, hf, h3, Bool.false_eq_true, if_false, hv]
      · exact h.elim
    · exact h.elim
  · exact h.elim

def nilQ (x : Value) (K : Value → Prop) : Prop := match x with
  | .pointer p => someK p fun a => K (.pointer (some a))
  | .func (.func f) first cap => K (.func (.func f) first cap)
  | _ => False
/-- An assertion that holds, of a type that is no interface. -/
def assertQ (P : Program) (to : TypeId) (x : Value) (K : Value → Prop) : Prop := match P.underlying to with
  | some (.interface _) => False
  | some _ => match x with
    | .iface t v => bsel (Nat.beq t to) (K v) False
    | _ => False
  | none => False
theorem assertQ_out {P : Program} {from_ to : TypeId} {x : Value} {K : Value → Prop} (h : assertQ P to x K) : ∃ v, K v ∧ ∀ w, (Instr.typeAssert x from_ to false).run P w = .ok v w := by
  unfold assertQ at h
  split at h
  · exact h.elim
  · rename_i d hn hu
    split at h
    · rename_i t v
      obtain ⟨hb, hk⟩ := bsel_true_out h
      obtain rfl := Nat.eq_of_beq_eq_true hb
      refine ⟨v, hk, fun w => ?_⟩
      simp only [Instr.typeAssert, Sem.run_bind, run_underlying hu, Result.andThen_ok]
      cases d <;> first | (simp; done) | (rename_i ms; exact (hn ms rfl).elim)
    · exact h.elim
  · exact h.elim
def extractQ (x : Value) (i : Nat) (K : Value → Prop) : Prop := match x with
  | .tuple ⟨vs⟩ => getK vs i K
  | _ => False
def ifaceQ (P : Program) (t : TypeId) (x : Value) (K : Value → Prop) : Prop := match P.underlying t with
  | some (.interface _) => False
  | some _ => K (.iface t x)
  | none => False
def pickQ (c a b : Value) (K : Value → Prop) : Prop := match c with
  | .bool c => bsel c (K a) (K b)
  | _ => False
/-- The builtins that leave the world alone. -/
def builtinQ (P : Program) (b : Builtin) (ts : List TypeId) (vs : List Value) (K : Value → Prop) : Prop := match b, ts, vs with
  | .len, [t], [.string ⟨⟨s⟩⟩] => match P.underlying t with
    | some .string => K (.int .i64 s.length)
    | _ => False
  | .len, [t], [.slice _ n _] => match P.underlying t with
    | some (.slice _) => K (.int .i64 n)
    | _ => False
  | .cap, [t], [.slice _ _ c] => match P.underlying t with
    | some (.slice _) => K (.int .i64 c)
    | _ => False
  | .unsafeSliceData, _, [.slice p _ c] => (p = none ∨ c ≠ 0) ∧ K (.pointer p)
  | .max, _, [.int k x, .int _ y] => K (.int k (if y > x then y else x))
  | .min, _, [.int k x, .int _ y] => K (.int k (if y < x then y else x))
  | _, _, _ => False
theorem builtinQ_out {P : Program} {b : Builtin} {ts : List TypeId} {t : TypeId} {cs : Array Bool} {vs : List Value} {K : Value → Prop} (h : builtinQ P b ts vs K) :
    ∃ v, K v ∧ ∀ w, (builtin b ⟨ts⟩ t cs ⟨vs⟩).run P w = .ok (.value v) w := by
  unfold builtinQ at h
  split at h
  · split at h
    · rename_i hu
      refine ⟨_, h, fun w => ?_⟩
      have hl := fun w s => run_len_string (P := P) w _ t (S s) hu
      simp only [builtin, Sem.run_bind, hl, Result.andThen_ok, Sem.run_pure]
      rfl
    · exact h.elim
  · split at h
    · rename_i hu
      refine ⟨_, h, fun w => ?_⟩
      simp [builtin, Builtin.len_, run_underlying hu, goInt]
    · exact h.elim
  · split at h
    · rename_i hu
      refine ⟨_, h, fun w => ?_⟩
      simp [builtin, Builtin.cap_, run_underlying hu, goInt]
    · exact h.elim
  · rename_i p n c
    obtain ⟨h0, h⟩ := h
    refine ⟨_, h, fun w => ?_⟩
    have e : (Builtin.unsafeSliceData_ ⟨ts⟩ t #[.slice p n c]).run P w = .ok (.pointer p) w := by
      cases p with
      | none => exact Lib.run_unsafeSliceData_nil w _ _ _ _
      | some a => exact Lib.run_unsafeSliceData_row w _ _ _ _ _ (by simpa using h0)
    simp only [builtin, Sem.run_bind, e, Result.andThen_ok, Sem.run_pure]
  · refine ⟨_, h, fun w => ?_⟩
    simp [builtin, Builtin.max_, Builtin.max2]
  · refine ⟨_, h, fun w => ?_⟩
    simp [builtin, Builtin.min_, Builtin.min2]
  · exact h.elim

def cellsOf : Value → List Value
  | .agg ⟨cs⟩ => cs
  | v => [v]
theorem cellsOf_eq (v : Value) : v.cells = ⟨cellsOf v⟩ := by cases v <;> rfl
def zeroOf (P : Program) (t : TypeId) : List Value := match P.info? t with
  | some i => match i.zero with
    | some z => cellsOf z
    | none => []
  | none => []
def hasZero (P : Program) (t : TypeId) : Bool := match P.info? t with
  | some i => match i.zero with
    | some _ => true
    | none => false
  | none => false
theorem hasZero_out {P : Program} {t : TypeId} (h : hasZero P t = true) : ∃ i z, P.info? t = some i ∧ i.zero = some z ∧ cellsOf z = zeroOf P t := by
  unfold hasZero at h
  unfold zeroOf
  cases hi : P.info? t with
  | none => simp [hi] at h
  | some i =>
    cases hz : i.zero with
    | none => simp [hi, hz] at h
    | some z => exact ⟨i, z, rfl, hz, by simp [hz]⟩
theorem run_zero {P : Program} {t : TypeId} (h : hasZero P t = true) : ∃ z, cellsOf z = zeroOf P t ∧ ∀ w, (zeroValue t).run P w = .ok z w := by
  obtain ⟨i, z, hi, hz, hc⟩ := hasZero_out h
  exact ⟨z, hc, fun w => by simp [zeroValue, typeInfo, hi, hz]⟩
def spliceK (l : Fr) : Nat → List Value → (Fr → Prop) → Prop
  | _, [], K => K l
  | n, v :: r, K => setK l n v fun l' => spliceK l' (n + 1) r K
def spl (l : Fr) : Nat → List Value → Fr
  | _, [] => l
  | n, v :: r => spl (l.set n v) (n + 1) r
theorem spliceK_out {vs : List Value} : ∀ {l : Fr} {n : Nat} {K : Fr → Prop}, spliceK l n vs K → K (spl l n vs) := by
  induction vs with
  | nil => intro l n K h; exact h
  | cons v r ih => intro l n K h; exact ih (setK_out h)
theorem spl_fold (vs : List Value) : ∀ (l : Fr) (off k : Nat), ((vs.zipIdx k).foldl (fun (cs : Array Value) (x : Value × Nat) => cs.setIfInBounds (off + x.2) x.1) ⟨l⟩) = ⟨spl l (off + k) vs⟩ := by
  induction vs with
  | nil => intro l off k; rfl
  | cons v r ih =>
    intro l off k
    simp only [List.zipIdx_cons, List.foldl_cons, spl, List.setIfInBounds_toArray]
    have := ih (l.set (off + k) v) off (k + 1)
    rwa [← Nat.add_assoc] at this
theorem spl_array (vs : List Value) (l : Fr) (off : Nat) : (((Array.mk vs).zipIdx).foldl (fun (cs : Array Value) (x : Value × Nat) => cs.setIfInBounds (off + x.2) x.1) ⟨l⟩) = ⟨spl l off vs⟩ := by
  have h1 : (Array.mk vs).zipIdx = ⟨vs.zipIdx⟩ := by
    apply Array.ext'
    simp
  rw [h1]
  have := spl_fold vs l off 0
  simpa using this
def fillK (place : Nat → Option (Nat × Nat)) : Fr → List (Nat × Value) → (Fr → Prop) → Prop
  | l, [], K => K l
  | l, (i, v) :: r, K => match place i with
    | some (off, size) => bsel (Nat.beq (cellsOf v).length size && Nat.ble (off + (cellsOf v).length) l.length) (spliceK l off (cellsOf v) fun l' => fillK place l' r K) False
    | none => False
theorem fillK_out {place : Nat → Option (Nat × Nat)} {parts : List (Nat × Value)} : ∀ {l : Fr} {K : Fr → Prop}, fillK place l parts K → ∃ l', Instr.fill place ⟨l⟩ parts = some ⟨l'⟩ ∧ K l' := by
  induction parts with
  | nil => intro l K h; exact ⟨l, rfl, h⟩
  | cons x r ih =>
    intro l K h
    obtain ⟨i, v⟩ := x
    simp only [fillK] at h
    split at h
    · rename_i off size hp
      obtain ⟨hb, h⟩ := bsel_true_out h
      rw [Bool.and_eq_true] at hb
      have h1 := Nat.eq_of_beq_eq_true hb.1
      have h2 := Nat.le_of_ble_eq_true hb.2
      obtain ⟨l', h3, h4⟩ := ih (spliceK_out h)
      refine ⟨l', ?_, h4⟩
      have h5 : ¬ (off + (cellsOf v).length > l.length) := by omega
      simp only [Instr.fill, hp, cellsOf_eq, List.size_toArray, ne_eq, h1, not_true_eq_false, decide_false, Bool.false_or]
      rw [if_neg (by simpa [h1] using h2)]
      rw [spl_array]
      exact h3
    · exact h.elim
def partsK (l : Fr) : List (Nat × Operand) → (List (Nat × Value) → Prop) → Prop
  | [], K => K []
  | (i, x) :: r, K => opK l x fun v => partsK l r fun vs => K ((i, v) :: vs)
theorem partsK_out {l : Fr} {ds : List Deferred} {xs : List (Nat × Operand)} {K : List (Nat × Value) → Prop} (h : partsK l xs K) : K (xs.map fun x => (x.1, (act l ds).eval x.2)) := by
  induction xs generalizing K with
  | nil => exact h
  | cons x r ih => exact ih (opK_out (ds := ds) h)
def allInfo (P : Program) : List Field → Bool
  | [] => true
  | f :: r => hasInfo P f.type && allInfo P r
def placeOf (P : Program) (fs : List Field) (i : Nat) : Option (Nat × Nat) := match fs[i]? with
  | some f => some (f.offset, szOf P f.type)
  | none => none
def buildQ (P : Program) (t : TypeId) (parts : List (Nat × Value)) (K : Value → Prop) : Prop := match P.underlying t with
  | some (.struct ⟨fs⟩) => bsel (allInfo P fs && hasZero P t) (fillK (placeOf P fs) (zeroOf P t) parts fun l => K (.agg ⟨l⟩)) False
  | some (.array _ e) => bsel (hasInfo P e && hasZero P t) (fillK (fun i => some (i * szOf P e, szOf P e)) (zeroOf P t) parts fun l => K (.agg ⟨l⟩)) False
  | _ => False
theorem places_run {P : Program} {fs : List Field} (h : allInfo P fs = true) (w : World) :
    ((Array.mk fs).mapM fun f => (do pure (f.offset, ← sizeOf f.type) : Sem (Nat × Nat))).run P w = .ok ⟨fs.map fun f => (f.offset, szOf P f.type)⟩ w := by
  rw [Array.mapM_eq_mapM_toList]
  simp only [Sem.run_map]
  have : ∀ fs : List Field, allInfo P fs = true → (fs.mapM fun f => (do pure (f.offset, ← sizeOf f.type) : Sem (Nat × Nat))).run P w = .ok (fs.map fun f => (f.offset, szOf P f.type)) w := by
    intro fs
    induction fs with
    | nil => intro _; rfl
    | cons f r ih =>
      intro h
      simp only [allInfo, Bool.and_eq_true] at h
      simp only [List.mapM_cons, Sem.run_bind, run_size h.1, Result.andThen_ok, Sem.run_pure, ih h.2, List.map_cons]
  rw [this fs h]
  rfl
theorem buildQ_out {P : Program} {t : TypeId} {parts : List (Nat × Value)} {K : Value → Prop} (h : buildQ P t parts K) : ∃ v, K v ∧ ∀ w, (Instr.build t ⟨parts⟩).run P w = .ok v w := by
  unfold buildQ at h
  split at h
  · rename_i fs hu
    obtain ⟨hb, h⟩ := bsel_true_out h
    rw [Bool.and_eq_true] at hb
    obtain ⟨z, hz, hr⟩ := run_zero hb.2
    obtain ⟨l', h1, h2⟩ := fillK_out h
    refine ⟨_, h2, fun w => ?_⟩
    have hpl : (fun x : Nat => (Array.mk (fs.map fun f => (f.offset, szOf P f.type)))[x]?) = placeOf P fs := by
      funext i
      simp only [placeOf, List.getElem?_toArray, List.getElem?_map]
      cases fs[i]? <;> rfl
    simp only [Instr.build, Sem.run_bind, hr, Result.andThen_ok, run_underlying hu, places_run hb.1, hpl, cellsOf_eq, hz, h1, Sem.run_pure]
  · rename_i n e hu
    obtain ⟨hb, h⟩ := bsel_true_out h
    rw [Bool.and_eq_true] at hb
    obtain ⟨z, hz, hr⟩ := run_zero hb.2
    obtain ⟨l', h1, h2⟩ := fillK_out h
    refine ⟨_, h2, fun w => ?_⟩
    simp only [Instr.build, Sem.run_bind, hr, Result.andThen_ok, run_underlying hu, run_size hb.1, cellsOf_eq, hz, h1, Sem.run_pure]
  · exact h.elim

/-- An operation that leaves the world alone: 'Rd' tells what memory holds. -/
def opq (P : Program) (l : Fr) (o : Oper) (Rd : Addr → Value → Prop) (K : Value → Prop) : Prop := match o.op with
  | .move x | .assign x => opK l x K
  | .pick c a b => opK l c fun c => opK l a fun a => opK l b fun b => pickQ c a b K
  | .load t x => opK l x fun x => ptrK x fun a => loadQ P t a Rd K
  | .nilCheck x => opK l x fun x => nilQ x K
  | .binOp op t x (.const .nilIface) _ => opK l x fun v => bsel (ifaceB P t) (ifNil op v fun b => K (.bool b)) False
  | .binOp op t x y _ => opK l x fun x => opK l y fun y => binQ P op t x y K
  | .unOp op _ x => opK l x fun x => unQ op x K
  | .convert s d x => opK l x fun x => convQ P s d x Rd K
  | .slice t x lo hi none => opK l x fun x => (match lo with
    | none => match hi with
      | none => sliceQ P t x none none K
      | some hi => opK l hi fun hi => sliceQ P t x none (some hi) K
    | some lo => opK l lo fun lo => match hi with
      | none => sliceQ P t x (some lo) none K
      | some hi => opK l hi fun hi => sliceQ P t x (some lo) (some hi) K)
  | .fieldAddr s x f => opK l x fun x => fieldAddrQ P s x f K
  | .field s x f => opK l x fun x => fieldQ P s x f K
  | .indexAddr t x i => opK l x fun x => opK l i fun i => indexAddrQ P t x i K
  | .index t x i => opK l x fun x => opK l i fun i => indexQ P t x i K
  | .extract x i => opK l x fun x => extractQ x i K
  | .typeAssert x _ to false => opK l x fun x => assertQ P to x K
  | .makeInterface t x => opK l x fun x => ifaceQ P t x K
  | .makeFunc fn ⟨first⟩ ⟨cap⟩ => opsK l first fun first => opsK l cap fun cap => K (.func fn ⟨first⟩ ⟨cap⟩)
  | .call ⟨.builtin b, ⟨xs⟩, ⟨ts⟩⟩ => opsK l xs fun vs => builtinQ P b ts vs K
  | .build t ⟨parts⟩ => partsK l parts fun ps => buildQ P t ps K
  | _ => False
theorem execV {s : Sem Value} {P : Program} {v : Value} {w : World} (h : s.run P w = .ok v w) : (do pure (Next.value (← s)) : Sem Next).run P w = .ok (.value v) w := by
  simp only [Sem.run_bind, h, Result.andThen_ok, Sem.run_pure]
theorem opq_out {P : Program} {l : Fr} {ds : List Deferred} {o : Oper} {Rd : Addr → Value → Prop} {K : Value → Prop} (h : opq P l o Rd K) :
    ∃ v, K v ∧ ∀ w, RdOk Rd w → (execOp (act l ds).eval o).run P w = .ok (.value v) w := by
  unfold opq at h
  split at h
  · rename_i x ho
    exact ⟨_, opK_out (ds := ds) h, fun w _ => by simp only [execOp, ho, Sem.run_pure]⟩
  · rename_i x ho
    exact ⟨_, opK_out (ds := ds) h, fun w _ => by simp only [execOp, ho, Sem.run_pure]⟩
  · rename_i c a b ho
    have h := opK_out (ds := ds) (opK_out (ds := ds) (opK_out (ds := ds) h))
    unfold pickQ at h
    split at h
    · rename_i x c hc
      rw [bsel_iff] at h
      cases c
      · exact ⟨_, h.2 rfl, fun w _ => by simp only [execOp, ho, hc, asBool, Sem.run_bind, Sem.run_pure, Result.andThen_ok, Bool.false_eq_true, if_false]⟩
      · exact ⟨_, h.1 rfl, fun w _ => by simp only [execOp, ho, hc, asBool, Sem.run_bind, Sem.run_pure, Result.andThen_ok, if_true]⟩
    · exact h.elim
  · rename_i t x ho
    obtain ⟨a, ha, h⟩ := ptrK_out (opK_out (ds := ds) h)
    obtain ⟨v, hk, hr⟩ := loadQ_out h
    refine ⟨v, hk, fun w hw => ?_⟩
    simp only [execOp, ho, ha]
    exact execV (by simp only [Instr.loadAt, Instr.sureAddr, Sem.run_bind, Sem.run_pure, Result.andThen_ok, hr w hw])
  · rename_i x ho
    have h := opK_out (ds := ds) h
    unfold nilQ at h
    split at h
    · rename_i y p hx
      obtain ⟨a, rfl, hk⟩ := someK_out h
      exact ⟨_, hk, fun w _ => by simp only [execOp, ho, hx, Sem.run_pure]⟩
    · rename_i y f first cap hx
      exact ⟨_, h, fun w _ => by simp only [execOp, ho, hx, Sem.run_pure]⟩
    · exact h.elim
  · rename_i op t x yt ho
    obtain ⟨hb, h⟩ := bsel_true_out (opK_out (ds := ds) h)
    obtain ⟨b, hk, hr⟩ := ifNil_out hb h
    refine ⟨_, hk, fun w _ => ?_⟩
    simp only [execOp, ho]
    refine execV ?_
    have hg : (eqGuard op t x (.const .nilIface) ((act l ds).eval x) ((act l ds).eval (.const .nilIface))).run P w = .ok () w := by
      show (eqGuard op t x (.const .nilIface) ((act l ds).eval x) .nilIface).run P w = .ok () w
      unfold eqGuard
      cases op <;> first | rfl | skip
      all_goals (generalize (act l ds).eval x = vx; cases vx <;> simp)
    have hr' : (binOp op t ((act l ds).eval x) ((act l ds).eval (.const .nilIface))).run P w = .ok (.bool b) w := hr w
    simp only [Sem.run_bind, hg, Result.andThen_ok, hr']
  · rename_i op t x y yt _ ho
    obtain ⟨v, hk, hr⟩ := binQ_out (P := P) (opK_out (ds := ds) (opK_out (ds := ds) h))
    refine ⟨v, hk, fun w _ => ?_⟩
    simp only [execOp, ho]
    refine execV ?_
    have hg : (eqGuard op t x y ((act l ds).eval x) ((act l ds).eval y)).run P w = .ok () w := by
      have h := opK_out (ds := ds) (opK_out (ds := ds) h)
      unfold binQ at h
      split at h
      · rename_i e
        rw [e]
        generalize (act l ds).eval x = vx
        unfold eqGuard
        cases op <;> first | rfl | (cases vx <;> simp)
      · unfold binQ0 at h
        split at h <;> rename_i e1 e2 <;> first
          | (rw [e1]; cases op <;> rfl)
          | exact h.elim
          | (rw [e1, e2]; exact run_eqGuard_agg w op t x y _ _ (structQ_out h).1)
    simp only [Sem.run_bind, hg, Result.andThen_ok, hr w]
  · rename_i op t x ho
    obtain ⟨v, hk, hr⟩ := unQ_out (P := P) (opK_out (ds := ds) h)
    exact ⟨v, hk, fun w _ => by simp only [execOp, ho]; exact execV (hr w)⟩
  · rename_i s d x ho
    obtain ⟨v, hk, hr⟩ := convQ_out (P := P) (opK_out (ds := ds) h)
    exact ⟨v, hk, fun w hw => by simp only [execOp, ho]; exact execV (hr w hw)⟩
  · rename_i t x lo hi ho
    have h := opK_out (ds := ds) h
    have h' : sliceQ P t ((act l ds).eval x) (lo.map (act l ds).eval) (hi.map (act l ds).eval) K := by
      cases lo with
      | none => cases hi with
        | none => exact h
        | some hi => exact opK_out (ds := ds) h
      | some lo =>
        have h := opK_out (ds := ds) h
        cases hi with
        | none => exact h
        | some hi => exact opK_out (ds := ds) h
    obtain ⟨v, hk, hr⟩ := sliceQ_out h'
    exact ⟨v, hk, fun w _ => by simp only [execOp, ho, Option.map_none]; exact execV (hr w)⟩
  · rename_i s x f ho
    obtain ⟨v, hk, hr⟩ := fieldAddrQ_out (opK_out (ds := ds) h)
    exact ⟨v, hk, fun w _ => by simp only [execOp, ho]; exact execV (hr w)⟩
  · rename_i s x f ho
    obtain ⟨v, hk, hr⟩ := fieldQ_out (opK_out (ds := ds) h)
    exact ⟨v, hk, fun w _ => by simp only [execOp, ho]; exact execV (hr w)⟩
  · rename_i t x i ho
    obtain ⟨v, hk, hr⟩ := indexAddrQ_out (opK_out (ds := ds) (opK_out (ds := ds) h))
    exact ⟨v, hk, fun w _ => by simp only [execOp, ho]; exact execV (hr w)⟩
  · rename_i t x i ho
    obtain ⟨v, hk, hr⟩ := indexQ_out (opK_out (ds := ds) (opK_out (ds := ds) h))
    exact ⟨v, hk, fun w _ => by simp only [execOp, ho]; exact execV (hr w)⟩
  · rename_i x i ho
    have h := opK_out (ds := ds) h
    unfold extractQ at h
    split at h
    · rename_i y vs hx
      obtain ⟨v, hv, hk⟩ := getK_out h
      exact ⟨v, hk, fun w _ => by simp only [execOp, ho, hx]; exact execV (by simp only [Instr.extract, List.getElem?_toArray, hv, Sem.run_pure])⟩
    · exact h.elim
  · rename_i x tf to ho
    obtain ⟨v, hk, hr⟩ := assertQ_out (P := P) (from_ := tf) (opK_out (ds := ds) h)
    exact ⟨v, hk, fun w _ => by simp only [execOp, ho]; exact execV (hr w)⟩
  · rename_i t x ho
    have h := opK_out (ds := ds) h
    unfold ifaceQ at h
    split at h
    · exact h.elim
    · rename_i d hn hu
      refine ⟨_, h, fun w _ => ?_⟩
      simp only [execOp, ho]
      refine execV ?_
      simp only [Instr.makeInterface, Sem.run_bind, run_underlying hu, Result.andThen_ok]
      cases d <;> first | rfl | (rename_i ms; exact (hn ms rfl).elim)
    · exact h.elim
  · rename_i fn first cap ho
    have h := opsK_out (ds := ds) (opsK_out (ds := ds) h)
    refine ⟨_, h, fun w _ => ?_⟩
    simp only [execOp, ho]
    refine execV ?_
    simp only [Instr.makeFunc, Sem.run_pure, List.map_toArray]
  · rename_i b xs ts ho
    have h := opsK_out (ds := ds) h
    obtain ⟨v, hk, hr⟩ := builtinQ_out (P := P) (t := o.type) (cs := (Array.mk xs).map fun | .const _ => true | _ => false) h
    refine ⟨v, hk, fun w _ => ?_⟩
    simp only [execOp, ho, resolve, invoke, Sem.run_bind, Sem.run_pure, Result.andThen_ok, List.map_toArray] at hr ⊢
    exact hr w
  · rename_i t parts ho
    obtain ⟨v, hk, hr⟩ := buildQ_out (partsK_out (ds := ds) h)
    refine ⟨v, hk, fun w _ => ?_⟩
    simp only [execOp, ho]
    refine execV ?_
    have := hr w
    simpa [List.map_toArray] using this
  · exact h.elim
end Go.Proofs.YtgincpkggnndeaaGreatDoor.Vc
