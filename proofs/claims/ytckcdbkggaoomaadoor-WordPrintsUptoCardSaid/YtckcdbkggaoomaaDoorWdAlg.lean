/- Parts side by side: texts that are merged, parts that are quoted. Plain law; no program is named. Conditions: none. -/
import Derived.Test.YtckcdbkggaoomaaDoorWd
namespace Go.Proofs.YtckcdbkggaoomaaDoor

/-- Two texts that would be one. -/
def Mg (x p : Pt) : Prop := p.k = 0 ∧ x.k = 0 ∧ x.q = p.q
theorem addP_nil (p : Pt) : addP [] p = [p] := rfl
theorem addP_snoc (l : List Pt) (x p : Pt) : addP (l ++ [x]) p = if p.k = 0 ∧ x.k = 0 ∧ x.q = p.q then l ++ [.mk x.k x.q (x.t ++ p.t) x.n x.o x.w] else l ++ [x] ++ [p] := by
  unfold addP
  simp
theorem snoc_of {l : List Pt} (h : l ≠ []) : ∃ m x, l = m ++ [x] := ⟨l.dropLast, l.getLast h, (List.dropLast_concat_getLast h).symm⟩
theorem addP_tx (acc : List Pt) (q : Bool) (a b : Txt) : addP (addP acc (tx q a)) (tx q b) = addP acc (tx q (a ++ b)) := by
  by_cases h : acc = []
  · subst h
    rw [addP_nil, addP_nil]
    have := addP_snoc [] (tx q a) (tx q b)
    simp only [List.nil_append] at this
    rw [this, if_pos ⟨rfl, rfl, rfl⟩]
    rfl
  · obtain ⟨l, x, rfl⟩ := snoc_of h
    rw [addP_snoc, addP_snoc]
    by_cases hx : x.k = 0 ∧ x.q = q
    · rw [if_pos ⟨rfl, hx.1, hx.2⟩, if_pos ⟨rfl, hx.1, hx.2⟩, addP_snoc, if_pos ⟨rfl, hx.1, hx.2⟩]
      simp only [Pt.t, Pt.k, Pt.q, Pt.n, Pt.o, Pt.w, tx, List.append_assoc]
    · rw [if_neg fun h => hx ⟨h.2.1, h.2.2⟩, if_neg fun h => hx ⟨h.2.1, h.2.2⟩, addP_snoc, if_pos ⟨rfl, rfl, rfl⟩]
      rfl
/-- No two texts side by side that would be one. -/
def Norm : List Pt → Prop
  | [] => True
  | [_] => True
  | a :: b :: r => ¬ Mg a b ∧ Norm (b :: r)
theorem Norm.tail {a : Pt} {r : List Pt} (h : Norm (a :: r)) : Norm r := by
  cases r with
  | nil => trivial
  | cons b r => exact h.2
theorem Norm.snoc : ∀ {l : List Pt} {x p : Pt}, Norm (l ++ [x]) → ¬ Mg x p → Norm (l ++ [x] ++ [p])
  | [], x, p, _, h => ⟨h, trivial⟩
  | [a], x, p, h, h2 => ⟨h.1, h2, trivial⟩
  | a :: b :: l, x, p, h, h2 => ⟨h.1, Norm.snoc (l := b :: l) h.2 h2⟩
theorem Norm.left : ∀ {l m : List Pt}, Norm (l ++ m) → Norm l
  | [], _, _ => trivial
  | [a], _, _ => trivial
  | a :: b :: l, m, h => ⟨h.1, Norm.left (l := b :: l) h.2⟩
theorem Norm.right : ∀ {l m : List Pt}, Norm (l ++ m) → Norm m
  | [], _, h => h
  | a :: l, m, h => Norm.right (l := l) (Norm.tail h)
theorem Norm.swap : ∀ {l : List Pt} {x y : Pt}, Norm (l ++ [x]) → x.k = y.k → x.q = y.q → Norm (l ++ [y])
  | [], x, y, _, _, _ => trivial
  | [a], x, y, h, h1, h2 => ⟨fun m => h.1 ⟨by rw [h1]; exact m.1, m.2.1, by rw [h2]; exact m.2.2⟩, trivial⟩
  | a :: b :: l, x, y, h, h1, h2 => ⟨h.1, Norm.swap (l := b :: l) h.2 h1 h2⟩
theorem Norm.add {l : List Pt} {p : Pt} (h : Norm l) : Norm (addP l p) := by
  by_cases hl : l = []
  · subst hl; trivial
  · obtain ⟨m, x, rfl⟩ := snoc_of hl
    rw [addP_snoc]
    split
    · exact h.swap rfl rfl
    · rename_i hn
      exact h.snoc hn
theorem Norm.fold : ∀ {l acc : List Pt}, Norm acc → Norm (l.foldl addP acc)
  | [], _, h => h
  | p :: l, _, h => Norm.fold (l := l) h.add
theorem Norm.edge {l : List Pt} {x p : Pt} {r : List Pt} (h : Norm (l ++ [x] ++ p :: r)) : ¬ Mg x p := by
  have : Norm ([x] ++ p :: r) := Norm.right (l := l) (by simpa using h)
  exact this.1
theorem fold_norm : ∀ {l acc : List Pt}, Norm (acc ++ l) → l.foldl addP acc = acc ++ l
  | [], acc, _ => (List.append_nil acc).symm
  | p :: l, acc, h => by
    have e : addP acc p = acc ++ [p] := by
      by_cases ha : acc = []
      · subst ha; rfl
      · obtain ⟨m, x, rfl⟩ := snoc_of ha
        rw [addP_snoc, if_neg (show ¬ (p.k = 0 ∧ x.k = 0 ∧ x.q = p.q) from Norm.edge h)]
    rw [List.foldl_cons, e]
    have := fold_norm (l := l) (acc := acc ++ [p]) (by simpa using h)
    rw [this]
    simp
theorem qdL_fold : ∀ (l acc : List Pt), qdL acc l = (l.map Pt.qd).foldl addP acc
  | [], _ => by simp [qdL]
  | p :: l, acc => by rw [qdL, qdL_fold l]; rfl
theorem qdL_norm {l acc : List Pt} (h : Norm acc) : Norm (qdL acc l) := by
  rw [qdL_fold]
  exact Norm.fold h
theorem Pt.qd_q (p : Pt) : p.qd.q = true := by cases p; rfl
theorem Pt.qd_k (p : Pt) : p.qd.k = p.k := by cases p; rfl
/-- What holds of each part, and of merged ones, holds of all that are added. -/
theorem all_add {V : Pt → Prop} (hm : ∀ x p : Pt, V x → V p → Mg x p → V (.mk x.k x.q (x.t ++ p.t) x.n x.o x.w)) {l : List Pt} {p : Pt} (hl : ∀ x ∈ l, V x) (hp : V p) : ∀ x ∈ addP l p, V x := by
  by_cases h : l = []
  · subst h
    intro x hx
    rw [addP_nil] at hx
    obtain rfl := List.mem_singleton.1 hx
    exact hp
  · obtain ⟨m, y, rfl⟩ := snoc_of h
    rw [addP_snoc]
    intro x hx
    split at hx
    · rename_i hg
      rcases List.mem_append.1 hx with hx | hx
      · exact hl x (List.mem_append_left _ hx)
      · obtain rfl := List.mem_singleton.1 hx
        exact hm y p (hl y (by simp)) hp hg
    · rcases List.mem_append.1 hx with hx | hx
      · exact hl x hx
      · obtain rfl := List.mem_singleton.1 hx
        exact hp
theorem all_fold {V : Pt → Prop} (hm : ∀ x p : Pt, V x → V p → Mg x p → V (.mk x.k x.q (x.t ++ p.t) x.n x.o x.w)) : ∀ {ps l : List Pt}, (∀ x ∈ l, V x) → (∀ p ∈ ps, V p) → ∀ x ∈ ps.foldl addP l, V x
  | [], l, h, _ => h
  | p :: ps, l, h, hp => all_fold hm (ps := ps) (all_add hm h (hp p (by simp))) fun x hx => hp x (by simp [hx])
theorem mem_size {p : Pt} {l : List Pt} (h : p ∈ l) : SizeOf.sizeOf p.w < SizeOf.sizeOf l := by
  have h1 := List.sizeOf_lt_of_mem h
  have h2 : SizeOf.sizeOf p.w < SizeOf.sizeOf p := by cases p; simp only [Pt.w, Pt.mk.sizeOf_spec]; omega
  omega
/-- What is quoted, quoted again, is the same. -/
theorem qd_twice : ∀ (n : Nat) (l : List Pt), SizeOf.sizeOf l < n → qdL [] (qdL [] l) = qdL [] l := by
  intro n
  induction n with
  | zero => intro l h; omega
  | succ n ih =>
    intro l hl
    have hone : ∀ x ∈ qdL [] l, x.qd = x := by
      rw [qdL_fold l []]
      refine all_fold (V := fun x => x.qd = x) ?_ (by simp) ?_
      · intro x p hx _ _
        cases x with
        | mk k q t a b c =>
          simp only [Pt.qd, Pt.mk.injEq] at hx
          simp only [Pt.k, Pt.q, Pt.t, Pt.n, Pt.o, Pt.w, Pt.qd, Pt.mk.injEq]
          exact ⟨trivial, hx.2.1, trivial, trivial, trivial, hx.2.2.2.2.2⟩
      · intro p hp
        obtain ⟨x, hx, rfl⟩ := List.mem_map.1 hp
        have := mem_size hx
        cases x with
        | mk k q t a b c =>
          simp only [Pt.qd]
          rw [ih c (by simpa [Pt.w] using Nat.lt_of_lt_of_le this (by omega))]
    have hmap : (qdL [] l).map Pt.qd = qdL [] l := by
      have : ∀ m : List Pt, (∀ x ∈ m, x.qd = x) → m.map Pt.qd = m := by
        intro m hm
        induction m with
        | nil => rfl
        | cons a m ih2 => rw [List.map_cons, hm a (by simp), ih2 fun x hx => hm x (by simp [hx])]
      exact this _ hone
    rw [qdL_fold (qdL [] l), hmap]
    have := fold_norm (l := qdL [] l) (acc := []) (by simpa using qdL_norm (l := l) (acc := []) trivial)
    simpa using this
theorem qd_again (l : List Pt) : qdL [] (qdL [] l) = qdL [] l := qd_twice _ l (Nat.lt_succ_self _)
theorem hasL_mem {l : List Pt} : hasL l = true ↔ ∃ p ∈ l, p.has = true := by
  induction l with
  | nil => simp [hasL]
  | cons a l ih => simp [hasL, ih]
end Go.Proofs.YtckcdbkggaoomaaDoor
