/- Texts of one proof, one behind the other. Conditions: as each theorem names them. -/
import Derived.Test.YtcoeiiihmpnagaaGreatDoorK2
import Derived.Defers
import Derived.Recover
namespace Go.Proofs.YtcoeiiihmpnagaaGreatDoor
def wtW : List (List Pt) → Nat
  | [] => 0
  | x :: r => 2 + wtL x + wtW r
def wtP : List (Txt × List Pt) → Nat
  | [] => 0
  | x :: r => 2 + x.1.length + wtL x.2 + wtP r
def wtO : List Txt → Nat
  | [] => 0
  | x :: r => 2 + x.length + wtO r
mutual
def Nd.wt : Nd → Nat
  | .mk _ _ nm ws as rs os ks => 2 + nm.length + wtW ws + wtP as + wtP rs + wtO os + wtNs ks
def wtNs : List Nd → Nat
  | [] => 0
  | x :: r => x.wt + wtNs r
end
theorem Nd.wt_eq (x : Nd) : x.wt = 2 + x.nm.length + wtW x.ws + wtP x.as + wtP x.rs + wtO x.os + wtNs x.ks := by cases x; simp only [Nd.wt, Nd.nm, Nd.ws, Nd.as, Nd.rs, Nd.os, Nd.ks]
theorem wtW_append : ∀ a b, wtW (a ++ b) = wtW a + wtW b
  | [], b => by simp [wtW]
  | x :: a, b => by simp only [List.cons_append, wtW, wtW_append a b]; omega
theorem wtP_append : ∀ a b, wtP (a ++ b) = wtP a + wtP b
  | [], b => by simp [wtP]
  | x :: a, b => by simp only [List.cons_append, wtP, wtP_append a b]; omega
theorem wtO_append : ∀ a b, wtO (a ++ b) = wtO a + wtO b
  | [], b => by simp [wtO]
  | x :: a, b => by simp only [List.cons_append, wtO, wtO_append a b]; omega
theorem wtNs_append : ∀ a b, wtNs (a ++ b) = wtNs a + wtNs b
  | [], b => by simp [wtNs]
  | x :: a, b => by simp only [List.cons_append, wtNs, wtNs_append a b]; omega
theorem wtW_len : ∀ l, 2 * l.length ≤ wtW l
  | [] => by simp
  | x :: l => by have := wtW_len l; simp only [wtW, List.length_cons]; omega
theorem wtP_len : ∀ l, 2 * l.length ≤ wtP l
  | [] => by simp
  | x :: l => by have := wtP_len l; simp only [wtP, List.length_cons]; omega
theorem wtO_len : ∀ l, 2 * l.length ≤ wtO l
  | [] => by simp
  | x :: l => by have := wtO_len l; simp only [wtO, List.length_cons]; omega
theorem wtNs_len : ∀ l, 2 * l.length ≤ wtNs l
  | [] => by simp
  | x :: l => by have := wtNs_len l; have := x.wt_eq; simp only [wtNs, List.length_cons]; omega
theorem wtW_mem {x : List Pt} : ∀ {l}, x ∈ l → 2 + wtL x ≤ wtW l
  | a :: l, h => by
    rcases List.mem_cons.1 h with rfl | h
    · simp only [wtW]; omega
    · have := wtW_mem h; simp only [wtW]; omega
theorem wtP_mem {x : Txt × List Pt} : ∀ {l}, x ∈ l → 2 + x.1.length + wtL x.2 ≤ wtP l
  | a :: l, h => by
    rcases List.mem_cons.1 h with rfl | h
    · simp only [wtP]; omega
    · have := wtP_mem h; simp only [wtP]; omega
theorem wtNs_mem {x : Nd} : ∀ {l}, x ∈ l → x.wt ≤ wtNs l
  | a :: l, h => by
    rcases List.mem_cons.1 h with rfl | h
    · simp only [wtNs]; omega
    · have := wtNs_mem h; simp only [wtNs]; omega
def tw : Ts → Nat
  | [] => 0
  | x :: r => 20 + 20 * x.2.length + tw r
theorem tw_suf : ∀ {s t : Ts}, t <:+ s → tw t ≤ tw s
  | [], t, h => by rw [List.suffix_nil.1 h]; exact Nat.le_refl _
  | x :: s, t, h => by
    rcases List.suffix_cons_iff.1 h with rfl | h
    · exact Nat.le_refl _
    · have := tw_suf h; simp only [tw]; omega
theorem tw_lines (s : Ts) : tw (linesF s) ≤ tw s := tw_suf (linesF_suf s)
theorem tw_tail (s : Ts) : tw s.tail ≤ tw s := tw_suf (tail_suf s)
theorem tw_is {k : Nat} {t : Txt} {s : Ts} (h : isT k t s = true) : tw s.tail + 20 + 20 * t.length = tw s := by
  have e := congrArg tw (isT_cons h)
  simp only [tw] at e
  omega
theorem tw_ite (c : Bool) (s : Ts) : tw (if c = true then s.tail else s) ≤ tw s := tw_suf (ite_suf c s)
def Wt {α : Type} (m : α → Nat) (d : Nat) (f : Pr α) : Prop := ∀ s x, f s = .ok x → m x.1 + d + tw x.2 ≤ tw s
def WtS {σ α : Type} (m : σ → Nat) (q : α → Nat) (step : σ → Ts → Rs ((σ × Ts) ⊕ (α × Ts))) : Prop := ∀ a s x, step a s = .ok x → match x with
  | .inl y => m y.1 + tw y.2 ≤ m a + tw s
  | .inr y => q y.1 + tw y.2 ≤ m a + tw s
theorem many_wt {σ α : Type} {m : σ → Nat} {q : α → Nat} {step : σ → Ts → Rs ((σ × Ts) ⊕ (α × Ts))} (hs : WtS m q step) : ∀ (n : Nat) (a : σ) (s : Ts) (x : α × Ts), many step n a s = .ok x → q x.1 + tw x.2 ≤ m a + tw s
  | 0, _, _, _, h => by cases h
  | n + 1, a, s, x, h => by
    simp only [many] at h
    obtain ⟨y, h1, h⟩ := Rs.and_ok h
    have h3 := hs _ _ _ h1
    cases y with
    | inr y =>
      injection h with h
      subst h
      exact h3
    | inl y =>
      have h3 : m y.1 + tw y.2 ≤ m a + tw s := h3
      have := many_wt hs n _ _ _ h
      omega
theorem manyF_wt {σ α : Type} {m : σ → Nat} {q : α → Nat} {step : σ → Ts → Rs ((σ × Ts) ⊕ (α × Ts))} (hs : WtS m q step) {a : σ} {s : Ts} {x : α × Ts} (h : manyF step a s = .ok x) : q x.1 + tw x.2 ≤ m a + tw s := many_wt hs _ _ _ _ h
theorem partsF_wt : Wt wtL 20 partsF := by
  intro s x h
  match s with
  | [] => cases h
  | (k, t) :: r =>
    simp only [partsF] at h
    split at h
    · obtain ⟨l, h1, h⟩ := Rs.and_ok h
      injection h with h
      subst h
      have := wpL_wt 30 t l h1
      simp only [tw]
      omega
    · cases h
theorem redirF_wt : Wt (fun x => 2 + x.1.length + wtL x.2) 20 redirF := by
  intro s x h
  match s with
  | [] => cases h
  | (k, t) :: r =>
    simp only [redirF] at h
    obtain ⟨l, h1, h⟩ := Rs.and_ok h
    injection h with h
    subst h
    have := partsF_wt _ _ h1
    simp only [tw]
    omega
theorem redirsS_wt : WtS wtP wtP redirsS := by
  intro a s x h
  unfold redirsS at h
  split at h
  · obtain ⟨l, h1, h⟩ := Rs.and_ok h
    injection h with h
    subst h
    have := redirF_wt _ _ h1
    dsimp only at this
    show wtP (a ++ [l.1]) + _ ≤ _
    simp only [wtP_append, wtP]
    omega
  · injection h with h
    subst h
    exact Nat.le_refl _
theorem asgF_len {t : Txt} {y : Txt × Txt} (h : asgF t = some y) : y.1.length + y.2.length ≤ t.length := by
  unfold asgF at h
  split at h
  · injection h with h
    subst h
    simp only [List.length_take, List.length_drop]
    omega
  · cases h
theorem simpleS_wt : WtS (fun a => wtW a.1 + wtP a.2.1 + wtP a.2.2) (fun x : Nd => x.wt - 2) simpleS := by
  intro a s x h
  unfold simpleS at h
  split at h
  · obtain ⟨l, h1, h⟩ := Rs.and_ok h
    injection h with h
    subst h
    have := redirF_wt _ _ h1
    dsimp only at this
    show wtW a.1 + wtP a.2.1 + wtP (a.2.2 ++ [l.1]) + tw l.2 ≤ _
    simp only [wtP_append, wtP]
    omega
  · split at h
    · rename_i k t r _
      split at h
      · split at h
        · rename_i y hy
          obtain ⟨l, h1, h⟩ := Rs.and_ok h
          injection h with h
          subst h
          have h2 := wpL_wt 30 _ l h1
          have h3 : y.1.length + y.2.length ≤ t.length := by
            split at hy
            · exact asgF_len hy
            · cases hy
          show wtW a.1 + wtP (a.2.1 ++ [(y.1, l)]) + wtP a.2.2 + tw r ≤ _
          simp only [wtP_append, wtP, tw]
          omega
        · obtain ⟨l, h1, h⟩ := Rs.and_ok h
          injection h with h
          subst h
          have h2 := wpL_wt 30 _ l h1
          show wtW (a.1 ++ [l]) + wtP a.2.1 + wtP a.2.2 + tw r ≤ _
          simp only [wtW_append, wtW, tw]
          omega
      · split at h
        · cases h
        · injection h with h
          subst h
          show Nd.wt _ - 2 + tw ((k, t) :: r) ≤ _
          simp only [Nd.wt, wtO, wtNs, List.length_nil]
          omega
    · split at h
      · cases h
      · injection h with h
        subst h
        show Nd.wt _ - 2 + tw [] ≤ _
        simp only [Nd.wt, wtO, wtNs, List.length_nil]
        omega
theorem simple_first {a : List (List Pt) × List (Txt × List Pt) × List (Txt × List Pt)} {s : Ts} {x : Nd × Ts} (h : manyF simpleS ([], [], []) s = .ok x) : x.1.wt + 16 + tw x.2 ≤ tw s := by
  rw [manyF_step simpleS_sinks] at h
  obtain ⟨y, h1, h⟩ := Rs.and_ok h
  have h0 := simpleS_wt _ _ _ h1
  cases y with
  | inr y =>
    exfalso
    unfold simpleS at h1
    split at h1
    · obtain ⟨l, _, h1⟩ := Rs.and_ok h1
      cases h1
    · split at h1
      · split at h1
        · split at h1 <;> (obtain ⟨l, _, h1⟩ := Rs.and_ok h1; cases h1)
        · simp at h1
      · simp at h1
  | inl y =>
    have h2 := manyF_wt simpleS_wt h
    have h3 : wtW y.1.1 + wtP y.1.2.1 + wtP y.1.2.2 + 18 + tw y.2 ≤ tw s := by
      unfold simpleS at h1
      split at h1
      · obtain ⟨l, g1, h1⟩ := Rs.and_ok h1
        injection h1 with h1
        injection h1 with h1
        subst h1
        have := redirF_wt _ _ g1
        dsimp only at this
        simp only [List.nil_append, wtP, wtW]
        omega
      · split at h1
        · split at h1
          · split at h1
            · rename_i k t r _ _ _ z hz
              obtain ⟨l, g1, h1⟩ := Rs.and_ok h1
              injection h1 with h1
              injection h1 with h1
              subst h1
              have g2 := wpL_wt 30 _ l g1
              have g3 : z.1.length + z.2.length ≤ t.length := by
                split at hz
                · exact asgF_len hz
                · cases hz
              simp only [List.nil_append, wtP, wtW, tw]
              omega
            · obtain ⟨l, g1, h1⟩ := Rs.and_ok h1
              injection h1 with h1
              injection h1 with h1
              subst h1
              have g2 := wpL_wt 30 _ l g1
              simp only [List.nil_append, wtP, wtW, tw]
              omega
          · split at h1
            · cases h1
            · injection h1 with h1
              cases h1
        · split at h1
          · cases h1
          · injection h1 with h1
            cases h1
    have h4 := x.1.wt_eq
    omega
theorem simpleF_wt : Wt Nd.wt 16 simpleF := fun s x h => simple_first (a := ([], [], [])) h
theorem pipeN_wt (neg : Bool) (ks : List Nd) : (pipeN neg ks).wt ≤ 2 + wtNs ks := by
  unfold pipeN
  split
  · split
    · simp only [Nd.wt, wtW, wtP, wtO, wtNs, List.length_nil]; omega
    · simp only [wtNs]; omega
  · simp only [Nd.wt, wtW, wtP, wtO, List.length_nil]; omega
theorem pipeS_wt {cmd : Pr Nd} (hc : Wt Nd.wt 16 cmd) (neg : Bool) : WtS wtNs (fun x => x.wt - 2) (pipeS cmd neg) := by
  intro a s x h
  unfold pipeS at h
  split at h
  · rename_i hp
    obtain ⟨l, h1, h⟩ := Rs.and_ok h
    injection h with h
    subst h
    have h2 := hc _ _ h1
    have h3 := tw_lines s.tail
    have h4 := tw_tail s
    show wtNs (a ++ [l.1]) + tw l.2 ≤ _
    simp only [wtNs_append, wtNs]
    omega
  · injection h with h
    subst h
    have := pipeN_wt neg a
    show (pipeN neg a).wt - 2 + tw s ≤ _
    omega
theorem pipeF_wt {cmd : Pr Nd} (hc : Wt Nd.wt 16 cmd) : Wt Nd.wt 14 (pipeF cmd) := by
  intro s x h
  obtain ⟨y, h1, h⟩ := Rs.and_ok h
  have h2 := hc _ _ h1
  have h3 := manyF_wt (pipeS_wt hc _) h
  have h4 := tw_ite (isT 0 tBang s) s
  have h5 := x.1.wt_eq
  simp only [wtNs] at h3
  omega
theorem andN_wt (os : List Txt) (ks : List Nd) : (andN os ks).wt ≤ 2 + wtO os + wtNs ks := by
  unfold andN
  split
  · split
    · simp only [wtNs]; omega
    · simp only [Nd.wt, wtW, wtP, wtO, List.length_nil]; omega
  · simp only [Nd.wt, wtW, wtP, List.length_nil]; omega
theorem andS_wt {cmd : Pr Nd} (hc : Wt Nd.wt 16 cmd) : WtS (fun a => wtO a.1 + wtNs a.2) (fun x => x.wt - 2) (andS cmd) := by
  intro a s x h
  unfold andS at h
  split at h
  · rename_i k t r
    split at h
    · obtain ⟨l, h1, h⟩ := Rs.and_ok h
      injection h with h
      subst h
      have h2 := pipeF_wt hc _ _ h1
      have h3 := tw_lines r
      show wtO (a.1 ++ [t]) + wtNs (a.2 ++ [l.1]) + tw l.2 ≤ _
      simp only [wtNs_append, wtO_append, wtNs, wtO, tw]
      omega
    · injection h with h
      subst h
      have := andN_wt a.1 a.2
      show (andN a.1 a.2).wt - 2 + tw _ ≤ wtO a.1 + wtNs a.2 + tw _
      dsimp only
      omega
  · injection h with h
    subst h
    have := andN_wt a.1 a.2
    show (andN a.1 a.2).wt - 2 + tw _ ≤ wtO a.1 + wtNs a.2 + tw _
    dsimp only
    omega
theorem andF_wt {cmd : Pr Nd} (hc : Wt Nd.wt 16 cmd) : Wt Nd.wt 12 (andF cmd) := by
  intro s x h
  obtain ⟨y, h1, h⟩ := Rs.and_ok h
  have h2 := pipeF_wt hc _ _ h1
  have h3 := manyF_wt (andS_wt hc) h
  have h5 := x.1.wt_eq
  simp only [wtNs, wtO] at h3
  omega
theorem listN_wt (ks : List Nd) : (listN ks).wt = 2 + wtNs ks := by
  unfold listN
  simp only [Nd.wt, wtW, wtP, wtO, List.length_nil]
theorem listS_wt {cmd : Pr Nd} (hc : Wt Nd.wt 16 cmd) : WtS wtNs (fun x => x.wt - 2) (listS cmd) := by
  intro a s x h
  unfold listS at h
  split at h
  · injection h with h
    subst h
    have := listN_wt a
    show (listN a).wt - 2 + tw s ≤ _
    omega
  · obtain ⟨y, h1, h⟩ := Rs.and_ok h
    have h2 := andF_wt hc _ _ h1
    have h3 := tw_lines y.2
    have h4 := tw_lines y.2.tail
    have h5 := tw_tail y.2
    split at h
    · injection h with h
      subst h
      show wtNs (a ++ [y.1]) + tw (linesF y.2.tail) ≤ _
      simp only [wtNs_append, wtNs]
      omega
    · split at h
      · injection h with h
        subst h
        show wtNs (a ++ [y.1]) + tw (linesF y.2) ≤ _
        simp only [wtNs_append, wtNs]
        omega
      · injection h with h
        subst h
        have := listN_wt (a ++ [y.1])
        show (listN (a ++ [y.1])).wt - 2 + tw y.2 ≤ _
        simp only [wtNs_append, wtNs] at this
        omega
theorem listF_wt {cmd : Pr Nd} (hc : Wt Nd.wt 16 cmd) {s : Ts} {x : Nd × Ts} (h : listF cmd s = .ok x) : x.1.wt + tw x.2 ≤ 2 + tw s := by
  have h1 := manyF_wt (listS_wt hc) h
  have h2 := tw_lines s
  have h5 := x.1.wt_eq
  simp only [wtNs] at h1
  omega
theorem someF_wt {cmd : Pr Nd} (hc : Wt Nd.wt 16 cmd) {s : Ts} {x : Nd × Ts} (h : someF cmd s = .ok x) : x.1.wt + tw x.2 ≤ 2 + tw s := by
  obtain ⟨y, h1, h⟩ := Rs.and_ok h
  split at h
  · cases h
  · injection h with h
    subst h
    exact listF_wt hc h1
theorem tookF_wt {k : Nat} {t : Txt} {x y : Nd × Ts} (h : tookF k t x = .ok y) : y.1 = x.1 ∧ tw y.2 + 20 ≤ tw x.2 := by
  unfold tookF at h
  split at h
  · rename_i hp
    injection h with h
    subst h
    have := tw_is hp
    exact ⟨rfl, by dsimp only; omega⟩
  · cases h
theorem insideF_wt {cmd : Pr Nd} (hc : Wt Nd.wt 16 cmd) (kind : Int) (k : Nat) (t : Txt) : Wt Nd.wt 16 (insideF cmd kind k t) := by
  intro s x h
  obtain ⟨y, h1, h⟩ := Rs.and_ok h
  have h2 := someF_wt hc h1
  obtain ⟨e, h3⟩ := tookF_wt h
  rw [e]
  simp only [Nd.wt, wtW, wtP, wtO, wtNs, List.length_nil]
  dsimp only at h3
  omega
theorem branchF_wt {cmd br : Pr Nd} (hc : Wt Nd.wt 16 cmd) (hb : ∀ s x, br s = .ok x → x.1.wt + tw x.2 ≤ tw s + 4) : ∀ s x, branchF cmd br s = .ok x → x.1.wt + tw x.2 ≤ tw s + 4 := by
  intro s x h
  obtain ⟨c, h1, h⟩ := Rs.and_ok h
  obtain ⟨c', h2, h⟩ := Rs.and_ok h
  obtain ⟨t, h3, h⟩ := Rs.and_ok h
  have g1 := someF_wt hc h1
  obtain ⟨e2, g2⟩ := tookF_wt h2
  have g3 := someF_wt hc h3
  rw [e2] at h
  split at h
  · rename_i hx
    obtain ⟨y, h4, h⟩ := Rs.and_ok h
    injection h with h
    subst h
    have g4 := hb _ _ h4
    have g5 := tw_is hx
    show Nd.wt _ + tw y.2 ≤ _
    simp only [Nd.wt, wtW, wtP, wtO, wtNs, List.length_nil, listN_wt]
    omega
  · split at h
    · rename_i hx
      obtain ⟨y, h4, h⟩ := Rs.and_ok h
      injection h with h
      subst h
      have g4 := someF_wt hc h4
      have g5 := tw_is hx
      show Nd.wt _ + tw y.2 ≤ _
      simp only [Nd.wt, wtW, wtP, wtO, wtNs, List.length_nil]
      omega
    · injection h with h
      subst h
      show Nd.wt _ + tw t.2 ≤ _
      simp only [Nd.wt, wtW, wtP, wtO, wtNs, List.length_nil]
      omega
theorem bodyF_wt {cmd : Pr Nd} (hc : Wt Nd.wt 16 cmd) {s : Ts} {x : Nd × Ts} (h : bodyF cmd s = .ok x) : x.1.wt + 30 + tw x.2 ≤ tw s := by
  unfold bodyF at h
  split at h
  · rename_i hp
    obtain ⟨y, h1, h⟩ := Rs.and_ok h
    have h2 := someF_wt hc h1
    obtain ⟨e, h3⟩ := tookF_wt h
    have h4 := tw_is hp
    rw [e]
    omega
  · cases h
theorem loopSF_wt {cmd : Pr Nd} (hc : Wt Nd.wt 16 cmd) (nm : Txt) {s : Ts} {x : Nd × Ts} (h : loopSF cmd nm s = .ok x) : x.1.wt + 26 + tw x.2 ≤ tw s + nm.length := by
  obtain ⟨c, h1, h⟩ := Rs.and_ok h
  obtain ⟨b, h2, h⟩ := Rs.and_ok h
  injection h with h
  subst h
  have g1 := someF_wt hc h1
  have g2 := bodyF_wt hc h2
  show Nd.wt _ + 26 + tw b.2 ≤ _
  simp only [Nd.wt, wtW, wtP, wtO, wtNs, List.length_nil]
  omega
theorem wordsS_wt : WtS wtW wtW wordsS := by
  intro a s x h
  unfold wordsS at h
  split at h
  · obtain ⟨l, h1, h⟩ := Rs.and_ok h
    injection h with h
    subst h
    have := partsF_wt _ _ h1
    show wtW (a ++ [l.1]) + tw l.2 ≤ _
    simp only [wtW_append, wtW]
    omega
  · injection h with h
    subst h
    exact Nat.le_refl _
theorem eachE_wt {cmd : Pr Nd} (hc : Wt Nd.wt 16 cmd) (nm : Txt) (ws : List (List Pt)) (os : List Txt) {s : Ts} {x : Nd × Ts} (h : eachE cmd nm ws os s = .ok x) : x.1.wt + 26 + tw x.2 ≤ tw s + nm.length + wtW ws + wtO os := by
  obtain ⟨b, h2, h⟩ := Rs.and_ok h
  injection h with h
  subst h
  have g2 := bodyF_wt hc h2
  have g3 := tw_lines (if isT 1 tSemi s = true then s.tail else s)
  have g4 := tw_ite (isT 1 tSemi s) s
  show Nd.wt _ + 26 + tw b.2 ≤ _
  simp only [Nd.wt, wtP, wtNs]
  omega
theorem eachF_wt {cmd : Pr Nd} (hc : Wt Nd.wt 16 cmd) : Wt Nd.wt 16 (eachF cmd) := by
  intro s x h
  match s with
  | [] => cases h
  | (k, t) :: r =>
    have g1 := tw_lines r
    simp only [eachF] at h
    split at h
    · split at h
      · rename_i hi
        have g2 := tw_is hi
        obtain ⟨y, h1, h⟩ := Rs.and_ok h
        have g3 := manyF_wt wordsS_wt h1
        split at h
        · have g4 := eachE_wt hc _ _ _ h
          simp only [wtO, wtW, tw, List.length_cons, List.length_nil] at g2 g3 g4 ⊢
          omega
        · cases h
      · have g4 := eachE_wt hc _ _ _ h
        simp only [wtO, wtW, tw] at g4 ⊢
        omega
    · cases h
theorem orsS_wt : WtS wtW wtW orsS := by
  intro a s x h
  unfold orsS at h
  split at h
  · obtain ⟨l, h1, h⟩ := Rs.and_ok h
    injection h with h
    subst h
    have := partsF_wt _ _ h1
    have := tw_tail s
    show wtW (a ++ [l.1]) + tw l.2 ≤ _
    simp only [wtW_append, wtW]
    omega
  · injection h with h
    subst h
    exact Nat.le_refl _
theorem itemF_wt {cmd : Pr Nd} (hc : Wt Nd.wt 16 cmd) : Wt Nd.wt 16 (itemF cmd) := by
  intro s x h
  obtain ⟨w, h1, h⟩ := Rs.and_ok h
  obtain ⟨ws, h2, h⟩ := Rs.and_ok h
  have g1 := partsF_wt _ _ h1
  have g2 := manyF_wt orsS_wt h2
  have g3 := tw_ite (isT 1 tOpen s) s
  simp only [wtW] at g2
  split at h
  · rename_i hx
    have g4 := tw_is hx
    obtain ⟨y, h3, h⟩ := Rs.and_ok h
    injection h with h
    subst h
    have g5 := listF_wt hc h3
    show Nd.wt _ + 16 + tw y.2 ≤ _
    simp only [Nd.wt, wtP, wtO, wtNs, List.length_nil]
    omega
  · cases h
theorem caseS_wt {cmd : Pr Nd} (hc : Wt Nd.wt 16 cmd) (w : List Pt) : WtS wtNs (fun x => x.wt - (4 + wtL w)) (caseS cmd w) := by
  intro a s x h
  unfold caseS at h
  split at h
  · injection h with h
    subst h
    have := tw_tail s
    show Nd.wt _ - _ + tw s.tail ≤ _
    simp only [Nd.wt, wtW, wtP, wtO, List.length_nil]
    omega
  · obtain ⟨y, h1, h⟩ := Rs.and_ok h
    have h2 := itemF_wt hc _ _ h1
    have h3 := tw_lines y.2
    have h4 := tw_lines y.2.tail
    have h5 := tw_tail y.2
    split at h
    · injection h with h
      subst h
      show wtNs (a ++ [y.1]) + tw (linesF y.2.tail) ≤ _
      simp only [wtNs_append, wtNs]
      omega
    · split at h
      · injection h with h
        subst h
        show wtNs (a ++ [y.1]) + tw (linesF y.2) ≤ _
        simp only [wtNs_append, wtNs]
        omega
      · cases h
theorem casesF_wt {cmd : Pr Nd} (hc : Wt Nd.wt 16 cmd) : Wt Nd.wt 16 (casesF cmd) := by
  intro s x h
  obtain ⟨w, h1, h⟩ := Rs.and_ok h
  have g1 := partsF_wt _ _ h1
  split at h
  · rename_i hx
    have g2 := manyF_wt (caseS_wt hc _) h
    have g3 := tw_lines w.2
    have g4 := tw_is hx
    have g5 := tw_lines (linesF w.2).tail
    simp only [wtNs] at g2
    omega
  · cases h
theorem defF_wt {cmd : Pr Nd} (hc : Wt Nd.wt 16 cmd) : Wt Nd.wt 16 (defF cmd) := by
  intro s x h
  match s with
  | [] => cases h
  | (k, t) :: r =>
    simp only [defF] at h
    obtain ⟨y, h1, h⟩ := Rs.and_ok h
    have g1 := hc _ _ h1
    have g2 := tw_lines r.tail.tail
    have g3 := tw_tail r
    have g4 := tw_tail r.tail
    split at h
    · injection h with h
      subst h
      show Nd.wt _ + 16 + tw y.2 ≤ _
      simp only [Nd.wt, wtW, wtP, wtO, wtNs, tw]
      omega
    · cases h
theorem withR_wt {x y : Nd × Ts} (h : withR x = .ok y) : y.1.wt + tw y.2 ≤ x.1.wt + tw x.2 := by
  obtain ⟨z, h1, h⟩ := Rs.and_ok h
  injection h with h
  subst h
  have g := manyF_wt redirsS_wt h1
  have e := x.1.wt_eq
  show Nd.wt _ + tw z.2 ≤ _
  simp only [Nd.wt]
  simp only [wtP] at g
  omega
theorem compF_wt {cmd br : Pr Nd} (hc : Wt Nd.wt 16 cmd) (hb : ∀ s x, br s = .ok x → x.1.wt + tw x.2 ≤ tw s + 4) {s : Ts} {f : Rs (Nd × Ts)} (hf : compF cmd br s = some f) {x : Nd × Ts} (h : f = .ok x) : x.1.wt + 16 + tw x.2 ≤ tw s := by
  have g := tw_tail s
  unfold compF at hf
  subst h
  split at hf
  · have := insideF_wt hc _ _ _ _ _ (Option.some.inj hf); omega
  split at hf
  · have := insideF_wt hc _ _ _ _ _ (Option.some.inj hf); omega
  split at hf
  · rename_i hx
    obtain ⟨y, h1, h2⟩ := Rs.and_ok (Option.some.inj hf)
    have g1 := hb _ _ h1
    obtain ⟨e, g2⟩ := tookF_wt h2
    have g3 := tw_is hx
    rw [e]
    omega
  split at hf
  · rename_i hx
    have := loopSF_wt hc _ (Option.some.inj hf)
    have g3 := tw_is hx
    simp only [List.length_cons, List.length_nil] at this g3
    omega
  split at hf
  · rename_i hx
    have := loopSF_wt hc _ (Option.some.inj hf)
    have g3 := tw_is hx
    simp only [List.length_cons, List.length_nil] at this g3
    omega
  split at hf
  · have := eachF_wt hc _ _ (Option.some.inj hf); omega
  split at hf
  · have := casesF_wt hc _ _ (Option.some.inj hf); omega
  · cases hf
theorem commandF_wt {cmd br : Pr Nd} (hc : Wt Nd.wt 16 cmd) (hb : ∀ s x, br s = .ok x → x.1.wt + tw x.2 ≤ tw s + 4) : Wt Nd.wt 16 (commandF cmd br) := by
  intro s x h
  unfold commandF at h
  split at h
  · rename_i f hf
    obtain ⟨y, h1, h⟩ := Rs.and_ok h
    have g1 := compF_wt hc hb hf h1
    have g2 := withR_wt h
    omega
  · split at h
    · cases h
    · split at h
      · exact defF_wt hc _ _ h
      · exact simpleF_wt _ _ h
theorem lvS_wt : ∀ L, Wt Nd.wt 16 (lvS L).1 ∧ ∀ s x, (lvS L).2 s = .ok x → x.1.wt + tw x.2 ≤ tw s + 4
  | 0 => ⟨fun s x h => (by cases h), fun s x h => (by cases h)⟩
  | L + 1 => by
    obtain ⟨h1, h2⟩ := lvS_wt L
    have hb := branchF_wt h1 h2
    exact ⟨commandF_wt h1 hb, hb⟩
theorem scriptF_wt {s : Ts} {x : Nd} (h : scriptF s = .ok x) : x.wt ≤ 2 + tw s := by
  obtain ⟨y, h1, h⟩ := Rs.and_ok h
  split at h
  · injection h with h
    subst h
    have := listF_wt (lvS_wt 30).1 h1
    omega
  · cases h
end Go.Proofs.YtcoeiiihmpnagaaGreatDoor
namespace Go.Proofs.YtcoeiiihmpnagaaGreatDoor
open Go.RowKit Vc
def Sim (t t' : Txt) : Prop := ∀ c r', t' = c :: r' → (c = 40 ∨ c = 123) → ∃ r, t = c :: r
theorem Sim.head (c : UInt8) (t t' : Txt) : Sim (c :: t) (c :: t') := fun d r' h _ => ⟨t, by injection h with h1 h2; rw [h1]⟩
theorem Sim.app {t t' : Txt} (h : Sim t t') : ∀ y : Txt, Sim (y ++ t) (y ++ t')
  | [] => h
  | c :: y => Sim.head c _ _
end Go.Proofs.YtcoeiiihmpnagaaGreatDoor
namespace Go.Proofs.YtcoeiiihmpnagaaGreatDoor.Vc
open Go.RowKit
def cutDefer : List Oper → Option (List Oper × Oper × Operand)
  | [] => none
  | [o] => match o.op with
    | .defer ⟨.value f, ⟨[]⟩, _⟩ => some ([], o, f)
    | _ => none
  | o :: r => match cutDefer r with
    | some (pre, d, f) => some (o :: pre, d, f)
    | none => none
def rsOff (ws : List Nat) : List ResultVar → Bool
  | [] => true
  | .tmp t :: r => !(ws.contains t) && rsOff ws r
  | .cell a _ :: r => !(ws.contains a) && rsOff ws r
def contsD (P : Program) (rs : List ResultVar) (R : Ending → World → Prop) (g : FuncId) (dargs : List Value) (l0 : Fr) : Conts where
  normal := fun l w => CallsD P g ⟨dargs⟩ .returning w fun e u' w' => (∃ v, e = .returned v) ∧ settle u' = .returning ∧ resK P w' rs l fun vs => R (.returned (retV vs)) w'
  exit := fun _ _ _ => False
  ret := fun l w => CallsD P g ⟨dargs⟩ .returning w fun e u' w' => (∃ v, e = .returned v) ∧ settle u' = .returning ∧ resK P w' rs l fun vs => R (.returned (retV vs)) w'
  panic := fun c w => CallsD P g ⟨dargs⟩ (.panicking c) w fun e u' w' => (∃ v, e = .returned v) ∧ settle u' = .returning ∧ resK P w' rs l0 fun vs => R (.returned (retV vs)) w'
def vcD (P : Program) (pl : Plan) (rs : List ResultVar) (R : Ending → World → Prop) : Code → Nat → Fr → World → Prop
  | .seq a b, p, l, w => match a with
    | .region _ ⟨ops⟩ false => match cutDefer ops with
      | some (pre, d, f) => vcOps P ops (fun l' w' => opK l' f fun fv => calleeK fv fun g first cap => bsel (callable P g && rsOff (written b) rs && d.guard.isNone && d.dst.isNone) (vc P pl b (2 * p + 1) (contsD P rs R g (first ++ cap) l') l' w') False)
          (fun c w' => R (.panicked c) w') pre l w
      | none => vcOps P ops (fun l' w' => vcD P pl rs R b (2 * p + 1) l' w') (fun c w' => R (.panicked c) w') ops l w
    | a => vc P pl a (2 * p) { fnConts P rs R with normal := fun l' w' => vcD P pl rs R b (2 * p + 1) l' w' } l w
  | c, p, l, w => vc P pl c p (fnConts P rs R) l w
theorem cutDefer_out : ∀ {ops pre : List Oper} {d : Oper} {f : Operand}, cutDefer ops = some (pre, d, f) → ops = pre ++ [d] ∧ ∃ ts, d.op = .defer ⟨.value f, ⟨[]⟩, ts⟩
  | [], _, _, _, h => by cases h
  | [o], pre, d, f, h => by
    simp only [cutDefer] at h
    split at h
    · rename_i f' ts ho
      simp only [Option.some.injEq, Prod.mk.injEq] at h
      obtain ⟨rfl, rfl, rfl⟩ := h
      exact ⟨rfl, ts, ho⟩
    · cases h
  | o :: o2 :: r, pre, d, f, h => by
    simp only [cutDefer] at h
    split at h
    · rename_i pre' d' f' h2
      simp only [Option.some.injEq, Prod.mk.injEq] at h
      obtain ⟨rfl, rfl, rfl⟩ := h
      obtain ⟨h3, h4⟩ := cutDefer_out (ops := o2 :: r) h2
      exact ⟨by rw [h3]; rfl, h4⟩
    · cases h
theorem mapM_same {α : Type} {f g : α → Sem Value} : ∀ {rs : List α}, (∀ r ∈ rs, f r = g r) → rs.mapM f = rs.mapM g
  | [], _ => rfl
  | r :: rs, h => by
    rw [List.mapM_cons, List.mapM_cons, h r (by simp), mapM_same fun x hx => h x (by simp [hx])]
theorem resF_off {ws : List Nat} {l l' : Fr} {ds : List Deferred} (ha : AgreeOff ws l l') : ∀ {rs : List ResultVar}, rsOff ws rs = true → ∀ r ∈ rs, resF (act l ds).tmps r = resF (act l' ds).tmps r := by
  have get : ∀ t, (!(ws.contains t)) = true → (act l ds).tmps.getD t undef = (act l' ds).tmps.getD t undef := by
    intro t ht
    have hn : t ∉ ws := by simpa using ht
    have h2 := ha.2 t hn
    simp only [act, Array.getD_eq_getD_getElem?, List.getElem?_toArray, h2]
  intro rs
  induction rs with
  | nil => intro _ r hr; cases hr
  | cons x rs ih =>
    intro h r hr
    cases x with
    | tmp t =>
      simp only [rsOff, Bool.and_eq_true] at h
      rcases List.mem_cons.1 hr with rfl | hr
      · simp only [resF, get t h.1]
      · exact ih h.2 r hr
    | cell a t =>
      simp only [rsOff, Bool.and_eq_true] at h
      rcases List.mem_cons.1 hr with rfl | hr
      · simp only [resF, get a h.1]
      · exact ih h.2 r hr
theorem results_off {fn : Func} {ws : List Nat} {l l' : Fr} {ds : List Deferred} (ha : AgreeOff ws l l') (h : rsOff ws fn.results.toList = true) : results fn (act l ds).tmps = results fn (act l' ds).tmps := by
  have e : ∀ tmps : Array Value, results fn tmps = (do
      let vs ← fn.results.mapM (resF tmps)
      pure (if h : vs.size = 1 then vs[0] else .tuple vs)) := by
    intro tmps
    unfold results
    congr 2
  rw [e, e, Array.mapM_eq_mapM_toList, Array.mapM_eq_mapM_toList, mapM_same (resF_off ha h)]
theorem vcOps_pre {P : Program} {ops : List Oper} {ds : List Deferred} {K : Fr → World → Prop} {E : List PanicEntry → World → Prop} {Q : Exit → Act → World → Prop} {rest : List Oper} (hE : ∀ l' c w', E c w' → Q (.panic c) (act l' ds) w') :
    ∀ {pre : List Oper} {l : Fr} {w : World}, vcOps P ops K E pre l w → (∀ l' w', K l' w' → wpList P ⟨ops⟩ Q rest (act l' ds) w') → wpList P ⟨ops⟩ Q (pre ++ rest) (act l ds) w := by
  intro pre
  induction pre with
  | nil => intro l w h hK; exact hK l w h
  | cons o r ih =>
    intro l w h hK
    have next : ∀ v w', vcOps P ops K E r (put l o.dst v) w' → wpList P ⟨ops⟩ Q (r ++ rest) ((act l ds).put o.dst v) w' := by
      intro v w' h
      rw [act_put]
      exact ih h hK
    rw [List.cons_append]
    unfold wpList
    rcases guardK_out (ds := ds) h with ⟨hw, h⟩ | ⟨hw, h⟩
    · rw [if_pos hw]
      exact .inl (opv_sound h (fun v w' hk => next v w' (putK_out hk)) (fun c w' he => hE l c w' he))
    · rw [if_neg (by simp [hw])]
      exact next undef w (putK_out h)
theorem defer_run {P : Program} {l : Fr} {ds : List Deferred} {o : Oper} {f : Operand} {ts : Array TypeId} (ho : o.op = .defer ⟨.value f, ⟨[]⟩, ts⟩) {g : FuncId} {first cap : List Value}
    (hf : (act l ds).eval f = .func (.func g) ⟨first⟩ ⟨cap⟩) (w : World) :
    (execOp (act l ds).eval o).run P w = .ok (.defer { target := .fn (.func g) ⟨cap⟩, args := ⟨first⟩ }) w := by
  simp only [execOp, ho, resolve, hf, Deferred.ofValue, Sem.run_bind, Sem.run_pure, Result.andThen_ok]
  simp
theorem vcD_sound {P : Program} {pl : Plan} {fn : Func} {R : Ending → World → Prop} : ∀ (c : Code) (p : Nat) (l : Fr) (w : World), vcD P pl fn.results.toList R c p l w → c.wp P (bodyPostD P fn R) (act l []) w := by
  have plain : ∀ (c : Code) (p : Nat) (l : Fr) (w : World) (N : Fr → World → Prop) (Q : Exit → Act → World → Prop), vc P pl c p { fnConts P fn.results.toList R with normal := N } l w → (∀ l' w', N l' w' → Q .normal (act l' []) w') →
      (∀ a w', bodyPostD P fn R .ret a w' → Q .ret a w') → (∀ ch a w', bodyPostD P fn R (.panic ch) a w' → Q (.panic ch) a w') → c.wp P Q (act l []) w := by
    intro c p l w N Q h hN hQr hQp
    refine vc_sound (ds := []) c p _ l w Q h (fun l' w' _ hk => hN l' w' hk) (fun i l' w' _ hk => hk.elim) (fun l' w' hk => hQr _ _ ?_) (fun l' ch w' _ hk => hQp _ _ _ hk)
    obtain ⟨vs, h1, h2⟩ := results_run (ds := []) hk
    exact ⟨_, h1, h2⟩
  have ends : ∀ (c : Code) (p : Nat) (l : Fr) (w : World), vc P pl c p (fnConts P fn.results.toList R) l w → c.wp P (bodyPostD P fn R) (act l []) w := by
    intro c p l w h
    refine plain c p l w _ _ h (fun l' w' hk => ?_) (fun _ _ h => h) (fun _ _ _ h => h)
    obtain ⟨vs, h1, h2⟩ := results_run (ds := []) hk
    exact ⟨_, h1, h2⟩
  intro c
  induction c with
  | seq a b iha ihb =>
    intro p l w h
    simp only [vcD] at h
    have thru : ∀ (N : Fr → World → Prop), vc P pl a (2 * p) { fnConts P fn.results.toList R with normal := N } l w → (∀ l' w', N l' w' → b.wp P (bodyPostD P fn R) (act l' []) w') → (Code.seq a b).wp P (bodyPostD P fn R) (act l []) w := by
      intro N h hN
      refine wp_seq (plain a (2 * p) l w N _ h (fun l' w' hk => hN l' w' hk) (fun a w' hq => hq) (fun ch a w' hq => hq))
    split at h
    · rename_i id ops
      split at h
      · rename_i pre d f hcut
        obtain ⟨hops, ts, hd⟩ := cutDefer_out hcut
        refine wp_seq (wp_region_list ?_)
        have h2 : wpList P ⟨ops⟩ (Exit.then (b.wp P (bodyPostD P fn R)) (bodyPostD P fn R)) (pre ++ [d]) (act l []) w := by
          refine vcOps_pre (fun l' c w' he => he) h fun l' w' hk => ?_
          obtain ⟨g, first, cap, hf, hk⟩ := calleeK_out (opK_out (ds := []) hk)
          obtain ⟨hb, hk⟩ := bsel_true_out hk
          simp only [Bool.and_eq_true] at hb
          obtain ⟨⟨⟨hcall, hoff⟩, hgd⟩, hdst⟩ := hb
          have hg : d.guard = none := by simpa using hgd
          have hds : d.dst = none := by simpa using hdst
          unfold wpList
          rw [if_pos (by simp [Region.wanted, hg])]
          refine .inl ?_
          unfold Oper.wp
          rw [defer_run hd hf, Oper.upon_defer, hds]
          show b.wp P (bodyPostD P fn R) (act l' [{ target := .fn (.func g) ⟨cap⟩, args := ⟨first⟩ }]) w'
          have inv : ∀ w : World, (invoke (.fn (.func g) ⟨cap⟩) ⟨first⟩).run P w = .ok (.enter g ⟨first ++ cap⟩) w := by
            intro w
            simp only [invoke]
            rw [callFunc_run hcall]
            simp
          refine vc_sound (ds := [{ target := .fn (.func g) ⟨cap⟩, args := ⟨first⟩ }]) b _ _ l' w' _ hk (fun l2 w2 _ hk2 => ?_) (fun i l2 w2 _ hk2 => hk2.elim) (fun l2 w2 hk2 => ?_) (fun l2 ch w2 ha hk2 => ?_)
          · refine leaves_cons (by simp) (inv w2) (hk2.mono ?_)
            rintro e u' w3 ⟨⟨v, rfl⟩, hu, hr⟩
            dsimp only
            rw [hu]
            obtain ⟨vs, h1, h2⟩ := results_run (ds := [{ target := .fn (.func g) ⟨cap⟩, args := ⟨first⟩ }]) hr
            exact ⟨_, h1, h2⟩
          · refine leaves_cons (by simp) (inv w2) (hk2.mono ?_)
            rintro e u' w3 ⟨⟨v, rfl⟩, hu, hr⟩
            dsimp only
            rw [hu]
            obtain ⟨vs, h1, h2⟩ := results_run (ds := [{ target := .fn (.func g) ⟨cap⟩, args := ⟨first⟩ }]) hr
            exact ⟨_, h1, h2⟩
          · refine leaves_cons (by simp) (inv w2) (hk2.mono ?_)
            rintro e u' w3 ⟨⟨v, rfl⟩, hu, hr⟩
            dsimp only
            rw [hu]
            obtain ⟨vs, h1, h2⟩ := results_run (ds := [{ target := .fn (.func g) ⟨cap⟩, args := ⟨first⟩ }]) hr
            rw [results_off ha hoff] at h1
            exact ⟨_, h1, h2⟩
        rw [← hops] at h2
        exact h2
      · refine thru (fun l' w' => vcD P pl fn.results.toList R b (2 * p + 1) l' w') h (fun l' w' hk => ihb _ _ _ hk)
    · exact thru (fun l' w' => vcD P pl fn.results.toList R b (2 * p + 1) l' w') h (fun l' w' hk => ihb _ _ _ hk)
  | _ => intro p l w h; exact ends _ p l w h
theorem calls_vcD {P : Program} {f : FuncId} {fn : Func} {c : Code} {args : List Value} {w : World} {R : Ending → World → Prop} (pl : Plan) (hf : P.funcs[f]? = some fn) (hb : fn.body = some c)
    (h : vcD P pl fn.results.toList R c 1 (frame0 fn.ntmps args) w) : Calls P f ⟨args⟩ w R := by
  refine calls_of_wp_defers hf hb ?_
  have e : (Array.mk args) ++ Array.replicate (fn.ntmps - (Array.mk args).size) undef = ⟨frame0 fn.ntmps args⟩ := by
    apply Array.ext'
    simp [frame0_eq]
  rw [e]
  exact vcD_sound c 1 _ w h
end Go.Proofs.YtcoeiiihmpnagaaGreatDoor.Vc
