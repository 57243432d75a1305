/- Texts of one proof, one behind the other. Conditions: as each theorem names them. -/
import Derived.Test.YtcoeiiihmpnagaaGreatDoorQ2
import Derived.Defers
import Derived.Recover
namespace Go.Proofs.YtcoeiiihmpnagaaGreatDoor
def wtW : List (List Pt) → Nat
  | [] => 0
  | x :: r => 2 + wtL x + wtW r
def wtP : List (Txt × List Pt) → Nat
  | [] => 0
  | x :: r => 2 + x.1.length + wtL x.2 + wtP r
def wtO : List Txt → Nat
  | [] => 0
  | x :: r => 2 + x.length + wtO r
mutual
def Nd.wt : Nd → Nat
  | .mk _ _ nm ws as rs os ks => 2 + nm.length + wtW ws + wtP as + wtP rs + wtO os + wtNs ks
def wtNs : List Nd → Nat
  | [] => 0
  | x :: r => x.wt + wtNs r
end
theorem Nd.wt_eq (x : Nd) : x.wt = 2 + x.nm.length + wtW x.ws + wtP x.as + wtP x.rs + wtO x.os + wtNs x.ks := by cases x; simp only [Nd.wt, Nd.nm, Nd.ws, Nd.as, Nd.rs, Nd.os, Nd.ks]
theorem wtW_append : ∀ a b, wtW (a ++ b) = wtW a + wtW b
  | [], b => by simp [wtW]
  | x :: a, b => by simp only [List.cons_append, wtW, wtW_append a b]; omega
theorem wtP_append : ∀ a b, wtP (a ++ b) = wtP a + wtP b
  | [], b => by simp [wtP]
  | x :: a, b => by simp only [List.cons_append, wtP, wtP_append a b]; omega
theorem wtO_append : ∀ a b, wtO (a ++ b) = wtO a + wtO b
  | [], b => by simp [wtO]
  | x :: a, b => by simp only [List.cons_append, wtO, wtO_append a b]; omega
theorem wtNs_append : ∀ a b, wtNs (a ++ b) = wtNs a + wtNs b
  | [], b => by simp [wtNs]
  | x :: a, b => by simp only [List.cons_append, wtNs, wtNs_append a b]; omega
theorem wtW_len : ∀ l, 2 * l.length ≤ wtW l
  | [] => by simp
  | x :: l => by have := wtW_len l; simp only [wtW, List.length_cons]; omega
theorem wtP_len : ∀ l, 2 * l.length ≤ wtP l
  | [] => by simp
  | x :: l => by have := wtP_len l; simp only [wtP, List.length_cons]; omega
theorem wtO_len : ∀ l, 2 * l.length ≤ wtO l
  | [] => by simp
  | x :: l => by have := wtO_len l; simp only [wtO, List.length_cons]; omega
theorem wtNs_len : ∀ l, 2 * l.length ≤ wtNs l
  | [] => by simp
  | x :: l => by have := wtNs_len l; have := x.wt_eq; simp only [wtNs, List.length_cons]; omega
theorem wtW_mem {x : List Pt} : ∀ {l}, x ∈ l → 2 + wtL x ≤ wtW l
  | a :: l, h => by
    rcases List.mem_cons.1 h with rfl | h
    · simp only [wtW]; omega
    · have := wtW_mem h; simp only [wtW]; omega
theorem wtP_mem {x : Txt × List Pt} : ∀ {l}, x ∈ l → 2 + x.1.length + wtL x.2 ≤ wtP l
  | a :: l, h => by
    rcases List.mem_cons.1 h with rfl | h
    · simp only [wtP]; omega
    · have := wtP_mem h; simp only [wtP]; omega
theorem wtNs_mem {x : Nd} : ∀ {l}, x ∈ l → x.wt ≤ wtNs l
  | a :: l, h => by
    rcases List.mem_cons.1 h with rfl | h
    · simp only [wtNs]; omega
    · have := wtNs_mem h; simp only [wtNs]; omega
def tw : Ts → Nat
  | [] => 0
  | x :: r => 20 + 20 * x.2.length + tw r
theorem tw_suf : ∀ {s t : Ts}, t <:+ s → tw t ≤ tw s
  | [], t, h => by rw [List.suffix_nil.1 h]; exact Nat.le_refl _
  | x :: s, t, h => by
    rcases List.suffix_cons_iff.1 h with rfl | h
    · exact Nat.le_refl _
    · have := tw_suf h; simp only [tw]; omega
theorem tw_lines (s : Ts) : tw (linesF s) ≤ tw s := tw_suf (linesF_suf s)
theorem tw_tail (s : Ts) : tw s.tail ≤ tw s := tw_suf (tail_suf s)
theorem tw_is {k : Nat} {t : Txt} {s : Ts} (h : isT k t s = true) : tw s.tail + 20 + 20 * t.length = tw s := by
  have e := congrArg tw (isT_cons h)
  simp only [tw] at e
  omega
theorem tw_ite (c : Bool) (s : Ts) : tw (if c = true then s.tail else s) ≤ tw s := tw_suf (ite_suf c s)
def Wt {α : Type} (m : α → Nat) (d : Nat) (f : Pr α) : Prop := ∀ s x, f s = .ok x → m x.1 + d + tw x.2 ≤ tw s
def WtS {σ α : Type} (m : σ → Nat) (q : α → Nat) (step : σ → Ts → Rs ((σ × Ts) ⊕ (α × Ts))) : Prop := ∀ a s x, step a s = .ok x → match x with
  | .inl y => m y.1 + tw y.2 ≤ m a + tw s
  | .inr y => q y.1 + tw y.2 ≤ m a + tw s
theorem many_wt {σ α : Type} {m : σ → Nat} {q : α → Nat} {step : σ → Ts → Rs ((σ × Ts) ⊕ (α × Ts))} (hs : WtS m q step) : ∀ (n : Nat) (a : σ) (s : Ts) (x : α × Ts), many step n a s = .ok x → q x.1 + tw x.2 ≤ m a + tw s
  | 0, _, _, _, h => by cases h
  | n + 1, a, s, x, h => by
    simp only [many] at h
    obtain ⟨y, h1, h⟩ := Rs.and_ok h
    have h3 := hs _ _ _ h1
    cases y with
    | inr y =>
      injection h with h
      subst h
      exact h3
    | inl y =>
      have h3 : m y.1 + tw y.2 ≤ m a + tw s := h3
      have := many_wt hs n _ _ _ h
      omega
theorem manyF_wt {σ α : Type} {m : σ → Nat} {q : α → Nat} {step : σ → Ts → Rs ((σ × Ts) ⊕ (α × Ts))} (hs : WtS m q step) {a : σ} {s : Ts} {x : α × Ts} (h : manyF step a s = .ok x) : q x.1 + tw x.2 ≤ m a + tw s := many_wt hs _ _ _ _ h
theorem partsF_wt : Wt wtL 20 partsF := by
  intro s x h
  match s with
  | [] => cases h
  | (k, t) :: r =>
    simp only [partsF] at h
    split at h
    · obtain ⟨l, h1, h⟩ := Rs.and_ok h
      injection h with h
      subst h
      have := wpL_wt 30 t l h1
      simp only [tw]
      omega
    · cases h
theorem redirF_wt : Wt (fun x => 2 + x.1.length + wtL x.2) 20 redirF := by
  intro s x h
  match s with
  | [] => cases h
  | (k, t) :: r =>
    simp only [redirF] at h
    obtain ⟨l, h1, h⟩ := Rs.and_ok h
    injection h with h
    subst h
    have := partsF_wt _ _ h1
    simp only [tw]
    omega
theorem redirsS_wt : WtS wtP wtP redirsS := by
  intro a s x h
  unfold redirsS at h
  split at h
  · obtain ⟨l, h1, h⟩ := Rs.and_ok h
    injection h with h
    subst h
    have := redirF_wt _ _ h1
    dsimp only at this
    show wtP (a ++ [l.1]) + _ ≤ _
    simp only [wtP_append, wtP]
    omega
  · injection h with h
    subst h
    exact Nat.le_refl _
theorem asgF_len {t : Txt} {y : Txt × Txt} (h : asgF t = some y) : y.1.length + y.2.length ≤ t.length := by
  unfold asgF at h
  split at h
  · injection h with h
    subst h
    simp only [List.length_take, List.length_drop]
    omega
  · cases h
theorem simpleS_wt : WtS (fun a => wtW a.1 + wtP a.2.1 + wtP a.2.2) (fun x : Nd => x.wt - 2) simpleS := by
  intro a s x h
  unfold simpleS at h
  split at h
  · obtain ⟨l, h1, h⟩ := Rs.and_ok h
    injection h with h
    subst h
    have := redirF_wt _ _ h1
    dsimp only at this
    show wtW a.1 + wtP a.2.1 + wtP (a.2.2 ++ [l.1]) + tw l.2 ≤ _
    simp only [wtP_append, wtP]
    omega
  · split at h
    · rename_i k t r _
      split at h
      · split at h
        · rename_i y hy
          obtain ⟨l, h1, h⟩ := Rs.and_ok h
          injection h with h
          subst h
          have h2 := wpL_wt 30 _ l h1
          have h3 : y.1.length + y.2.length ≤ t.length := by
            split at hy
            · exact asgF_len hy
            · cases hy
          show wtW a.1 + wtP (a.2.1 ++ [(y.1, l)]) + wtP a.2.2 + tw r ≤ _
          simp only [wtP_append, wtP, tw]
          omega
        · obtain ⟨l, h1, h⟩ := Rs.and_ok h
          injection h with h
          subst h
          have h2 := wpL_wt 30 _ l h1
          show wtW (a.1 ++ [l]) + wtP a.2.1 + wtP a.2.2 + tw r ≤ _
          simp only [wtW_append, wtW, tw]
          omega
      · split at h
        · cases h
        · injection h with h
          subst h
          show Nd.wt _ - 2 + tw ((k, t) :: r) ≤ _
          simp only [Nd.wt, wtO, wtNs, List.length_nil]
          omega
    · split at h
      · cases h
      · injection h with h
        subst h
        show Nd.wt _ - 2 + tw [] ≤ _
        simp only [Nd.wt, wtO, wtNs, List.length_nil]
        omega
theorem simple_first {a : List (List Pt) × List (Txt × List Pt) × List (Txt × List Pt)} {s : Ts} {x : Nd × Ts} (h : manyF simpleS ([], [], []) s = .ok x) : x.1.wt + 16 + tw x.2 ≤ tw s := by
  rw [manyF_step simpleS_sinks] at h
  obtain ⟨y, h1, h⟩ := Rs.and_ok h
  have h0 := simpleS_wt _ _ _ h1
  cases y with
  | inr y =>
    exfalso
    unfold simpleS at h1
    split at h1
    · obtain ⟨l, _, h1⟩ := Rs.and_ok h1
      cases h1
    · split at h1
      · split at h1
        · split at h1 <;> (obtain ⟨l, _, h1⟩ := Rs.and_ok h1; cases h1)
        · simp at h1
      · simp at h1
  | inl y =>
    have h2 := manyF_wt simpleS_wt h
    have h3 : wtW y.1.1 + wtP y.1.2.1 + wtP y.1.2.2 + 18 + tw y.2 ≤ tw s := by
      unfold simpleS at h1
      split at h1
      · obtain ⟨l, g1, h1⟩ := Rs.and_ok h1
        injection h1 with h1
        injection h1 with h1
        subst h1
        have := redirF_wt _ _ g1
        dsimp only at this
        simp only [List.nil_append, wtP, wtW]
        omega
      · split at h1
        · split at h1
          · split at h1
            · rename_i k t r _ _ _ z hz
              obtain ⟨l, g1, h1⟩ := Rs.and_ok h1
              injection h1 with h1
              injection h1 with h1
              subst h1
              have g2 := wpL_wt 30 _ l g1
              have g3 : z.1.length + z.2.length ≤ t.length := by
                split at hz
                · exact asgF_len hz
                · cases hz
              simp only [List.nil_append, wtP, wtW, tw]
              omega
            · obtain ⟨l, g1, h1⟩ := Rs.and_ok h1
              injection h1 with h1
              injection h1 with h1
              subst h1
              have g2 := wpL_wt 30 _ l g1
              simp only [List.nil_append, wtP, wtW, tw]
              omega
          · split at h1
            · cases h1
            · injection h1 with h1
              cases h1
        · split at h1
          · cases h1
          · injection h1 with h1
            cases h1
    have h4 := x.1.wt_eq
    omega
theorem simpleF_wt : Wt Nd.wt 16 simpleF := fun s x h => simple_first (a := ([], [], [])) h
theorem pipeN_wt (neg : Bool) (ks : List Nd) : (pipeN neg ks).wt ≤ 2 + wtNs ks := by
  unfold pipeN
  split
  · split
    · simp only [Nd.wt, wtW, wtP, wtO, wtNs, List.length_nil]; omega
    · simp only [wtNs]; omega
  · simp only [Nd.wt, wtW, wtP, wtO, List.length_nil]; omega
theorem pipeS_wt {cmd : Pr Nd} (hc : Wt Nd.wt 16 cmd) (neg : Bool) : WtS wtNs (fun x => x.wt - 2) (pipeS cmd neg) := by
  intro a s x h
  unfold pipeS at h
  split at h
  · rename_i hp
    obtain ⟨l, h1, h⟩ := Rs.and_ok h
    injection h with h
    subst h
    have h2 := hc _ _ h1
    have h3 := tw_lines s.tail
    have h4 := tw_tail s
    show wtNs (a ++ [l.1]) + tw l.2 ≤ _
    simp only [wtNs_append, wtNs]
    omega
  · injection h with h
    subst h
    have := pipeN_wt neg a
    show (pipeN neg a).wt - 2 + tw s ≤ _
    omega
theorem pipeF_wt {cmd : Pr Nd} (hc : Wt Nd.wt 16 cmd) : Wt Nd.wt 14 (pipeF cmd) := by
  intro s x h
  obtain ⟨y, h1, h⟩ := Rs.and_ok h
  have h2 := hc _ _ h1
  have h3 := manyF_wt (pipeS_wt hc _) h
  have h4 := tw_ite (isT 0 tBang s) s
  have h5 := x.1.wt_eq
  simp only [wtNs] at h3
  omega
theorem andN_wt (os : List Txt) (ks : List Nd) : (andN os ks).wt ≤ 2 + wtO os + wtNs ks := by
  unfold andN
  split
  · split
    · simp only [wtNs]; omega
    · simp only [Nd.wt, wtW, wtP, wtO, List.length_nil]; omega
  · simp only [Nd.wt, wtW, wtP, List.length_nil]; omega
theorem andS_wt {cmd : Pr Nd} (hc : Wt Nd.wt 16 cmd) : WtS (fun a => wtO a.1 + wtNs a.2) (fun x => x.wt - 2) (andS cmd) := by
  intro a s x h
  unfold andS at h
  split at h
  · rename_i k t r
    split at h
    · obtain ⟨l, h1, h⟩ := Rs.and_ok h
      injection h with h
      subst h
      have h2 := pipeF_wt hc _ _ h1
      have h3 := tw_lines r
      show wtO (a.1 ++ [t]) + wtNs (a.2 ++ [l.1]) + tw l.2 ≤ _
      simp only [wtNs_append, wtO_append, wtNs, wtO, tw]
      omega
    · injection h with h
      subst h
      have := andN_wt a.1 a.2
      show (andN a.1 a.2).wt - 2 + tw _ ≤ wtO a.1 + wtNs a.2 + tw _
      dsimp only
      omega
  · injection h with h
    subst h
    have := andN_wt a.1 a.2
    show (andN a.1 a.2).wt - 2 + tw _ ≤ wtO a.1 + wtNs a.2 + tw _
    dsimp only
    omega
theorem andF_wt {cmd : Pr Nd} (hc : Wt Nd.wt 16 cmd) : Wt Nd.wt 12 (andF cmd) := by
  intro s x h
  obtain ⟨y, h1, h⟩ := Rs.and_ok h
  have h2 := pipeF_wt hc _ _ h1
  have h3 := manyF_wt (andS_wt hc) h
  have h5 := x.1.wt_eq
  simp only [wtNs, wtO] at h3
  omega
theorem listN_wt (ks : List Nd) : (listN ks).wt = 2 + wtNs ks := by
  unfold listN
  simp only [Nd.wt, wtW, wtP, wtO, List.length_nil]
theorem listS_wt {cmd : Pr Nd} (hc : Wt Nd.wt 16 cmd) : WtS wtNs (fun x => x.wt - 2) (listS cmd) := by
  intro a s x h
  unfold listS at h
  split at h
  · injection h with h
    subst h
    have := listN_wt a
    show (listN a).wt - 2 + tw s ≤ _
    omega
  · obtain ⟨y, h1, h⟩ := Rs.and_ok h
    have h2 := andF_wt hc _ _ h1
    have h3 := tw_lines y.2
    have h4 := tw_lines y.2.tail
    have h5 := tw_tail y.2
    split at h
    · injection h with h
      subst h
      show wtNs (a ++ [y.1]) + tw (linesF y.2.tail) ≤ _
      simp only [wtNs_append, wtNs]
      omega
    · split at h
      · injection h with h
        subst h
        show wtNs (a ++ [y.1]) + tw (linesF y.2) ≤ _
        simp only [wtNs_append, wtNs]
        omega
      · injection h with h
        subst h
        have := listN_wt (a ++ [y.1])
        show (listN (a ++ [y.1])).wt - 2 + tw y.2 ≤ _
        simp only [wtNs_append, wtNs] at this
        omega
theorem listF_wt {cmd : Pr Nd} (hc : Wt Nd.wt 16 cmd) {s : Ts} {x : Nd × Ts} (h : listF cmd s = .ok x) : x.1.wt + tw x.2 ≤ 2 + tw s := by
  have h1 := manyF_wt (listS_wt hc) h
  have h2 := tw_lines s
  have h5 := x.1.wt_eq
  simp only [wtNs] at h1
  omega
theorem someF_wt {cmd : Pr Nd} (hc : Wt Nd.wt 16 cmd) {s : Ts} {x : Nd × Ts} (h : someF cmd s = .ok x) : x.1.wt + tw x.2 ≤ 2 + tw s := by
  obtain ⟨y, h1, h⟩ := Rs.and_ok h
  split at h
  · cases h
  · injection h with h
    subst h
    exact listF_wt hc h1
theorem tookF_wt {k : Nat} {t : Txt} {x y : Nd × Ts} (h : tookF k t x = .ok y) : y.1 = x.1 ∧ tw y.2 + 20 ≤ tw x.2 := by
  unfold tookF at h
  split at h
  · rename_i hp
    injection h with h
    subst h
    have := tw_is hp
    exact ⟨rfl, by dsimp only; omega⟩
  · cases h
theorem insideF_wt {cmd : Pr Nd} (hc : Wt Nd.wt 16 cmd) (kind : Int) (k : Nat) (t : Txt) : Wt Nd.wt 16 (insideF cmd kind k t) := by
  intro s x h
  obtain ⟨y, h1, h⟩ := Rs.and_ok h
  have h2 := someF_wt hc h1
  obtain ⟨e, h3⟩ := tookF_wt h
  rw [e]
  simp only [Nd.wt, wtW, wtP, wtO, wtNs, List.length_nil]
  dsimp only at h3
  omega
theorem branchF_wt {cmd br : Pr Nd} (hc : Wt Nd.wt 16 cmd) (hb : ∀ s x, br s = .ok x → x.1.wt + tw x.2 ≤ tw s + 4) : ∀ s x, branchF cmd br s = .ok x → x.1.wt + tw x.2 ≤ tw s + 4 := by
  intro s x h
  obtain ⟨c, h1, h⟩ := Rs.and_ok h
  obtain ⟨c', h2, h⟩ := Rs.and_ok h
  obtain ⟨t, h3, h⟩ := Rs.and_ok h
  have g1 := someF_wt hc h1
  obtain ⟨e2, g2⟩ := tookF_wt h2
  have g3 := someF_wt hc h3
  rw [e2] at h
  split at h
  · rename_i hx
    obtain ⟨y, h4, h⟩ := Rs.and_ok h
    injection h with h
    subst h
    have g4 := hb _ _ h4
    have g5 := tw_is hx
    show Nd.wt _ + tw y.2 ≤ _
    simp only [Nd.wt, wtW, wtP, wtO, wtNs, List.length_nil, listN_wt]
    omega
  · split at h
    · rename_i hx
      obtain ⟨y, h4, h⟩ := Rs.and_ok h
      injection h with h
      subst h
      have g4 := someF_wt hc h4
      have g5 := tw_is hx
      show Nd.wt _ + tw y.2 ≤ _
      simp only [Nd.wt, wtW, wtP, wtO, wtNs, List.length_nil]
      omega
    · injection h with h
      subst h
      show Nd.wt _ + tw t.2 ≤ _
      simp only [Nd.wt, wtW, wtP, wtO, wtNs, List.length_nil]
      omega
theorem bodyF_wt {cmd : Pr Nd} (hc : Wt Nd.wt 16 cmd) {s : Ts} {x : Nd × Ts} (h : bodyF cmd s = .ok x) : x.1.wt + 30 + tw x.2 ≤ tw s := by
  unfold bodyF at h
  split at h
  · rename_i hp
    obtain ⟨y, h1, h⟩ := Rs.and_ok h
    have h2 := someF_wt hc h1
    obtain ⟨e, h3⟩ := tookF_wt h
    have h4 := tw_is hp
    rw [e]
    omega
  · cases h
theorem loopSF_wt {cmd : Pr Nd} (hc : Wt Nd.wt 16 cmd) (nm : Txt) {s : Ts} {x : Nd × Ts} (h : loopSF cmd nm s = .ok x) : x.1.wt + 26 + tw x.2 ≤ tw s + nm.length := by
  obtain ⟨c, h1, h⟩ := Rs.and_ok h
  obtain ⟨b, h2, h⟩ := Rs.and_ok h
  injection h with h
  subst h
  have g1 := someF_wt hc h1
  have g2 := bodyF_wt hc h2
  show Nd.wt _ + 26 + tw b.2 ≤ _
  simp only [Nd.wt, wtW, wtP, wtO, wtNs, List.length_nil]
  omega
theorem wordsS_wt : WtS wtW wtW wordsS := by
  intro a s x h
  unfold wordsS at h
  split at h
  · obtain ⟨l, h1, h⟩ := Rs.and_ok h
    injection h with h
    subst h
    have := partsF_wt _ _ h1
    show wtW (a ++ [l.1]) + tw l.2 ≤ _
    simp only [wtW_append, wtW]
    omega
  · injection h with h
    subst h
    exact Nat.le_refl _
theorem eachE_wt {cmd : Pr Nd} (hc : Wt Nd.wt 16 cmd) (nm : Txt) (ws : List (List Pt)) (os : List Txt) {s : Ts} {x : Nd × Ts} (h : eachE cmd nm ws os s = .ok x) : x.1.wt + 26 + tw x.2 ≤ tw s + nm.length + wtW ws + wtO os := by
  obtain ⟨b, h2, h⟩ := Rs.and_ok h
  injection h with h
  subst h
  have g2 := bodyF_wt hc h2
  have g3 := tw_lines (if isT 1 tSemi s = true then s.tail else s)
  have g4 := tw_ite (isT 1 tSemi s) s
  show Nd.wt _ + 26 + tw b.2 ≤ _
  simp only [Nd.wt, wtP, wtNs]
  omega
theorem eachF_wt {cmd : Pr Nd} (hc : Wt Nd.wt 16 cmd) : Wt Nd.wt 16 (eachF cmd) := by
  intro s x h
  match s with
  | [] => cases h
  | (k, t) :: r =>
    have g1 := tw_lines r
    simp only [eachF] at h
    split at h
    · split at h
      · rename_i hi
        have g2 := tw_is hi
        obtain ⟨y, h1, h⟩ := Rs.and_ok h
        have g3 := manyF_wt wordsS_wt h1
        split at h
        · have g4 := eachE_wt hc _ _ _ h
          simp only [wtO, wtW, tw, List.length_cons, List.length_nil] at g2 g3 g4 ⊢
          omega
        · cases h
      · have g4 := eachE_wt hc _ _ _ h
        simp only [wtO, wtW, tw] at g4 ⊢
        omega
    · cases h
theorem orsS_wt : WtS wtW wtW orsS := by
  intro a s x h
  unfold orsS at h
  split at h
  · obtain ⟨l, h1, h⟩ := Rs.and_ok h
    injection h with h
    subst h
    have := partsF_wt _ _ h1
    have := tw_tail s
    show wtW (a ++ [l.1]) + tw l.2 ≤ _
    simp only [wtW_append, wtW]
    omega
  · injection h with h
    subst h
    exact Nat.le_refl _
theorem itemF_wt {cmd : Pr Nd} (hc : Wt Nd.wt 16 cmd) : Wt Nd.wt 16 (itemF cmd) := by
  intro s x h
  obtain ⟨w, h1, h⟩ := Rs.and_ok h
  obtain ⟨ws, h2, h⟩ := Rs.and_ok h
  have g1 := partsF_wt _ _ h1
  have g2 := manyF_wt orsS_wt h2
  have g3 := tw_ite (isT 1 tOpen s) s
  simp only [wtW] at g2
  split at h
  · rename_i hx
    have g4 := tw_is hx
    obtain ⟨y, h3, h⟩ := Rs.and_ok h
    injection h with h
    subst h
    have g5 := listF_wt hc h3
    show Nd.wt _ + 16 + tw y.2 ≤ _
    simp only [Nd.wt, wtP, wtO, wtNs, List.length_nil]
    omega
  · cases h
theorem caseS_wt {cmd : Pr Nd} (hc : Wt Nd.wt 16 cmd) (w : List Pt) : WtS wtNs (fun x => x.wt - (4 + wtL w)) (caseS cmd w) := by
  intro a s x h
  unfold caseS at h
  split at h
  · injection h with h
    subst h
    have := tw_tail s
    show Nd.wt _ - _ + tw s.tail ≤ _
    simp only [Nd.wt, wtW, wtP, wtO, List.length_nil]
    omega
  · obtain ⟨y, h1, h⟩ := Rs.and_ok h
    have h2 := itemF_wt hc _ _ h1
    have h3 := tw_lines y.2
    have h4 := tw_lines y.2.tail
    have h5 := tw_tail y.2
    split at h
    · injection h with h
      subst h
      show wtNs (a ++ [y.1]) + tw (linesF y.2.tail) ≤ _
      simp only [wtNs_append, wtNs]
      omega
    · split at h
      · injection h with h
        subst h
        show wtNs (a ++ [y.1]) + tw (linesF y.2) ≤ _
        simp only [wtNs_append, wtNs]
        omega
      · cases h
theorem casesF_wt {cmd : Pr Nd} (hc : Wt Nd.wt 16 cmd) : Wt Nd.wt 16 (casesF cmd) := by
  intro s x h
  obtain ⟨w, h1, h⟩ := Rs.and_ok h
  have g1 := partsF_wt _ _ h1
  split at h
  · rename_i hx
    have g2 := manyF_wt (caseS_wt hc _) h
    have g3 := tw_lines w.2
    have g4 := tw_is hx
    have g5 := tw_lines (linesF w.2).tail
    simp only [wtNs] at g2
    omega
  · cases h
theorem defF_wt {cmd : Pr Nd} (hc : Wt Nd.wt 16 cmd) : Wt Nd.wt 16 (defF cmd) := by
  intro s x h
  match s with
  | [] => cases h
  | (k, t) :: r =>
    simp only [defF] at h
    obtain ⟨y, h1, h⟩ := Rs.and_ok h
    have g1 := hc _ _ h1
    have g2 := tw_lines r.tail.tail
    have g3 := tw_tail r
    have g4 := tw_tail r.tail
    split at h
    · injection h with h
      subst h
      show Nd.wt _ + 16 + tw y.2 ≤ _
      simp only [Nd.wt, wtW, wtP, wtO, wtNs, tw]
      omega
    · cases h
theorem withR_wt {x y : Nd × Ts} (h : withR x = .ok y) : y.1.wt + tw y.2 ≤ x.1.wt + tw x.2 := by
  obtain ⟨z, h1, h⟩ := Rs.and_ok h
  injection h with h
  subst h
  have g := manyF_wt redirsS_wt h1
  have e := x.1.wt_eq
  show Nd.wt _ + tw z.2 ≤ _
  simp only [Nd.wt]
  simp only [wtP] at g
  omega
theorem compF_wt {cmd br : Pr Nd} (hc : Wt Nd.wt 16 cmd) (hb : ∀ s x, br s = .ok x → x.1.wt + tw x.2 ≤ tw s + 4) {s : Ts} {f : Rs (Nd × Ts)} (hf : compF cmd br s = some f) {x : Nd × Ts} (h : f = .ok x) : x.1.wt + 16 + tw x.2 ≤ tw s := by
  have g := tw_tail s
  unfold compF at hf
  subst h
  split at hf
  · have := insideF_wt hc _ _ _ _ _ (Option.some.inj hf); omega
  split at hf
  · have := insideF_wt hc _ _ _ _ _ (Option.some.inj hf); omega
  split at hf
  · rename_i hx
    obtain ⟨y, h1, h2⟩ := Rs.and_ok (Option.some.inj hf)
    have g1 := hb _ _ h1
    obtain ⟨e, g2⟩ := tookF_wt h2
    have g3 := tw_is hx
    rw [e]
    omega
  split at hf
  · rename_i hx
    have := loopSF_wt hc _ (Option.some.inj hf)
    have g3 := tw_is hx
    simp only [List.length_cons, List.length_nil] at this g3
    omega
  split at hf
  · rename_i hx
    have := loopSF_wt hc _ (Option.some.inj hf)
    have g3 := tw_is hx
    simp only [List.length_cons, List.length_nil] at this g3
    omega
  split at hf
  · have := eachF_wt hc _ _ (Option.some.inj hf); omega
  split at hf
  · have := casesF_wt hc _ _ (Option.some.inj hf); omega
  · cases hf
theorem commandF_wt {cmd br : Pr Nd} (hc : Wt Nd.wt 16 cmd) (hb : ∀ s x, br s = .ok x → x.1.wt + tw x.2 ≤ tw s + 4) : Wt Nd.wt 16 (commandF cmd br) := by
  intro s x h
  unfold commandF at h
  split at h
  · rename_i f hf
    obtain ⟨y, h1, h⟩ := Rs.and_ok h
    have g1 := compF_wt hc hb hf h1
    have g2 := withR_wt h
    omega
  · split at h
    · cases h
    · split at h
      · exact defF_wt hc _ _ h
      · exact simpleF_wt _ _ h
theorem lvS_wt : ∀ L, Wt Nd.wt 16 (lvS L).1 ∧ ∀ s x, (lvS L).2 s = .ok x → x.1.wt + tw x.2 ≤ tw s + 4
  | 0 => ⟨fun s x h => (by cases h), fun s x h => (by cases h)⟩
  | L + 1 => by
    obtain ⟨h1, h2⟩ := lvS_wt L
    have hb := branchF_wt h1 h2
    exact ⟨commandF_wt h1 hb, hb⟩
theorem scriptF_wt {s : Ts} {x : Nd} (h : scriptF s = .ok x) : x.wt ≤ 2 + tw s := by
  obtain ⟨y, h1, h⟩ := Rs.and_ok h
  split at h
  · injection h with h
    subst h
    have := listF_wt (lvS_wt 30).1 h1
    omega
  · cases h
end Go.Proofs.YtcoeiiihmpnagaaGreatDoor
namespace Go.Proofs.YtcoeiiihmpnagaaGreatDoor
open Go.RowKit Vc
abbrev Still (w w' : World) : Prop := Mod (fun _ => False) w w'
theorem Still.trans {a b c : World} (h : Still a b) (k : Still b c) : Still a c := Mod.trans h k (fun _ h => h) (fun _ _ h => h)
theorem Still.refl (w : World) : Still w w := Mod.refl _ _
theorem Still.toDrew {a b : World} (h : Still a b) : Still a b.drew := Mod.drew h
theorem Still.ofDrew {a b : World} (h : Still a.drew b) : Still a b := ⟨h.os, h.tape, h.output, h.size, h.block⟩
theorem Still.cell {w w' : World} {a : Addr} {v : Value} (hm : Still w w') (h : w.cell? a = some v) : w'.cell? a = some v :=
  (World.cell?_of_block (hm.block _ (World.block_lt_of_cell? _ _ h) (fun h => h))).trans h
theorem Still.box {w w1 w2 : World} {g : Nat} (h : Still w w1) (hg : w.heap.size ≤ g) (hm : Mod (fun i => i = g) w1 w2) : Still w w2 := Mod.trans h hm (fun _ h => h) (fun i hi e => by omega)
theorem Still.trans' {a b c : World} (h : Still a b) {B : Nat} (k : Below B b c) (hB : a.heap.size ≤ B) : Still a c :=
  ⟨k.os.trans h.os, k.tape.trans h.tape, k.output.trans h.output, Nat.le_trans h.size k.size, fun i hi hn => (k.block i (by omega)).trans (h.block i hi hn)⟩
theorem Row.still {w w' : World} {g : Nat} {t : TypeId} {cs : Array Value} (h : Row w g t cs) (hm : Still w w') : Row w' g t cs := h.mod hm (fun h => h)
theorem Owns.still {w w' : World} {B : Nat} {e : TypeId} {size : Nat} {v : Value} {n : Nat} {xs : List Value} (h : Owns w B e size v n xs) (hm : Still w w') : Owns w' B e size v n xs := h.mod hm (fun _ _ h => h)
theorem Row.lget {w : World} {g : Nat} {t : TypeId} {l : List Value} (h : Row w g t ⟨l⟩) {i : Nat} {v : Value} (hv : l[i]? = some v) : w.cell? ⟨g, i, none⟩ = some v := h.cellv (by simpa using hv)
theorem adds (a : Addr) (i j : Nat) : (a.add i).add j = a.add (i + j) := by
  unfold Addr.add
  by_cases hi : i = 0 <;> by_cases hj : j = 0 <;> simp [hi, hj, Nat.add_assoc]
theorem letIn {w : World} {C : World → Prop} (h : C w) : letW w C := h
theorem allocK {w : World} {cs : List Value} {t : TypeId} {C : World → Prop} (h : ∀ w1, Row w1 w.heap.size t ⟨cs⟩ → Still w w1 → w1.heap.size = w.heap.size + 1 → C w1) : letW (w.alloc (.cells ⟨cs⟩ t)) C :=
  h _ (Row.new w t ⟨cs⟩) ((Mod.refl _ _).alloc _) (World.size_alloc ..)
def ovw (cs : List Value) : Nat → List Value → List Value
  | _, [] => cs
  | o, v :: vs => ovw (cs.set o v) (o + 1) vs
theorem stCells_row {g : Nat} {t : TypeId} : ∀ {vs : List Value} {w : World} {cs : List Value} {i o : Nat} {K : World → Prop}, Row w g t ⟨cs⟩ → o + i + vs.length ≤ cs.length → (∀ v ∈ vs, v.oneCell' = true) →
    (∀ w', Row w' g t ⟨ovw cs (o + i) vs⟩ → Mod (fun k => k = g) w w' → w'.heap.size = w.heap.size → K w') → stCells (Addr.mk g o none) K i vs w
  | [], w, cs, i, o, K, hr, _, _, h => h w hr (Mod.refl _ _) rfl
  | v :: vs, w, cs, i, o, K, hr, hl, h1, h => by
    simp only [List.length_cons] at hl
    refine bsel_of (fun _ => ?_) (fun hv => by rw [h1 v (by simp)] at hv; cases hv)
    rw [add_row]
    have hr2 := hr.setl (o + i) v
    refine ⟨hr.wr (o + i) (by simp; omega), stCells_row hr2 (by simp; omega) (fun u hu => h1 u (by simp [hu])) fun w' h3 h4 h5 => h w' h3 ?_ (h5.trans (by simp [World.setCell]))⟩
    exact Mod.trans ((Mod.refl (fun k => k = g) w).setCell (p := Addr.mk g (o + i) none) (.inl rfl) v) h4 (fun _ h => h) (fun _ _ h => h)
theorem stK {g : Nat} {t : TypeId} {vs : List Value} {w : World} {cs : List Value} {o : Nat} {K : World → Prop} (hr : Row w g t ⟨cs⟩) (hl : o + vs.length ≤ cs.length) (h1 : ∀ v ∈ vs, v.oneCell' = true)
    (h : ∀ w', Row w' g t ⟨ovw cs o vs⟩ → Mod (fun k => k = g) w w' → w'.heap.size = w.heap.size → K w') : stCells (Addr.mk g o none) K 0 vs w :=
  stCells_row hr (by simpa using hl) h1 fun w' h2 h3 h4 => h w' (by simpa using h2) h3 h4
theorem boxK {w : World} {cs : List Value} {t : TypeId} {vs : List Value} {K : World → Prop} (hl : vs.length = cs.length) (h1 : ∀ v ∈ vs, v.oneCell' = true)
    (h : ∀ w', Row w' w.heap.size t ⟨vs⟩ → Still w w' → w'.heap.size = w.heap.size + 1 → K w') : letW (w.alloc (.cells ⟨cs⟩ t)) (fun w1 => stCells (Addr.mk w.heap.size 0 none) K 0 vs w1) := by
  refine allocK fun w1 hr hs hz => stK hr (by omega) h1 fun w' h2 h3 h4 => h w' ?_ (hs.box (Nat.le_refl _) h3) (by omega)
  have e : ∀ (vs cs : List Value) (pre : List Value), vs.length = cs.length → ovw (pre ++ cs) pre.length vs = pre ++ vs := by
    intro vs
    induction vs with
    | nil => intro cs pre h; cases cs with
      | nil => rfl
      | cons c cs => cases h
    | cons v vs ih => intro cs pre h; cases cs with
      | nil => cases h
      | cons c cs =>
        have := ih cs (pre ++ [v]) (by simpa using h)
        simp only [ovw, List.set_append_right _ _ (Nat.le_refl pre.length), Nat.sub_self, List.set_cons_zero]
        simpa using this
  have := e vs cs [] hl
  simp only [List.nil_append, List.length_nil] at this
  rwa [this] at h2
theorem Owns.ownLt {w : World} {B : Nat} {e : TypeId} {size : Nat} {v : Value} {n : Nat} {xs : List Value} (h : Owns w B e size v n xs) {k : Nat} (hk : v.ownBlock = some k) : B ≤ k := (h.lt k hk).1
theorem Still.own {w0 w w' : World} {B : Nat} {e : TypeId} {size : Nat} {v : Value} {n : Nat} {xs : List Value} (h : Still w0 w) (ho : Owns w B e size v n xs) (hB : w0.heap.size ≤ B) (hm : Mod (fun k => v.ownBlock = some k) w w') : Still w0 w' :=
  Mod.trans h hm (fun _ h => h) (fun i hi e => by have := ho.ownLt e; omega)
theorem Row.own {w w' : World} {B g : Nat} {e t : TypeId} {cs : Array Value} {size : Nat} {v : Value} {n : Nat} {xs : List Value} (h : Row w g t cs) (ho : Owns w B e size v n xs) (hg : g < B ∨ t ≠ e) (hm : Mod (fun k => v.ownBlock = some k) w w') : Row w' g t cs :=
  h.mod hm fun hk => by
    rcases hg with hg | hg
    · have := ho.ownLt hk; omega
    · obtain ⟨cur, hc⟩ := ho.typed hk
      exact h.ne hc hg rfl
theorem appK_push {w : World} {B : Nat} {e : TypeId} {sz bytes : Nat} {p q : Option Addr} {n c m : Nat} {xs : List Value} {K : Option Addr → Nat → World → Prop} (ho : Owns w B e sz (.slice p n c) n xs) (hB : B ≤ w.heap.size) (news : List Value)
    (hn : news.length = m * sz) (h1 : ∀ u ∈ news, u.oneCell' = true) (hq : 0 < m → ∃ a, q = some a ∧ ∀ j u, news[j]? = some u → w.cell? (a.add j) = some u) (hs : n + m ≤ 9223372036854775807) (hb : (n + m) * bytes ≤ 140737488355328)
    (h : ∀ p' c' w', Owns w' B e sz (.slice p' (n + m) c') (n + m) (xs ++ news) → Mod (fun k => (Value.slice p n c).ownBlock = some k) w w' → Blk p p' (n + m) c c' w.heap.size → K p' c' w') : appK w e sz bytes p n c q m K := by
  refine ⟨xs, news, ho.base0, hn, h1, hq, hs, hb, fun p' c' w' ho' hg hk => h p' c' w' (ho'.base fun k hk' => ?_) ((Mod.refl _ _).grown hg fun g hg => .inl hg) hk⟩
  rcases hk.own (n := n) with hk | hk
  · exact (ho.lt k (hk.symm.trans hk')).1
  · rw [hk'] at hk
    obtain rfl := Option.some.inj hk
    exact hB
theorem Owns.apart {w : World} {B B' : Nat} {e e' : TypeId} {size size' : Nat} {v v' : Value} {n n' : Nat} {xs xs' : List Value} (h : Owns w B e size v n xs) (h' : Owns w B' e' size' v' n' xs') (hne : e ≠ e') {k : Nat} (hk : v.ownBlock = some k) : v'.ownBlock ≠ some k := by
  intro hk'
  obtain ⟨cur, hr⟩ := h.typed hk
  obtain ⟨cur', hr'⟩ := h'.typed hk'
  exact hr.ne hr' hne rfl
def At (w : World) (p : Option Addr) (n : Nat) (cs : List Value) : Prop := 0 < n → ∃ a, p = some a ∧ ∀ (j : Nat) (u : Value), cs[j]? = some u → w.cell? (a.add j) = some u
theorem At.still {w w' : World} {p : Option Addr} {n : Nat} {cs : List Value} (h : At w p n cs) (hm : Still w w') : At w' p n cs := fun hn => by
  obtain ⟨a, h1, h2⟩ := h hn
  exact ⟨a, h1, fun j u hu => hm.cell (h2 j u hu)⟩
def Ahead (B : Nat) (p : Option Addr) : Prop := ∀ a, p = some a → a.block < B
theorem At.from {w w' : World} {p : Option Addr} {n B : Nat} {cs : List Value} (h : At w p n cs) (hp : Ahead B p) {S : Nat → Prop} (hm : Mod S w w') (hS : ∀ k, S k → B ≤ k) : At w' p n cs := fun hn => by
  obtain ⟨a, rfl, h2⟩ := h hn
  refine ⟨a, rfl, fun j u hu => ?_⟩
  have hc := h2 j u hu
  have hb : (a.add j).block = a.block := by unfold Addr.add; split <;> rfl
  refine (World.cell?_of_block (hm.block _ (World.block_lt_of_cell? _ _ hc) (fun e => ?_))).trans hc
  have := hS _ e
  have := hp a rfl
  omega
theorem At.own {w : World} {B : Nat} {e : TypeId} {size : Nat} {p : Option Addr} {n C : Nat} {cs : List Value} (h : Owns w B e size (.slice p n C) n cs) : At w p n cs := fun hn => by
  obtain ⟨g, cap, he, _, _, _, hc⟩ := h.ownAddr hn
  injection he with e1 e2 e3
  subst e1
  refine ⟨_, rfl, fun j u hu => ?_⟩
  rw [add_row, Nat.zero_add]
  exact hc j u hu
theorem At.row {w : World} {g n : Nat} {t : TypeId} {cs : List Value} (h : Row w g t ⟨cs⟩) : At w (some ⟨g, 0, none⟩) n cs := fun _ => ⟨_, rfl, fun j u hu => by
  rw [add_row, Nat.zero_add]
  exact h.lget hu⟩
end Go.Proofs.YtcoeiiihmpnagaaGreatDoor
namespace Go.Proofs.YtcoeiiihmpnagaaGreatDoor
open Go.RowKit Vc
variable {w : World}
theorem add_block (a : Addr) (i : Nat) : (a.add i).block = a.block := by unfold Addr.add; split <;> rfl
def pcell (p : Pt) (v : Value) : List Value := [.int .i64 p.k, .bool p.q, .string (S p.t), .string (S p.n), .string (S p.o), v]
mutual
def PtAt (w : World) (F : Nat → Prop) : Pt → Addr → Prop
  | .mk k q t n o l, a => ∃ p c, (∀ (j : Nat) (u : Value), (pcell (.mk k q t n o l) (.slice p l.length c))[j]? = some u → w.cell? (a.add j) = some u) ∧ l.length ≤ c ∧ (l ≠ [] → ∃ b, p = some b ∧ F b.block ∧ PsAt w F l b)
def PsAt (w : World) (F : Nat → Prop) : List Pt → Addr → Prop
  | [], _ => True
  | x :: r, a => PtAt w F x a ∧ PsAt w F r (a.add 6)
end
def SlAt (w : World) (F : Nat → Prop) (l : List Pt) (v : Value) : Prop := ∃ p c, v = .slice p l.length c ∧ l.length ≤ c ∧ (l ≠ [] → ∃ b, p = some b ∧ F b.block ∧ PsAt w F l b)
theorem PtAt.out {F : Nat → Prop} {x : Pt} {a : Addr} (h : PtAt w F x a) : ∃ v, (∀ (j : Nat) (u : Value), (pcell x v)[j]? = some u → w.cell? (a.add j) = some u) ∧ SlAt w F x.w v := by
  cases x with
  | mk k q t n o l =>
    simp only [PtAt] at h
    obtain ⟨p, c, h1, h2, h3⟩ := h
    exact ⟨_, h1, p, c, rfl, h2, h3⟩
theorem PtAt.of {F : Nat → Prop} {x : Pt} {a : Addr} {v : Value} (h : ∀ (j : Nat) (u : Value), (pcell x v)[j]? = some u → w.cell? (a.add j) = some u) (hs : SlAt w F x.w v) : PtAt w F x a := by
  cases x with
  | mk k q t n o l =>
    obtain ⟨p, c, rfl, h2, h3⟩ := hs
    simp only [PtAt]
    exact ⟨p, c, h, h2, h3⟩
theorem PsAt.get {F : Nat → Prop} : ∀ {l : List Pt} {a : Addr} {i : Nat} {x : Pt}, PsAt w F l a → l[i]? = some x → PtAt w F x (a.add (i * 6))
  | y :: r, a, 0, x, h, hx => by
    obtain rfl := Option.some.inj hx
    simp only [PsAt] at h
    have e : a.add (0 * 6) = a := by unfold Addr.add; simp
    rw [e]
    exact h.1
  | y :: r, a, i + 1, x, h, hx => by
    simp only [PsAt] at h
    have := PsAt.get (i := i) h.2 (by simpa using hx)
    rw [adds] at this
    rwa [show (i + 1) * 6 = 6 + i * 6 by omega]
theorem PsAt.of {F : Nat → Prop} : ∀ {l : List Pt} {a : Addr}, (∀ i x, l[i]? = some x → PtAt w F x (a.add (i * 6))) → PsAt w F l a
  | [], a, h => by simp only [PsAt]
  | y :: r, a, h => by
    simp only [PsAt]
    refine ⟨?_, PsAt.of fun i x hx => ?_⟩
    · have := h 0 y rfl
      have e : a.add (0 * 6) = a := by unfold Addr.add; simp
      rwa [e] at this
    · rw [adds]
      have := h (i + 1) x (by simpa using hx)
      rwa [show (i + 1) * 6 = 6 + i * 6 by omega] at this
mutual
theorem PtAt.turn {F G : Nat → Prop} {w' : World} (hF : ∀ k, F k → G k) (hw : ∀ a v, (∃ k, F k ∧ a.block = k) → w.cell? a = some v → w'.cell? a = some v) : ∀ {x : Pt} {a : Addr}, PtAt w F x a → F a.block → PtAt w' G x a
  | .mk k q t n o l, a, h, hb => by
    simp only [PtAt] at h ⊢
    obtain ⟨p, c, h1, h2, h3⟩ := h
    refine ⟨p, c, fun j u hu => hw _ _ ⟨_, hb, add_block a j⟩ (h1 j u hu), h2, fun hl => ?_⟩
    obtain ⟨b, rfl, h4, h5⟩ := h3 hl
    exact ⟨b, rfl, hF _ h4, PsAt.turn hF hw h5 h4⟩
theorem PsAt.turn {F G : Nat → Prop} {w' : World} (hF : ∀ k, F k → G k) (hw : ∀ a v, (∃ k, F k ∧ a.block = k) → w.cell? a = some v → w'.cell? a = some v) : ∀ {l : List Pt} {a : Addr}, PsAt w F l a → F a.block → PsAt w' G l a
  | [], a, h, hb => by simp only [PsAt]
  | x :: r, a, h, hb => by
    simp only [PsAt] at h ⊢
    exact ⟨PtAt.turn hF hw h.1 hb, PsAt.turn hF hw h.2 (by rw [add_block]; exact hb)⟩
end
theorem SlAt.turn {F G : Nat → Prop} {w' : World} (hF : ∀ k, F k → G k) (hw : ∀ a v, (∃ k, F k ∧ a.block = k) → w.cell? a = some v → w'.cell? a = some v) {l : List Pt} {v : Value} (h : SlAt w F l v) : SlAt w' G l v := by
  obtain ⟨p, c, rfl, h2, h3⟩ := h
  refine ⟨p, c, rfl, h2, fun hl => ?_⟩
  obtain ⟨b, rfl, h4, h5⟩ := h3 hl
  exact ⟨b, rfl, hF _ h4, PsAt.turn hF hw h5 h4⟩
theorem SlAt.mono {F G : Nat → Prop} (hF : ∀ k, F k → G k) {l : List Pt} {v : Value} (h : SlAt w F l v) : SlAt w G l v := h.turn hF (fun _ _ _ h => h)
theorem SlAt.any {F : Nat → Prop} {l : List Pt} {v : Value} (h : SlAt w F l v) : SlAt w (fun _ => True) l v := h.mono fun _ _ => trivial
theorem mod_cell {S : Nat → Prop} {w' : World} (hm : Mod S w w') {a : Addr} {v : Value} (hn : ¬ S a.block) (h : w.cell? a = some v) : w'.cell? a = some v :=
  (World.cell?_of_block (hm.block _ (World.block_lt_of_cell? _ _ h) hn)).trans h
theorem SlAt.mod {F S : Nat → Prop} {w' : World} {l : List Pt} {v : Value} (h : SlAt w F l v) (hm : Mod S w w') (hS : ∀ k, F k → ¬ S k) : SlAt w' F l v :=
  h.turn (fun _ h => h) fun a v ⟨k, hk, e⟩ hc => mod_cell hm (by rw [e]; exact hS k hk) hc
theorem SlAt.still {F : Nat → Prop} {w' : World} {l : List Pt} {v : Value} (h : SlAt w F l v) (hm : Still w w') : SlAt w' F l v := h.mod hm fun _ _ h => h
theorem SlAt.nil (w : World) (F : Nat → Prop) (p : Option Addr) (c : Nat) : SlAt w F [] (.slice p 0 c) := ⟨p, c, rfl, Nat.zero_le _, fun h => absurd rfl h⟩
theorem SlAt.here {F : Nat → Prop} {l : List Pt} {v : Value} (h : SlAt w F l v) : SlAt w (fun k => F k ∧ k < w.heap.size) l v := by
  have key : ∀ n, ∀ l : List Pt, SizeOf.sizeOf l < n → ∀ b, PsAt w F l b → F b.block → l ≠ [] → (b.block < w.heap.size ∧ PsAt w (fun k => F k ∧ k < w.heap.size) l b) := by
    intro n
    induction n with
    | zero => intro l h; omega
    | succ n ih =>
      intro l hl b hp hb hne
      have cell0 : b.block < w.heap.size := by
        obtain ⟨x, r, rfl⟩ := List.exists_cons_of_ne_nil hne
        simp only [PsAt] at hp
        obtain ⟨v, hc, _⟩ := hp.1.out
        have := World.block_lt_of_cell? _ _ (hc 0 _ rfl)
        rwa [add_block] at this
      refine ⟨cell0, PsAt.of fun i x hx => ?_⟩
      obtain ⟨v, hc, hs⟩ := (hp.get hx).out
      refine PtAt.of hc ?_
      obtain ⟨p, c, rfl, h2, h3⟩ := hs
      refine ⟨p, c, rfl, h2, fun hl2 => ?_⟩
      obtain ⟨b2, rfl, h4, h5⟩ := h3 hl2
      have hm := List.sizeOf_lt_of_mem (List.mem_of_getElem? hx)
      have hx2 : SizeOf.sizeOf x.w < SizeOf.sizeOf x := by cases x; simp only [Pt.w, Pt.mk.sizeOf_spec]; omega
      have := ih x.w (by omega) b2 h5 h4 hl2
      exact ⟨b2, rfl, ⟨h4, this.1⟩, this.2⟩
  obtain ⟨p, c, rfl, h2, h3⟩ := h
  refine ⟨p, c, rfl, h2, fun hl => ?_⟩
  obtain ⟨b, rfl, h4, h5⟩ := h3 hl
  have := key _ l (Nat.lt_succ_self _) b h5 h4 hl
  exact ⟨b, rfl, ⟨h4, this.1⟩, this.2⟩
theorem SlAt.get {F : Nat → Prop} {l : List Pt} {p : Option Addr} {n c : Nat} (h : SlAt w F l (.slice p n c)) {i : Nat} {x : Pt} (hx : l[i]? = some x) :
    ∃ b v, p = some b ∧ F b.block ∧ (∀ (j : Nat) (u : Value), (pcell x v)[j]? = some u → w.cell? ((b.add (i * 6)).add j) = some u) ∧ SlAt w F x.w v := by
  obtain ⟨p', c', he, h2, h3⟩ := h
  injection he with e1 e2 e3
  subst e1 e2 e3
  have hl : l ≠ [] := by rintro rfl; cases hx
  obtain ⟨b, rfl, h4, h5⟩ := h3 hl
  obtain ⟨v, h6, h7⟩ := (h5.get hx).out
  exact ⟨b, v, rfl, h4, h6, h7⟩
theorem SlAt.len {F : Nat → Prop} {l : List Pt} {p : Option Addr} {n c : Nat} (h : SlAt w F l (.slice p n c)) : n = l.length ∧ l.length ≤ c := by
  obtain ⟨p', c', he, h2, h3⟩ := h
  injection he with e1 e2 e3
  subst e3
  exact ⟨e2, h2⟩
theorem SlAt.form {F : Nat → Prop} {l : List Pt} {v : Value} (h : SlAt w F l v) : ∃ p c, v = .slice p l.length c := by
  obtain ⟨p, c, he, _⟩ := h
  exact ⟨p, c, he⟩
def Cs (w : World) (F : Nat → Prop) : List Pt → List Value → Prop
  | [], xs => xs = []
  | x :: r, xs => ∃ v ys, xs = pcell x v ++ ys ∧ SlAt w F x.w v ∧ Cs w F r ys
theorem Cs.len {F : Nat → Prop} : ∀ {l : List Pt} {xs : List Value}, Cs w F l xs → xs.length = l.length * 6
  | [], xs, h => by rw [show xs = [] from h]; rfl
  | x :: r, xs, ⟨v, ys, h1, h2, h3⟩ => by
    have := h3.len
    rw [h1]
    simp only [List.length_append, pcell, List.length_cons, List.length_nil, this]
    omega
theorem pcell_one {x : Pt} {v : Value} (hv : v.oneCell' = true) : ∀ u ∈ pcell x v, u.oneCell' = true := by
  intro u hu
  simp only [pcell, List.mem_cons, List.not_mem_nil, or_false] at hu
  rcases hu with rfl | rfl | rfl | rfl | rfl | rfl <;> first | rfl | exact hv
theorem SlAt.one {F : Nat → Prop} {l : List Pt} {v : Value} (h : SlAt w F l v) : v.oneCell' = true := by
  obtain ⟨p, c, rfl, _⟩ := h
  rfl
theorem Cs.one {F : Nat → Prop} : ∀ {l : List Pt} {xs : List Value}, Cs w F l xs → ∀ u ∈ xs, u.oneCell' = true
  | [], xs, h => by rw [show xs = [] from h]; simp
  | x :: r, xs, ⟨v, ys, h1, h2, h3⟩ => by
    intro u hu
    rw [h1] at hu
    rcases List.mem_append.1 hu with hu | hu
    · exact pcell_one h2.one u hu
    · exact h3.one u hu
theorem Cs.turn {F G : Nat → Prop} {w' : World} (hf : ∀ {l : List Pt} {v : Value}, SlAt w F l v → SlAt w' G l v) : ∀ {l : List Pt} {xs : List Value}, Cs w F l xs → Cs w' G l xs
  | [], xs, h => h
  | x :: r, xs, ⟨v, ys, h1, h2, h3⟩ => ⟨v, ys, h1, hf h2, h3.turn hf⟩
theorem Cs.append {F : Nat → Prop} : ∀ {l m : List Pt} {xs ys : List Value}, Cs w F l xs → Cs w F m ys → Cs w F (l ++ m) (xs ++ ys)
  | [], m, xs, ys, h, k => by rw [show xs = [] from h]; exact k
  | x :: r, m, xs, ys, ⟨v, zs, h1, h2, h3⟩, k => ⟨v, zs ++ ys, by rw [h1, List.append_assoc], h2, h3.append k⟩
theorem Cs.snoc {F : Nat → Prop} {l : List Pt} {xs : List Value} {x : Pt} {v : Value} (h : Cs w F l xs) (hv : SlAt w F x.w v) : Cs w F (l ++ [x]) (xs ++ pcell x v) :=
  h.append ⟨v, [], by simp, hv, rfl⟩
theorem Cs.split {F : Nat → Prop} : ∀ {l m : List Pt} {xs : List Value}, Cs w F (l ++ m) xs → ∃ ys zs, xs = ys ++ zs ∧ Cs w F l ys ∧ Cs w F m zs
  | [], m, xs, h => ⟨[], xs, rfl, rfl, h⟩
  | x :: r, m, xs, h => by
    obtain ⟨v, us, h1, h2, h3⟩ : ∃ v us, xs = pcell x v ++ us ∧ SlAt w F x.w v ∧ Cs w F (r ++ m) us := h
    obtain ⟨ys, zs, h4, h5, h6⟩ := h3.split
    exact ⟨pcell x v ++ ys, zs, by rw [h1, h4, List.append_assoc], ⟨v, ys, rfl, h2, h5⟩, h6⟩
theorem Cs.last {F : Nat → Prop} {l : List Pt} {x : Pt} {xs : List Value} (h : Cs w F (l ++ [x]) xs) : ∃ ys v, xs = ys ++ pcell x v ∧ Cs w F l ys ∧ SlAt w F x.w v := by
  obtain ⟨ys, zs, h1, h2, v, us, h3, h4, h5⟩ := h.split
  have h5 : us = [] := h5
  subst h5
  exact ⟨ys, v, by rw [h1, h3, List.append_nil], h2, h4⟩
theorem Cs.at {F : Nat → Prop} : ∀ {l : List Pt} {xs : List Value} {a : Addr}, Cs w F l xs → (∀ (j : Nat) (u : Value), xs[j]? = some u → w.cell? (a.add j) = some u) → PsAt w F l a
  | [], xs, a, h, hc => by simp only [PsAt]
  | x :: r, xs, a, ⟨v, ys, h1, h2, h3⟩, hc => by
    simp only [PsAt]
    have e : (pcell x v).length = 6 := rfl
    refine ⟨PtAt.of (fun j u hu => hc j u ?_) h2, h3.at fun j u hu => ?_⟩
    · rw [h1, List.getElem?_append_left]
      · exact hu
      · exact (List.getElem?_eq_some_iff.1 hu).1
    · rw [adds]
      refine hc _ u ?_
      rw [h1, List.getElem?_append_right (by rw [e]; omega), e, Nat.add_sub_cancel_left]
      exact hu
theorem Cs.to {F : Nat → Prop} {l : List Pt} : ∀ {a : Addr}, PsAt w F l a → ∃ xs, Cs w F l xs ∧ ∀ (j : Nat) (u : Value), xs[j]? = some u → w.cell? (a.add j) = some u := by
  induction l with
  | nil => intro a _; exact ⟨[], rfl, fun j u hu => by simp at hu⟩
  | cons x r ih =>
    intro a h
    simp only [PsAt] at h
    obtain ⟨v, h1, h2⟩ := h.1.out
    obtain ⟨xs, h3, h4⟩ := ih h.2
    refine ⟨pcell x v ++ xs, ⟨v, xs, rfl, h2, h3⟩, fun j u hu => ?_⟩
    have e : (pcell x v).length = 6 := rfl
    by_cases hj : j < 6
    · rw [List.getElem?_append_left (by rw [e]; exact hj)] at hu
      exact h1 j u hu
    · rw [List.getElem?_append_right (by rw [e]; omega), e] at hu
      have := h4 _ u hu
      rwa [adds, show 6 + (j - 6) = j by omega] at this
def OutAt (w : World) (B : Nat) (l : List Pt) (v : Value) : Prop := ∃ p c xs, v = .slice p l.length c ∧ Owns w B 73 6 v l.length xs ∧ Cs w (fun k => B ≤ k ∧ k < w.heap.size ∧ v.ownBlock ≠ some k) l xs
theorem OutAt.nil (w : World) (B : Nat) : OutAt w B [] (.slice none 0 0) := ⟨none, 0, [], rfl, Owns.nil _ _ _ _, rfl⟩
theorem Owns.cap {B : Nat} {e : TypeId} {size n : Nat} {v : Value} {xs : List Value} (h : Owns w B e size v n xs) : ∃ p c, v = .slice p n c ∧ n ≤ c := by
  rcases h.2 with ⟨rfl, rfl⟩ | ⟨g, cap, cur, rfl, _, _, hc, _⟩
  · exact ⟨_, _, rfl, Nat.le_refl _⟩
  · exact ⟨_, _, rfl, hc⟩
theorem OutAt.sl {B : Nat} {l : List Pt} {v : Value} (h : OutAt w B l v) : SlAt w (fun k => B ≤ k ∧ k < w.heap.size) l v := by
  obtain ⟨p, c, xs, rfl, ho, hc⟩ := h
  obtain ⟨p', c', he, hle⟩ := ho.cap
  injection he with _ _ e3
  subst e3
  refine ⟨p, c, rfl, hle, fun hl => ?_⟩
  have hn : 0 < l.length := List.length_pos_iff.2 hl
  obtain ⟨g, cap, he, hB, hg, _, hcell⟩ := ho.ownAddr hn
  injection he with e1 e2 e3
  subst e1
  refine ⟨_, rfl, ⟨hB, hg⟩, (hc.turn fun h => h.mono fun k hk => ⟨hk.1, hk.2.1⟩).at fun j u hu => ?_⟩
  rw [add_row, Nat.zero_add]
  exact hcell j u hu
theorem OutAt.mod {S : Nat → Prop} {w' : World} {B : Nat} {l : List Pt} {v : Value} (h : OutAt w B l v) (hm : Mod S w w') (hS : ∀ k, B ≤ k → k < w.heap.size → ¬ S k) : OutAt w' B l v := by
  obtain ⟨p, c, xs, rfl, ho, hc⟩ := h
  refine ⟨p, c, xs, rfl, ho.mod hm fun k hk => hS k (ho.lt k hk).1 (ho.lt k hk).2, hc.turn fun h => (h.mod hm fun k hk => hS k hk.1 hk.2.1).mono fun k hk => ⟨hk.1, Nat.lt_of_lt_of_le hk.2.1 hm.size, hk.2.2⟩⟩
theorem OutAt.still {w' : World} {B : Nat} {l : List Pt} {v : Value} (h : OutAt w B l v) (hm : Still w w') : OutAt w' B l v := h.mod hm fun _ _ _ h => h
end Go.Proofs.YtcoeiiihmpnagaaGreatDoor
namespace Go.Proofs.YtcoeiiihmpnagaaGreatDoor
open Go.RowKit Vc
variable {w : World} {α : Type}
structure Enc (α : Type) where
  sz : Nat
  E : World → (Nat → Prop) → α → List Value → Prop
  len : ∀ {w : World} {F : Nat → Prop} {x : α} {cs : List Value}, E w F x cs → cs.length = sz
  one : ∀ {w : World} {F : Nat → Prop} {x : α} {cs : List Value}, E w F x cs → ∀ u ∈ cs, u.oneCell' = true
  turn : ∀ {w w' : World} {F G : Nat → Prop} {x : α} {cs : List Value}, (∀ k, F k → G k) → (∀ a v, (∃ k, F k ∧ a.block = k) → w.cell? a = some v → w'.cell? a = some v) → E w F x cs → E w' G x cs
def Enc.Cs (e : Enc α) (w : World) (F : Nat → Prop) : List α → List Value → Prop
  | [], xs => xs = []
  | x :: r, xs => ∃ cs ys, xs = cs ++ ys ∧ e.E w F x cs ∧ e.Cs w F r ys
def CellsAt (w : World) (b : Addr) (xs : List Value) : Prop := ∀ (j : Nat) (u : Value), xs[j]? = some u → w.cell? (b.add j) = some u
def Enc.At (e : Enc α) (w : World) (F : Nat → Prop) (l : List α) (v : Value) : Prop := ∃ p c, v = .slice p l.length c ∧ l.length ≤ c ∧ (l ≠ [] → ∃ b xs, p = some b ∧ F b.block ∧ e.Cs w F l xs ∧ CellsAt w b xs)
def Enc.Out (e : Enc α) (w : World) (B : Nat) (t : TypeId) (l : List α) (v : Value) : Prop := ∃ p c xs, v = .slice p l.length c ∧ Owns w B t e.sz v l.length xs ∧ e.Cs w (fun k => B ≤ k ∧ k < w.heap.size ∧ v.ownBlock ≠ some k) l xs
section
variable {e : Enc α} {F G : Nat → Prop}
theorem Enc.Cs.len : ∀ {l : List α} {xs : List Value}, e.Cs w F l xs → xs.length = l.length * e.sz
  | [], xs, h => by rw [show xs = [] from h, List.length_nil, List.length_nil, Nat.zero_mul]
  | x :: r, xs, ⟨cs, ys, h1, h2, h3⟩ => by
    rw [h1, List.length_append, e.len h2, Enc.Cs.len h3, List.length_cons, Nat.succ_mul]
    omega
theorem Enc.Cs.one : ∀ {l : List α} {xs : List Value}, e.Cs w F l xs → ∀ u ∈ xs, u.oneCell' = true
  | [], xs, h => by rw [show xs = [] from h]; simp
  | x :: r, xs, ⟨cs, ys, h1, h2, h3⟩ => by
    intro u hu
    rw [h1] at hu
    rcases List.mem_append.1 hu with hu | hu
    · exact e.one h2 u hu
    · exact Enc.Cs.one h3 u hu
theorem Enc.Cs.turn {w' : World} (hF : ∀ k, F k → G k) (hw : ∀ a v, (∃ k, F k ∧ a.block = k) → w.cell? a = some v → w'.cell? a = some v) : ∀ {l : List α} {xs : List Value}, e.Cs w F l xs → e.Cs w' G l xs
  | [], xs, h => h
  | x :: r, xs, ⟨cs, ys, h1, h2, h3⟩ => ⟨cs, ys, h1, e.turn hF hw h2, Enc.Cs.turn hF hw h3⟩
theorem Enc.Cs.append : ∀ {l m : List α} {xs ys : List Value}, e.Cs w F l xs → e.Cs w F m ys → e.Cs w F (l ++ m) (xs ++ ys)
  | [], m, xs, ys, h, k => by rw [show xs = [] from h]; exact k
  | x :: r, m, xs, ys, ⟨cs, zs, h1, h2, h3⟩, k => ⟨cs, zs ++ ys, by rw [h1, List.append_assoc], h2, Enc.Cs.append h3 k⟩
theorem Enc.Cs.single {x : α} {cs : List Value} (h : e.E w F x cs) : e.Cs w F [x] cs := ⟨cs, [], (List.append_nil _).symm, h, rfl⟩
theorem Enc.Cs.get : ∀ {l : List α} {xs : List Value} {i : Nat} {x : α}, e.Cs w F l xs → l[i]? = some x → ∃ cs, e.E w F x cs ∧ ∀ (j : Nat) (u : Value), cs[j]? = some u → xs[i * e.sz + j]? = some u
  | y :: r, xs, 0, x, ⟨cs, ys, h1, h2, h3⟩, hx => by
    obtain rfl := Option.some.inj hx
    refine ⟨cs, h2, fun j u hu => ?_⟩
    rw [h1, Nat.zero_mul, Nat.zero_add, List.getElem?_append_left (List.getElem?_eq_some_iff.1 hu).1]
    exact hu
  | y :: r, xs, i + 1, x, ⟨cs, ys, h1, h2, h3⟩, hx => by
    obtain ⟨cs', g1, g2⟩ := Enc.Cs.get (i := i) h3 (by simpa using hx)
    refine ⟨cs', g1, fun j u hu => ?_⟩
    have hl := e.len h2
    rw [h1, Nat.succ_mul, List.getElem?_append_right (by omega), hl, show i * e.sz + e.sz + j - e.sz = i * e.sz + j by omega]
    exact g2 j u hu
theorem CellsAt.still {w' : World} {b : Addr} {xs : List Value} (h : CellsAt w b xs) (hm : Still w w') : CellsAt w' b xs := fun j u hu => hm.cell (h j u hu)
theorem CellsAt.row {g : Nat} {t : TypeId} {xs : List Value} (h : Row w g t ⟨xs⟩) : CellsAt w ⟨g, 0, none⟩ xs := fun j u hu => by
  rw [add_row, Nat.zero_add]
  exact h.lget hu
theorem Enc.At.turn {w' : World} (hF : ∀ k, F k → G k) (hw : ∀ a v, (∃ k, F k ∧ a.block = k) → w.cell? a = some v → w'.cell? a = some v) {l : List α} {v : Value} (h : e.At w F l v) : e.At w' G l v := by
  obtain ⟨p, c, rfl, h2, h3⟩ := h
  refine ⟨p, c, rfl, h2, fun hl => ?_⟩
  obtain ⟨b, xs, rfl, h4, h5, h6⟩ := h3 hl
  exact ⟨b, xs, rfl, hF _ h4, h5.turn hF hw, fun j u hu => hw _ _ ⟨_, h4, add_block b j⟩ (h6 j u hu)⟩
theorem Enc.At.mono (hF : ∀ k, F k → G k) {l : List α} {v : Value} (h : e.At w F l v) : e.At w G l v := h.turn hF fun _ _ _ h => h
theorem Enc.At.any {l : List α} {v : Value} (h : e.At w F l v) : e.At w (fun _ => True) l v := h.mono fun _ _ => trivial
theorem Enc.At.mod {S : Nat → Prop} {w' : World} {l : List α} {v : Value} (h : e.At w F l v) (hm : Mod S w w') (hS : ∀ k, F k → ¬ S k) : e.At w' F l v :=
  h.turn (fun _ h => h) fun a v ⟨k, hk, ea⟩ hc => mod_cell hm (by rw [ea]; exact hS k hk) hc
theorem Enc.At.still {w' : World} {l : List α} {v : Value} (h : e.At w F l v) (hm : Still w w') : e.At w' F l v := h.mod hm fun _ _ h => h
theorem Enc.At.nil (e : Enc α) (w : World) (F : Nat → Prop) (p : Option Addr) (c : Nat) : e.At w F [] (.slice p 0 c) := ⟨p, c, rfl, Nat.zero_le _, fun h => absurd rfl h⟩
theorem Enc.At.form {l : List α} {v : Value} (h : e.At w F l v) : ∃ p c, v = .slice p l.length c := by
  obtain ⟨p, c, he, _⟩ := h
  exact ⟨p, c, he⟩
theorem Enc.At.one {l : List α} {v : Value} (h : e.At w F l v) : v.oneCell' = true := by
  obtain ⟨p, c, rfl, _⟩ := h
  rfl
theorem Enc.At.len {l : List α} {p : Option Addr} {n c : Nat} (h : e.At w F l (.slice p n c)) : n = l.length ∧ l.length ≤ c := by
  obtain ⟨p', c', he, h2, _⟩ := h
  injection he with e1 e2 e3
  subst e3
  exact ⟨e2, h2⟩
theorem Enc.At.get {l : List α} {p : Option Addr} {n c : Nat} (h : e.At w F l (.slice p n c)) {i : Nat} {x : α} (hx : l[i]? = some x) : ∃ b cs, p = some b ∧ F b.block ∧ e.E w F x cs ∧ CellsAt w (b.add (i * e.sz)) cs := by
  obtain ⟨p', c', he, h2, h3⟩ := h
  injection he with e1 e2 e3
  subst e1 e2 e3
  have hl : l ≠ [] := by rintro rfl; cases hx
  obtain ⟨b, xs, rfl, h4, h5, h6⟩ := h3 hl
  obtain ⟨cs, g1, g2⟩ := h5.get hx
  refine ⟨b, cs, rfl, h4, g1, fun j u hu => ?_⟩
  rw [adds]
  exact h6 _ u (g2 j u hu)
theorem Enc.At.tail {x : α} {r : List α} {a : Addr} {n c : Nat} (h : e.At w F (x :: r) (.slice (some a) n c)) : e.At w F r (.slice (some (a.add e.sz)) (n - 1) (c - 1)) := by
  obtain ⟨p', c', he, h2, h3⟩ := h
  injection he with e1 e2 e3
  subst e1 e2 e3
  obtain ⟨b, xs, hb, h4, ⟨cs, ys, h5, h6, h7⟩, h8⟩ := h3 (by simp)
  obtain rfl := Option.some.inj hb
  refine ⟨some (a.add e.sz), c - 1, by rw [List.length_cons, Nat.add_sub_cancel], by simp only [List.length_cons] at h2; omega, fun _ => ⟨_, ys, rfl, by rw [add_block]; exact h4, h7, fun j u hu => ?_⟩⟩
  rw [adds]
  refine h8 _ u ?_
  have hl := e.len h6
  rw [h5, List.getElem?_append_right (by omega), show e.sz + j - cs.length = j by omega]
  exact hu
theorem Enc.At.ptr {x : α} {r : List α} {p : Option Addr} {n c : Nat} (h : e.At w F (x :: r) (.slice p n c)) : ∃ a, p = some a := by
  obtain ⟨b, _, hb, _⟩ := h.get (i := 0) rfl
  exact ⟨b, hb⟩
theorem Enc.At.row {g c : Nat} {t : TypeId} {l : List α} {xs : List Value} (hr : Row w g t ⟨xs⟩) (hc : e.Cs w F l xs) (hF : F g) (hl : l.length ≤ c) : e.At w F l (.slice (some ⟨g, 0, none⟩) l.length c) :=
  ⟨_, c, rfl, hl, fun _ => ⟨_, xs, rfl, hF, hc, CellsAt.row hr⟩⟩
theorem Enc.Out.nil (e : Enc α) (w : World) (B : Nat) (t : TypeId) : e.Out w B t [] (.slice none 0 0) := ⟨none, 0, [], rfl, Owns.nil _ _ _ _, rfl⟩
theorem Enc.Out.form {B : Nat} {t : TypeId} {l : List α} {v : Value} (h : e.Out w B t l v) : ∃ p c, v = .slice p l.length c := by
  obtain ⟨p, c, _, he, _⟩ := h
  exact ⟨p, c, he⟩
theorem Enc.Out.at {B : Nat} {t : TypeId} {l : List α} {v : Value} (h : e.Out w B t l v) (_hz : 0 < e.sz) : e.At w (fun k => B ≤ k ∧ k < w.heap.size) l v := by
  obtain ⟨p, c, xs, rfl, ho, hc⟩ := h
  obtain ⟨p', c', he, hle⟩ := ho.cap
  injection he with _ _ e3
  subst e3
  refine ⟨p, c, rfl, hle, fun hl => ?_⟩
  have hn : 0 < l.length := List.length_pos_iff.2 hl
  obtain ⟨g, cap, he, hB, hg, _, hcell⟩ := ho.ownAddr hn
  injection he with e1 e2 e3
  subst e1
  refine ⟨_, xs, rfl, ⟨hB, hg⟩, hc.turn (fun k hk => ⟨hk.1, hk.2.1⟩) (fun _ _ _ h => h), fun j u hu => ?_⟩
  rw [add_row, Nat.zero_add]
  exact hcell j u hu
theorem Enc.Out.mod {S : Nat → Prop} {w' : World} {B : Nat} {t : TypeId} {l : List α} {v : Value} (h : e.Out w B t l v) (hm : Mod S w w') (hS : ∀ k, B ≤ k → k < w.heap.size → ¬ S k) : e.Out w' B t l v := by
  obtain ⟨p, c, xs, rfl, ho, hc⟩ := h
  refine ⟨p, c, xs, rfl, ho.mod hm fun k hk => hS k (ho.lt k hk).1 (ho.lt k hk).2, hc.turn (fun k hk => ⟨hk.1, Nat.lt_of_lt_of_le hk.2.1 hm.size, hk.2.2⟩) fun a v ⟨k, hk, ea⟩ hcell => mod_cell hm (by rw [ea]; exact hS k hk.1 hk.2.1) hcell⟩
theorem Enc.Out.still {w' : World} {B : Nat} {t : TypeId} {l : List α} {v : Value} (h : e.Out w B t l v) (hm : Still w w') : e.Out w' B t l v := h.mod hm fun _ _ _ h => h
theorem Enc.Out.push {B bytes : Nat} {t : TypeId} {l : List α} {p : Option Addr} {n c : Nat} {x : α} {cs : List Value} {K : Option Addr → Nat → World → Prop} (ho : e.Out w B t l (.slice p n c)) (hB : B ≤ w.heap.size)
    (hx : e.E w (fun k => B ≤ k ∧ k < w.heap.size ∧ (Value.slice p n c).ownBlock ≠ some k) x cs) (hs : n + 1 ≤ 9223372036854775807) (hb : (n + 1) * bytes ≤ 140737488355328)
    (h : ∀ p' c' w', e.Out w' B t (l ++ [x]) (.slice p' (n + 1) c') → Mod (fun k => (Value.slice p n c).ownBlock = some k) w w' → K p' c' w') :
    letW (w.alloc (.cells ⟨cs⟩ t)) (fun w2 => appK w2 t e.sz bytes p n c (some (Addr.mk w.heap.size 0 none)) 1 K) := by
  obtain ⟨p0, c0, xs, he, ho, hc⟩ := ho
  injection he with e1 e2 e3
  subst e1 e2 e3
  have hl := e.len hx
  refine allocK fun w1 hr hst hz => ?_
  refine appK_push (ho.still hst) (by omega) cs (by omega) (e.one hx) (fun _ => ⟨_, rfl, fun j u hu => ?_⟩) hs hb fun p' c' w' ho' hm hk => h p' c' w' ?_ (Mod.trans hst hm (fun _ h => h.elim) (fun _ _ h => h))
  · rw [add_row, Nat.zero_add]
    exact hr.cellv (by simpa using hu)
  · have hz' := hm.size
    refine ⟨p', c', xs ++ cs, by rw [List.length_append]; rfl, by rw [List.length_append]; exact ho', ?_⟩
    have hn : ∀ k, k < w.heap.size → (Value.slice p l.length c).ownBlock ≠ some k → (Value.slice p' (l.length + 1) c').ownBlock ≠ some k := by
      intro k hkl hne hk'
      rcases hk.own (n := l.length) with hk | hk
      · exact hne (hk.symm.trans hk')
      · rw [hk'] at hk
        have := Option.some.inj hk
        omega
    refine (hc.append (Enc.Cs.single hx)).turn (fun k hk => ⟨hk.1, by omega, hn k hk.2.1 hk.2.2⟩) fun a v ⟨k, hk, ea⟩ hcell => mod_cell hm (by rw [ea]; exact hk.2.2) (hst.cell hcell)
end
end Go.Proofs.YtcoeiiihmpnagaaGreatDoor
namespace Go.Proofs.YtcoeiiihmpnagaaGreatDoor
open Go.RowKit Vc
variable {w : World}
def wsE : Enc (List Pt) where
  sz := 1
  E := fun w F x cs => ∃ v, cs = [v] ∧ SlAt w F x v
  len := by rintro w F x cs ⟨v, rfl, _⟩; rfl
  one := by rintro w F x cs ⟨v, rfl, h⟩ u hu; rw [List.mem_singleton.1 hu]; exact h.one
  turn := by rintro w w' F G x cs hF hw ⟨v, rfl, h⟩; exact ⟨v, rfl, h.turn hF hw⟩
def nsE : Enc (Txt × List Pt) where
  sz := 2
  E := fun w F x cs => ∃ v, cs = [.string (S x.1), v] ∧ SlAt w F x.2 v
  len := by rintro w F x cs ⟨v, rfl, _⟩; rfl
  one := by
    rintro w F x cs ⟨v, rfl, h⟩ u hu
    simp only [List.mem_cons, List.not_mem_nil, or_false] at hu
    rcases hu with rfl | rfl
    · rfl
    · exact h.one
  turn := by rintro w w' F G x cs hF hw ⟨v, rfl, h⟩; exact ⟨v, rfl, h.turn hF hw⟩
def osE : Enc Txt where
  sz := 1
  E := fun _ _ x cs => cs = [.string (S x)]
  len := by rintro w F x cs rfl; rfl
  one := by rintro w F x cs rfl u hu; rw [List.mem_singleton.1 hu]; rfl
  turn := by rintro w w' F G x cs _ _ rfl; rfl
def tkE : Enc (Nat × Txt) where
  sz := 2
  E := fun _ _ x cs => cs = [.int .i64 (x.1 : Int), .string (S x.2)]
  len := by rintro w F x cs rfl; rfl
  one := by
    rintro w F x cs rfl u hu
    simp only [List.mem_cons, List.not_mem_nil, or_false] at hu
    rcases hu with rfl | rfl <;> rfl
  turn := by rintro w w' F G x cs _ _ rfl; rfl
mutual
def NdE (w : World) (F : Nat → Prop) : Nd → List Value → Prop
  | .mk k neg nm ws as rs os ks, cs => ∃ vw va vr vo p c, cs = [.int .i64 k, .bool neg, .string (S nm), vw, va, vr, vo, .slice p ks.length c] ∧ wsE.At w F ws vw ∧ nsE.At w F as va ∧ nsE.At w F rs vr ∧ osE.At w F os vo ∧ ks.length ≤ c ∧
      (ks ≠ [] → ∃ b xs, p = some b ∧ F b.block ∧ NdCs w F ks xs ∧ CellsAt w b xs)
def NdCs (w : World) (F : Nat → Prop) : List Nd → List Value → Prop
  | [], xs => xs = []
  | x :: r, xs => ∃ cs ys, xs = cs ++ ys ∧ NdE w F x cs ∧ NdCs w F r ys
end
mutual
theorem NdE.turn {F G : Nat → Prop} {w' : World} (hF : ∀ k, F k → G k) (hw : ∀ a v, (∃ k, F k ∧ a.block = k) → w.cell? a = some v → w'.cell? a = some v) : ∀ {x : Nd} {cs : List Value}, NdE w F x cs → NdE w' G x cs
  | .mk k neg nm ws as rs os ks, cs, h => by
    simp only [NdE] at h ⊢
    obtain ⟨vw, va, vr, vo, p, c, h1, h2, h3, h4, h5, h6, h7⟩ := h
    refine ⟨vw, va, vr, vo, p, c, h1, h2.turn hF hw, h3.turn hF hw, h4.turn hF hw, h5.turn hF hw, h6, fun hl => ?_⟩
    obtain ⟨b, xs, hb, h8, h9, h10⟩ := h7 hl
    exact ⟨b, xs, hb, hF _ h8, NdCs.turn hF hw h9, fun j u hu => hw _ _ ⟨_, h8, add_block b j⟩ (h10 j u hu)⟩
theorem NdCs.turn {F G : Nat → Prop} {w' : World} (hF : ∀ k, F k → G k) (hw : ∀ a v, (∃ k, F k ∧ a.block = k) → w.cell? a = some v → w'.cell? a = some v) : ∀ {l : List Nd} {xs : List Value}, NdCs w F l xs → NdCs w' G l xs
  | [], xs, h => by simp only [NdCs] at h ⊢; exact h
  | x :: r, xs, h => by
    simp only [NdCs] at h ⊢
    obtain ⟨cs, ys, h1, h2, h3⟩ := h
    exact ⟨cs, ys, h1, NdE.turn hF hw h2, NdCs.turn hF hw h3⟩
end
theorem NdE.raw {F : Nat → Prop} {x : Nd} {cs : List Value} (h : NdE w F x cs) : ∃ vw va vr vo vk, cs = [.int .i64 x.k, .bool x.neg, .string (S x.nm), vw, va, vr, vo, vk] ∧ vw.oneCell' = true ∧ va.oneCell' = true ∧ vr.oneCell' = true ∧ vo.oneCell' = true ∧ vk.oneCell' = true := by
  cases x with
  | mk k neg nm ws as rs os ks =>
    simp only [NdE] at h
    obtain ⟨vw, va, vr, vo, p, c, h1, h2, h3, h4, h5, _⟩ := h
    exact ⟨vw, va, vr, vo, _, h1, h2.one, h3.one, h4.one, h5.one, rfl⟩
def ndE : Enc Nd where
  sz := 8
  E := NdE
  len := by
    intro w F x cs h
    obtain ⟨vw, va, vr, vo, vk, rfl, _⟩ := h.raw
    rfl
  one := by
    intro w F x cs h u hu
    obtain ⟨vw, va, vr, vo, vk, rfl, h1, h2, h3, h4, h5⟩ := h.raw
    simp only [List.mem_cons, List.not_mem_nil, or_false] at hu
    rcases hu with rfl | rfl | rfl | rfl | rfl | rfl | rfl | rfl <;> first | rfl | assumption
  turn := fun hF hw h => h.turn hF hw
theorem ndCs {F : Nat → Prop} : ∀ {l : List Nd} {xs : List Value}, NdCs w F l xs ↔ ndE.Cs w F l xs
  | [], xs => by simp only [NdCs]; exact Iff.rfl
  | x :: r, xs => by
    simp only [NdCs]
    constructor
    · rintro ⟨cs, ys, h1, h2, h3⟩
      exact ⟨cs, ys, h1, h2, ndCs.1 h3⟩
    · rintro ⟨cs, ys, h1, h2, h3⟩
      exact ⟨cs, ys, h1, h2, ndCs.2 h3⟩
abbrev ncell (x : Nd) (vw va vr vo vk : Value) : List Value := [.int .i64 x.k, .bool x.neg, .string (S x.nm), vw, va, vr, vo, vk]
theorem NdE.of {F : Nat → Prop} {x : Nd} {vw va vr vo vk : Value} (h1 : wsE.At w F x.ws vw) (h2 : nsE.At w F x.as va) (h3 : nsE.At w F x.rs vr) (h4 : osE.At w F x.os vo) (h5 : ndE.At w F x.ks vk) : NdE w F x (ncell x vw va vr vo vk) := by
  cases x with
  | mk k neg nm ws as rs os ks =>
    obtain ⟨p, c, rfl, h6, h7⟩ := h5
    simp only [NdE]
    refine ⟨vw, va, vr, vo, p, c, rfl, h1, h2, h3, h4, h6, fun hl => ?_⟩
    obtain ⟨b, xs, h8, h9, h10, h11⟩ := h7 hl
    exact ⟨b, xs, h8, h9, ndCs.2 h10, h11⟩
theorem NdE.out {F : Nat → Prop} {x : Nd} {cs : List Value} (h : NdE w F x cs) : ∃ vw va vr vo vk, cs = ncell x vw va vr vo vk ∧ wsE.At w F x.ws vw ∧ nsE.At w F x.as va ∧ nsE.At w F x.rs vr ∧ osE.At w F x.os vo ∧ ndE.At w F x.ks vk := by
  cases x with
  | mk k neg nm ws as rs os ks =>
    simp only [NdE] at h
    obtain ⟨vw, va, vr, vo, p, c, h1, h2, h3, h4, h5, h6, h7⟩ := h
    refine ⟨vw, va, vr, vo, _, h1, h2, h3, h4, h5, p, c, rfl, h6, fun hl => ?_⟩
    obtain ⟨b, xs, h8, h9, h10, h11⟩ := h7 hl
    exact ⟨b, xs, h8, h9, ndCs.1 h10, h11⟩
theorem NdE.outs {F : Nat → Prop} {x : Nd} {cs : List Value} (h : NdE w F x cs) : ∃ pw cw pa ca pr cr po co pk ck, cs = ncell x (.slice pw x.ws.length cw) (.slice pa x.as.length ca) (.slice pr x.rs.length cr) (.slice po x.os.length co) (.slice pk x.ks.length ck) ∧
    wsE.At w F x.ws (.slice pw x.ws.length cw) ∧ nsE.At w F x.as (.slice pa x.as.length ca) ∧ nsE.At w F x.rs (.slice pr x.rs.length cr) ∧ osE.At w F x.os (.slice po x.os.length co) ∧ ndE.At w F x.ks (.slice pk x.ks.length ck) := by
  obtain ⟨vw, va, vr, vo, vk, rfl, h1, h2, h3, h4, h5⟩ := h.out
  obtain ⟨pw, cw, rfl⟩ := h1.form
  obtain ⟨pa, ca, rfl⟩ := h2.form
  obtain ⟨pr, cr, rfl⟩ := h3.form
  obtain ⟨po, co, rfl⟩ := h4.form
  obtain ⟨pk, ck, rfl⟩ := h5.form
  exact ⟨pw, cw, pa, ca, pr, cr, po, co, pk, ck, rfl, h1, h2, h3, h4, h5⟩
theorem NdE.mono {F G : Nat → Prop} {x : Nd} {cs : List Value} (hF : ∀ k, F k → G k) (h : NdE w F x cs) : NdE w G x cs := h.turn hF fun _ _ _ h => h
theorem NdE.mod {F S : Nat → Prop} {w' : World} {x : Nd} {cs : List Value} (h : NdE w F x cs) (hm : Mod S w w') (hS : ∀ k, F k → ¬ S k) : NdE w' F x cs :=
  h.turn (fun _ h => h) fun a v ⟨k, hk, ea⟩ hc => mod_cell hm (by rw [ea]; exact hS k hk) hc
theorem NdE.still {F : Nat → Prop} {w' : World} {x : Nd} {cs : List Value} (h : NdE w F x cs) (hm : Still w w') : NdE w' F x cs := h.mod hm fun _ _ h => h
end Go.Proofs.YtcoeiiihmpnagaaGreatDoor
namespace Go.Proofs.YtcoeiiihmpnagaaGreatDoor
open Go.RowKit Vc
def Sim (t t' : Txt) : Prop := ∀ c r', t' = c :: r' → (c = 40 ∨ c = 123) → ∃ r, t = c :: r
theorem Sim.head (c : UInt8) (t t' : Txt) : Sim (c :: t) (c :: t') := fun d r' h _ => ⟨t, by injection h with h1 h2; rw [h1]⟩
theorem Sim.app {t t' : Txt} (h : Sim t t') : ∀ y : Txt, Sim (y ++ t) (y ++ t')
  | [] => h
  | c :: y => Sim.head c _ _
end Go.Proofs.YtcoeiiihmpnagaaGreatDoor
namespace Go.Proofs.YtcoeiiihmpnagaaGreatDoor.Vc
open Go.RowKit
def cutDefer : List Oper → Option (List Oper × Oper × Operand)
  | [] => none
  | [o] => match o.op with
    | .defer ⟨.value f, ⟨[]⟩, _⟩ => some ([], o, f)
    | _ => none
  | o :: r => match cutDefer r with
    | some (pre, d, f) => some (o :: pre, d, f)
    | none => none
def rsOff (ws : List Nat) : List ResultVar → Bool
  | [] => true
  | .tmp t :: r => !(ws.contains t) && rsOff ws r
  | .cell a _ :: r => !(ws.contains a) && rsOff ws r
def contsD (P : Program) (rs : List ResultVar) (R : Ending → World → Prop) (g : FuncId) (dargs : List Value) (l0 : Fr) : Conts where
  normal := fun l w => CallsD P g ⟨dargs⟩ .returning w fun e u' w' => (∃ v, e = .returned v) ∧ settle u' = .returning ∧ resK P w' rs l fun vs => R (.returned (retV vs)) w'
  exit := fun _ _ _ => False
  ret := fun l w => CallsD P g ⟨dargs⟩ .returning w fun e u' w' => (∃ v, e = .returned v) ∧ settle u' = .returning ∧ resK P w' rs l fun vs => R (.returned (retV vs)) w'
  panic := fun c w => CallsD P g ⟨dargs⟩ (.panicking c) w fun e u' w' => (∃ v, e = .returned v) ∧ settle u' = .returning ∧ resK P w' rs l0 fun vs => R (.returned (retV vs)) w'
def vcD (P : Program) (pl : Plan) (rs : List ResultVar) (R : Ending → World → Prop) : Code → Nat → Fr → World → Prop
  | .seq a b, p, l, w => match a with
    | .region _ ⟨ops⟩ false => match cutDefer ops with
      | some (pre, d, f) => vcOps P ops (fun l' w' => opK l' f fun fv => calleeK fv fun g first cap => bsel (callable P g && rsOff (written b) rs && d.guard.isNone && d.dst.isNone) (vc P pl b (2 * p + 1) (contsD P rs R g (first ++ cap) l') l' w') False)
          (fun c w' => R (.panicked c) w') pre l w
      | none => vcOps P ops (fun l' w' => vcD P pl rs R b (2 * p + 1) l' w') (fun c w' => R (.panicked c) w') ops l w
    | a => vc P pl a (2 * p) { fnConts P rs R with normal := fun l' w' => vcD P pl rs R b (2 * p + 1) l' w' } l w
  | c, p, l, w => vc P pl c p (fnConts P rs R) l w
theorem cutDefer_out : ∀ {ops pre : List Oper} {d : Oper} {f : Operand}, cutDefer ops = some (pre, d, f) → ops = pre ++ [d] ∧ ∃ ts, d.op = .defer ⟨.value f, ⟨[]⟩, ts⟩
  | [], _, _, _, h => by cases h
  | [o], pre, d, f, h => by
    simp only [cutDefer] at h
    split at h
    · rename_i f' ts ho
      simp only [Option.some.injEq, Prod.mk.injEq] at h
      obtain ⟨rfl, rfl, rfl⟩ := h
      exact ⟨rfl, ts, ho⟩
    · cases h
  | o :: o2 :: r, pre, d, f, h => by
    simp only [cutDefer] at h
    split at h
    · rename_i pre' d' f' h2
      simp only [Option.some.injEq, Prod.mk.injEq] at h
      obtain ⟨rfl, rfl, rfl⟩ := h
      obtain ⟨h3, h4⟩ := cutDefer_out (ops := o2 :: r) h2
      exact ⟨by rw [h3]; rfl, h4⟩
    · cases h
theorem mapM_same {α : Type} {f g : α → Sem Value} : ∀ {rs : List α}, (∀ r ∈ rs, f r = g r) → rs.mapM f = rs.mapM g
  | [], _ => rfl
  | r :: rs, h => by
    rw [List.mapM_cons, List.mapM_cons, h r (by simp), mapM_same fun x hx => h x (by simp [hx])]
theorem resF_off {ws : List Nat} {l l' : Fr} {ds : List Deferred} (ha : AgreeOff ws l l') : ∀ {rs : List ResultVar}, rsOff ws rs = true → ∀ r ∈ rs, resF (act l ds).tmps r = resF (act l' ds).tmps r := by
  have get : ∀ t, (!(ws.contains t)) = true → (act l ds).tmps.getD t undef = (act l' ds).tmps.getD t undef := by
    intro t ht
    have hn : t ∉ ws := by simpa using ht
    have h2 := ha.2 t hn
    simp only [act, Array.getD_eq_getD_getElem?, List.getElem?_toArray, h2]
  intro rs
  induction rs with
  | nil => intro _ r hr; cases hr
  | cons x rs ih =>
    intro h r hr
    cases x with
    | tmp t =>
      simp only [rsOff, Bool.and_eq_true] at h
      rcases List.mem_cons.1 hr with rfl | hr
      · simp only [resF, get t h.1]
      · exact ih h.2 r hr
    | cell a t =>
      simp only [rsOff, Bool.and_eq_true] at h
      rcases List.mem_cons.1 hr with rfl | hr
      · simp only [resF, get a h.1]
      · exact ih h.2 r hr
theorem results_off {fn : Func} {ws : List Nat} {l l' : Fr} {ds : List Deferred} (ha : AgreeOff ws l l') (h : rsOff ws fn.results.toList = true) : results fn (act l ds).tmps = results fn (act l' ds).tmps := by
  have e : ∀ tmps : Array Value, results fn tmps = (do
      let vs ← fn.results.mapM (resF tmps)
      pure (if h : vs.size = 1 then vs[0] else .tuple vs)) := by
    intro tmps
    unfold results
    congr 2
  rw [e, e, Array.mapM_eq_mapM_toList, Array.mapM_eq_mapM_toList, mapM_same (resF_off ha h)]
theorem vcOps_pre {P : Program} {ops : List Oper} {ds : List Deferred} {K : Fr → World → Prop} {E : List PanicEntry → World → Prop} {Q : Exit → Act → World → Prop} {rest : List Oper} (hE : ∀ l' c w', E c w' → Q (.panic c) (act l' ds) w') :
    ∀ {pre : List Oper} {l : Fr} {w : World}, vcOps P ops K E pre l w → (∀ l' w', K l' w' → wpList P ⟨ops⟩ Q rest (act l' ds) w') → wpList P ⟨ops⟩ Q (pre ++ rest) (act l ds) w := by
  intro pre
  induction pre with
  | nil => intro l w h hK; exact hK l w h
  | cons o r ih =>
    intro l w h hK
    have next : ∀ v w', vcOps P ops K E r (put l o.dst v) w' → wpList P ⟨ops⟩ Q (r ++ rest) ((act l ds).put o.dst v) w' := by
      intro v w' h
      rw [act_put]
      exact ih h hK
    rw [List.cons_append]
    unfold wpList
    rcases guardK_out (ds := ds) h with ⟨hw, h⟩ | ⟨hw, h⟩
    · rw [if_pos hw]
      exact .inl (opv_sound h (fun v w' hk => next v w' (putK_out hk)) (fun c w' he => hE l c w' he))
    · rw [if_neg (by simp [hw])]
      exact next undef w (putK_out h)
theorem defer_run {P : Program} {l : Fr} {ds : List Deferred} {o : Oper} {f : Operand} {ts : Array TypeId} (ho : o.op = .defer ⟨.value f, ⟨[]⟩, ts⟩) {g : FuncId} {first cap : List Value}
    (hf : (act l ds).eval f = .func (.func g) ⟨first⟩ ⟨cap⟩) (w : World) :
    (execOp (act l ds).eval o).run P w = .ok (.defer { target := .fn (.func g) ⟨cap⟩, args := ⟨first⟩ }) w := by
  simp only [execOp, ho, resolve, hf, Deferred.ofValue, Sem.run_bind, Sem.run_pure, Result.andThen_ok]
  simp
theorem vcD_sound {P : Program} {pl : Plan} {fn : Func} {R : Ending → World → Prop} : ∀ (c : Code) (p : Nat) (l : Fr) (w : World), vcD P pl fn.results.toList R c p l w → c.wp P (bodyPostD P fn R) (act l []) w := by
  have plain : ∀ (c : Code) (p : Nat) (l : Fr) (w : World) (N : Fr → World → Prop) (Q : Exit → Act → World → Prop), vc P pl c p { fnConts P fn.results.toList R with normal := N } l w → (∀ l' w', N l' w' → Q .normal (act l' []) w') →
      (∀ a w', bodyPostD P fn R .ret a w' → Q .ret a w') → (∀ ch a w', bodyPostD P fn R (.panic ch) a w' → Q (.panic ch) a w') → c.wp P Q (act l []) w := by
    intro c p l w N Q h hN hQr hQp
    refine vc_sound (ds := []) c p _ l w Q h (fun l' w' _ hk => hN l' w' hk) (fun i l' w' _ hk => hk.elim) (fun l' w' hk => hQr _ _ ?_) (fun l' ch w' _ hk => hQp _ _ _ hk)
    obtain ⟨vs, h1, h2⟩ := results_run (ds := []) hk
    exact ⟨_, h1, h2⟩
  have ends : ∀ (c : Code) (p : Nat) (l : Fr) (w : World), vc P pl c p (fnConts P fn.results.toList R) l w → c.wp P (bodyPostD P fn R) (act l []) w := by
    intro c p l w h
    refine plain c p l w _ _ h (fun l' w' hk => ?_) (fun _ _ h => h) (fun _ _ _ h => h)
    obtain ⟨vs, h1, h2⟩ := results_run (ds := []) hk
    exact ⟨_, h1, h2⟩
  intro c
  induction c with
  | seq a b iha ihb =>
    intro p l w h
    simp only [vcD] at h
    have thru : ∀ (N : Fr → World → Prop), vc P pl a (2 * p) { fnConts P fn.results.toList R with normal := N } l w → (∀ l' w', N l' w' → b.wp P (bodyPostD P fn R) (act l' []) w') → (Code.seq a b).wp P (bodyPostD P fn R) (act l []) w := by
      intro N h hN
      refine wp_seq (plain a (2 * p) l w N _ h (fun l' w' hk => hN l' w' hk) (fun a w' hq => hq) (fun ch a w' hq => hq))
    split at h
    · rename_i id ops
      split at h
      · rename_i pre d f hcut
        obtain ⟨hops, ts, hd⟩ := cutDefer_out hcut
        refine wp_seq (wp_region_list ?_)
        have h2 : wpList P ⟨ops⟩ (Exit.then (b.wp P (bodyPostD P fn R)) (bodyPostD P fn R)) (pre ++ [d]) (act l []) w := by
          refine vcOps_pre (fun l' c w' he => he) h fun l' w' hk => ?_
          obtain ⟨g, first, cap, hf, hk⟩ := calleeK_out (opK_out (ds := []) hk)
          obtain ⟨hb, hk⟩ := bsel_true_out hk
          simp only [Bool.and_eq_true] at hb
          obtain ⟨⟨⟨hcall, hoff⟩, hgd⟩, hdst⟩ := hb
          have hg : d.guard = none := by simpa using hgd
          have hds : d.dst = none := by simpa using hdst
          unfold wpList
          rw [if_pos (by simp [Region.wanted, hg])]
          refine .inl ?_
          unfold Oper.wp
          rw [defer_run hd hf, Oper.upon_defer, hds]
          show b.wp P (bodyPostD P fn R) (act l' [{ target := .fn (.func g) ⟨cap⟩, args := ⟨first⟩ }]) w'
          have inv : ∀ w : World, (invoke (.fn (.func g) ⟨cap⟩) ⟨first⟩).run P w = .ok (.enter g ⟨first ++ cap⟩) w := by
            intro w
            simp only [invoke]
            rw [callFunc_run hcall]
            simp
          refine vc_sound (ds := [{ target := .fn (.func g) ⟨cap⟩, args := ⟨first⟩ }]) b _ _ l' w' _ hk (fun l2 w2 _ hk2 => ?_) (fun i l2 w2 _ hk2 => hk2.elim) (fun l2 w2 hk2 => ?_) (fun l2 ch w2 ha hk2 => ?_)
          · refine leaves_cons (by simp) (inv w2) (hk2.mono ?_)
            rintro e u' w3 ⟨⟨v, rfl⟩, hu, hr⟩
            dsimp only
            rw [hu]
            obtain ⟨vs, h1, h2⟩ := results_run (ds := [{ target := .fn (.func g) ⟨cap⟩, args := ⟨first⟩ }]) hr
            exact ⟨_, h1, h2⟩
          · refine leaves_cons (by simp) (inv w2) (hk2.mono ?_)
            rintro e u' w3 ⟨⟨v, rfl⟩, hu, hr⟩
            dsimp only
            rw [hu]
            obtain ⟨vs, h1, h2⟩ := results_run (ds := [{ target := .fn (.func g) ⟨cap⟩, args := ⟨first⟩ }]) hr
            exact ⟨_, h1, h2⟩
          · refine leaves_cons (by simp) (inv w2) (hk2.mono ?_)
            rintro e u' w3 ⟨⟨v, rfl⟩, hu, hr⟩
            dsimp only
            rw [hu]
            obtain ⟨vs, h1, h2⟩ := results_run (ds := [{ target := .fn (.func g) ⟨cap⟩, args := ⟨first⟩ }]) hr
            rw [results_off ha hoff] at h1
            exact ⟨_, h1, h2⟩
        rw [← hops] at h2
        exact h2
      · refine thru (fun l' w' => vcD P pl fn.results.toList R b (2 * p + 1) l' w') h (fun l' w' hk => ihb _ _ _ hk)
    · exact thru (fun l' w' => vcD P pl fn.results.toList R b (2 * p + 1) l' w') h (fun l' w' hk => ihb _ _ _ hk)
  | _ => intro p l w h; exact ends _ p l w h
theorem calls_vcD {P : Program} {f : FuncId} {fn : Func} {c : Code} {args : List Value} {w : World} {R : Ending → World → Prop} (pl : Plan) (hf : P.funcs[f]? = some fn) (hb : fn.body = some c)
    (h : vcD P pl fn.results.toList R c 1 (frame0 fn.ntmps args) w) : Calls P f ⟨args⟩ w R := by
  refine calls_of_wp_defers hf hb ?_
  have e : (Array.mk args) ++ Array.replicate (fn.ntmps - (Array.mk args).size) undef = ⟨frame0 fn.ntmps args⟩ := by
    apply Array.ext'
    simp [frame0_eq]
  rw [e]
  exact vcD_sound c 1 _ w h
end Go.Proofs.YtcoeiiihmpnagaaGreatDoor.Vc
