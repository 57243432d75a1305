/- Expressions of numbers: how much there is of a tree that was read. Conditions: none; no program is named. -/
import Derived.Test.YtgincpkggnndeaaGreatDoorArEval
namespace Go.Proofs.YtgincpkggnndeaaGreatDoor
open Go.RowKit Vc
def accSz : Md → Nat
  | .loop _ _ a => szT a
  | _ => 0
theorem okFst {t t' : Tm} {s s' : Txt} (e : (some (Pr.ok (t, s)) : Rs) = some (.ok (t', s'))) : t = t' ∧ s = s' := by
  injection e with e
  injection e with e
  injection e with e1 e2
  exact ⟨e1, e2⟩
theorem okR' {r : Rs} {f : Tm → Txt → Rs} {t : Tm} {u : Txt} (h : andR r f = some (.ok (t, u))) : ∃ a b, r = some (.ok (a, b)) ∧ f a b = some (.ok (t, u)) := by
  rcases andR_some h with ⟨k, _, e⟩ | ⟨a, b, h1, h2⟩
  · cases e
  · exact ⟨a, b, h1, h2⟩
theorem prim_sz {s r : Txt} {t : Tm} (h : prim s = .ok (t, r)) : szT t + r.length ≤ s.length := by
  have hw := wordN_le s
  unfold prim at h
  dsimp only at h
  split at h
  · injection h with h
    injection h with h1 h2
    rw [← h1, ← h2]
    simp only [szT, List.length_take, List.length_drop]
    omega
  · split at h
    · injection h with h
      injection h with h1 h2
      rw [← h1, ← h2]
      simp only [szT, List.length_drop]
      omega
    · cases h
theorem asg_sz {s n o r : Txt} (h : asg s = some (n, o, r)) : n.length + 1 + r.length ≤ s.length := by
  unfold asg at h
  dsimp only at h
  split at h
  · rename_i hc
    injection h with h
    injection h with h1 h2
    injection h2 with h2 h3
    have g1 := aft_len (asgOps_ne hc.2)
    have g2 := trim_len s
    have g3 := nameN_le true (trim s)
    rw [← h1, ← h3]
    rw [List.length_drop] at g1
    rw [List.length_take]
    omega
  · cases h
theorem ps_sz : ∀ (f : Nat) (m : Md) (s : Txt) (t : Tm) (r : Txt), ps f m s = some (.ok (t, r)) → szT t + r.length ≤ s.length + accSz m
  | 0, _, _, _, _, h => by simp [ps] at h
  | f + 1, .expr d, s, t, r, h => by
    simp only [ps] at h
    split at h
    · cases h
    · split at h
      · rename_i n o u ha
        obtain ⟨a, b, h1, h2⟩ := okR' h
        obtain ⟨rfl, rfl⟩ := okFst h2
        have := ps_sz f _ _ _ _ h1
        have := asg_sz ha
        simp only [szT, accSz] at *
        omega
      · have := ps_sz f _ _ _ _ h
        have := trim_len s
        simp only [accSz] at *
        omega
  | f + 1, .cho d, s, t, r, h => by
    simp only [ps] at h
    obtain ⟨c, u, h1, h2⟩ := okR' h
    have i1 := ps_sz f _ _ _ _ h1
    split at h2
    · obtain ⟨rfl, rfl⟩ := okFst h2
      have := trim_len u
      simp only [accSz] at *
      omega
    · rename_i ho
      have ho : opAt u = [63] := Classical.not_not.1 ho
      obtain ⟨a, v, h3, h4⟩ := okR' h2
      have i2 := ps_sz f _ _ _ _ h3
      split at h4
      · cases h4
      · rename_i ho2
        have ho2 : opAt v = [58] := Classical.not_not.1 ho2
        obtain ⟨b, x, h5, h6⟩ := okR' h4
        have i3 := ps_sz f _ _ _ _ h5
        obtain ⟨rfl, rfl⟩ := okFst h6
        have g1 := aft_len (s := u) (by rw [ho]; decide)
        have g2 := aft_len (s := v) (by rw [ho2]; decide)
        simp only [szT, accSz] at *
        omega
  | f + 1, .lev l d, s, t, r, h => by
    simp only [ps] at h
    split at h
    · have := ps_sz f _ _ _ _ h
      simpa only [accSz] using this
    · obtain ⟨a, u, h1, h2⟩ := okR' h
      have i1 := ps_sz f _ _ _ _ h1
      have i2 := ps_sz f _ _ _ _ h2
      simp only [accSz] at *
      omega
  | f + 1, .loop l d a, s, t, r, h => by
    simp only [ps] at h
    split at h
    · rename_i ho
      obtain ⟨b, u, h1, h2⟩ := okR' h
      have i1 := ps_sz f _ _ _ _ h1
      have i2 := ps_sz f _ _ _ _ h2
      have g1 := aft_len (lv_ne ho)
      simp only [szT, accSz] at *
      omega
    · obtain ⟨rfl, rfl⟩ := okFst h
      have := trim_len s
      simp only [accSz]
      omega
  | f + 1, .sig d, s, t, r, h => by
    simp only [ps] at h
    split at h
    · cases h
    · split at h
      · rename_i ho
        obtain ⟨b, u, h1, h2⟩ := okR' h
        have i1 := ps_sz f _ _ _ _ h1
        obtain ⟨rfl, rfl⟩ := okFst h2
        have g1 := aft_len (sgn_ne ho)
        simp only [szT, accSz] at *
        omega
      · split at h
        · rename_i hp
          obtain ⟨b, u, h1, h2⟩ := okR' h
          have i1 := ps_sz f _ _ _ _ h1
          split at h2
          · cases h2
          · rename_i ho2
            have ho2 : opAt u = [41] := Classical.not_not.1 ho2
            obtain ⟨rfl, rfl⟩ := okFst h2
            have g1 := aft_len (s := s) (by rw [hp]; decide)
            have g2 := aft_len (s := u) (by rw [ho2]; decide)
            simp only [accSz] at *
            omega
        · injection h with h
          have := prim_sz h
          have := trim_len s
          simp only [accSz]
          omega
end Go.Proofs.YtgincpkggnndeaaGreatDoor
