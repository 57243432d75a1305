/- The digest: a block taken in, a text's sum. Conditions: as each theorem names them. -/
import Derived.Test.YtpomdpokbdaahaaDigest2
namespace Go.Proofs.Ytpomdpokbdaahaa
open Go.RowKit Vc
variable {w : World}

/-- Eight words laid, one by one, in a new row. -/
abbrev fill8 (w : World) (t : TypeId) (s : S8) : World :=
  ((((((((w.alloc (.cells #[(.int .u32 0), (.int .u32 0), (.int .u32 0), (.int .u32 0), (.int .u32 0), (.int .u32 0), (.int .u32 0), (.int .u32 0)] t)).setCell (Addr.mk w.heap.size 0 none) (uv s.a)).setCell (Addr.mk w.heap.size 1 none) (uv s.b)).setCell (Addr.mk w.heap.size 2 none) (uv s.c)).setCell (Addr.mk w.heap.size 3 none) (uv s.d)).setCell (Addr.mk w.heap.size 4 none) (uv s.e)).setCell (Addr.mk w.heap.size 5 none) (uv s.f)).setCell (Addr.mk w.heap.size 6 none) (uv s.g)).setCell (Addr.mk w.heap.size 7 none) (uv s.h)
theorem fill8_row (w : World) (t : TypeId) (s : S8) : Row (fill8 w t s) w.heap.size t ⟨uvs s.list⟩ := by
  have h : Row (w.alloc (.cells ⟨List.replicate 8 (.int .u32 0)⟩ t)) w.heap.size t ⟨List.replicate 8 (.int .u32 0)⟩ := Row.new _ _ _
  exact (((((((h.setl 0 (uv s.a)).setl 1 (uv s.b)).setl 2 (uv s.c)).setl 3 (uv s.d)).setl 4 (uv s.e)).setl 5 (uv s.f)).setl 6 (uv s.g)).setl 7 (uv s.h)
theorem fill8_wr (w : World) (t : TypeId) (s : S8) {Q : Prop} (h : Q) :
    Wr (w.alloc (.cells #[(.int .u32 0), (.int .u32 0), (.int .u32 0), (.int .u32 0), (.int .u32 0), (.int .u32 0), (.int .u32 0), (.int .u32 0)] t)) (Addr.mk w.heap.size 0 none) ∧
    Wr ((w.alloc (.cells #[(.int .u32 0), (.int .u32 0), (.int .u32 0), (.int .u32 0), (.int .u32 0), (.int .u32 0), (.int .u32 0), (.int .u32 0)] t)).setCell (Addr.mk w.heap.size 0 none) (uv s.a)) (Addr.mk w.heap.size 1 none) ∧
    Wr (((w.alloc (.cells #[(.int .u32 0), (.int .u32 0), (.int .u32 0), (.int .u32 0), (.int .u32 0), (.int .u32 0), (.int .u32 0), (.int .u32 0)] t)).setCell (Addr.mk w.heap.size 0 none) (uv s.a)).setCell (Addr.mk w.heap.size 1 none) (uv s.b)) (Addr.mk w.heap.size 2 none) ∧
    Wr ((((w.alloc (.cells #[(.int .u32 0), (.int .u32 0), (.int .u32 0), (.int .u32 0), (.int .u32 0), (.int .u32 0), (.int .u32 0), (.int .u32 0)] t)).setCell (Addr.mk w.heap.size 0 none) (uv s.a)).setCell (Addr.mk w.heap.size 1 none) (uv s.b)).setCell (Addr.mk w.heap.size 2 none) (uv s.c)) (Addr.mk w.heap.size 3 none) ∧
    Wr (((((w.alloc (.cells #[(.int .u32 0), (.int .u32 0), (.int .u32 0), (.int .u32 0), (.int .u32 0), (.int .u32 0), (.int .u32 0), (.int .u32 0)] t)).setCell (Addr.mk w.heap.size 0 none) (uv s.a)).setCell (Addr.mk w.heap.size 1 none) (uv s.b)).setCell (Addr.mk w.heap.size 2 none) (uv s.c)).setCell (Addr.mk w.heap.size 3 none) (uv s.d)) (Addr.mk w.heap.size 4 none) ∧
    Wr ((((((w.alloc (.cells #[(.int .u32 0), (.int .u32 0), (.int .u32 0), (.int .u32 0), (.int .u32 0), (.int .u32 0), (.int .u32 0), (.int .u32 0)] t)).setCell (Addr.mk w.heap.size 0 none) (uv s.a)).setCell (Addr.mk w.heap.size 1 none) (uv s.b)).setCell (Addr.mk w.heap.size 2 none) (uv s.c)).setCell (Addr.mk w.heap.size 3 none) (uv s.d)).setCell (Addr.mk w.heap.size 4 none) (uv s.e)) (Addr.mk w.heap.size 5 none) ∧
    Wr (((((((w.alloc (.cells #[(.int .u32 0), (.int .u32 0), (.int .u32 0), (.int .u32 0), (.int .u32 0), (.int .u32 0), (.int .u32 0), (.int .u32 0)] t)).setCell (Addr.mk w.heap.size 0 none) (uv s.a)).setCell (Addr.mk w.heap.size 1 none) (uv s.b)).setCell (Addr.mk w.heap.size 2 none) (uv s.c)).setCell (Addr.mk w.heap.size 3 none) (uv s.d)).setCell (Addr.mk w.heap.size 4 none) (uv s.e)).setCell (Addr.mk w.heap.size 5 none) (uv s.f)) (Addr.mk w.heap.size 6 none) ∧
    Wr ((((((((w.alloc (.cells #[(.int .u32 0), (.int .u32 0), (.int .u32 0), (.int .u32 0), (.int .u32 0), (.int .u32 0), (.int .u32 0), (.int .u32 0)] t)).setCell (Addr.mk w.heap.size 0 none) (uv s.a)).setCell (Addr.mk w.heap.size 1 none) (uv s.b)).setCell (Addr.mk w.heap.size 2 none) (uv s.c)).setCell (Addr.mk w.heap.size 3 none) (uv s.d)).setCell (Addr.mk w.heap.size 4 none) (uv s.e)).setCell (Addr.mk w.heap.size 5 none) (uv s.f)).setCell (Addr.mk w.heap.size 6 none) (uv s.g)) (Addr.mk w.heap.size 7 none) ∧ Q := by
  have h0 : Row (w.alloc (.cells ⟨List.replicate 8 (.int .u32 0)⟩ t)) w.heap.size t ⟨List.replicate 8 (.int .u32 0)⟩ := Row.new _ _ _
  have h1 := h0.setl 0 (uv s.a)
  have h2 := h1.setl 1 (uv s.b)
  have h3 := h2.setl 2 (uv s.c)
  have h4 := h3.setl 3 (uv s.d)
  have h5 := h4.setl 4 (uv s.e)
  have h6 := h5.setl 5 (uv s.f)
  have h7 := h6.setl 6 (uv s.g)
  exact ⟨h0.wr 0 (by simp), h1.wr 1 (by simp), h2.wr 2 (by simp), h3.wr 3 (by simp), h4.wr 4 (by simp), h5.wr 5 (by simp), h6.wr 6 (by simp), h7.wr 7 (by simp), h⟩
theorem fill8_mod {S : Nat → Prop} {a w : World} (h : Mod S a w) (t : TypeId) (s : S8) : Mod S a (fill8 w t s) := by
  have hs := h.size
  exact ((((((((h.alloc _).setCell (.inr hs) _).setCell (.inr hs) _).setCell (.inr hs) _).setCell (.inr hs) _).setCell (.inr hs) _).setCell (.inr hs) _).setCell (.inr hs) _).setCell (.inr hs) _

/-- What the rounds keep: the words of the rounds, the state, the state that is turned. -/
structure Rnd (w w1 : World) (p q k : Nat) (t : TypeId) (s0 s : S8) : Prop where
  old : Row w1 p t ⟨uvs s0.list⟩
  new : Row w1 q 29 ⟨uvs s.list⟩
  cube : Row w1 k 38 ⟨uvs ks⟩
  still : Still w w1
theorem Rnd.drew {w w1 : World} {p q k : Nat} {t : TypeId} {s0 s : S8} (h : Rnd w w1 p q k t s0 s) : Rnd w w1.drew p q k t s0 s := ⟨h.old.drew, h.new.drew, h.cube.drew, h.still.drew⟩

theorem rnds_step {i : Nat} {b : List UInt8} {s : S8} (h : i < 64) : rnds (ks.drop i) ((sched b).drop i) s = rnds (ks.drop (i + 1)) ((sched b).drop (i + 1)) (rnd s (ks.getD i 0) ((sched b).getD i 0)) := by
  have h1 : i < ks.length := h
  have h2 : i < (sched b).length := by rw [sched_length]; exact h
  rw [List.drop_eq_getElem_cons h1, List.drop_eq_getElem_cons h2, rnds, List.getD_eq_getElem?_getD, List.getD_eq_getElem?_getD, List.getElem?_eq_getElem h1, List.getElem?_eq_getElem h2]
  rfl
theorem plus_part {s x : S8} {i : Nat} (h : i < 8) : (uvs (((s.plus x).list.take i) ++ s.list.drop i)).set i (.int .u32 ((s.list.getD i 0 + x.list.getD i 0).toNat : Int)) = uvs (((s.plus x).list.take (i + 1)) ++ s.list.drop (i + 1)) := by
  match i, h with
  | 0, _ => rfl
  | 1, _ => rfl
  | 2, _ => rfl
  | 3, _ => rfl
  | 4, _ => rfl
  | 5, _ => rfl
  | 6, _ => rfl
  | 7, _ => rfl
theorem plus_get {s x : S8} {i : Nat} (h : i < 8) : (uvs (((s.plus x).list.take i) ++ s.list.drop i))[i]? = some (.int .u32 ((s.list.getD i 0).toNat : Int)) := by
  match i, h with
  | 0, _ => rfl
  | 1, _ => rfl
  | 2, _ => rfl
  | 3, _ => rfl
  | 4, _ => rfl
  | 5, _ => rfl
  | 6, _ => rfl
  | 7, _ => rfl

theorem rnd_list (x : S8) (k v : B) : ((uvs [x.a, x.a, x.b, x.c, x.d, x.e, x.f, x.g]).set 4 (.int .u32 ((x.d + (x.h + (rotr x.e 6 ^^^ rotr x.e 11 ^^^ rotr x.e 25) + (x.g ^^^ (x.e &&& (x.f ^^^ x.g))) + k + v)).toNat : Int))).set 0
    (.int .u32 ((x.h + (rotr x.e 6 ^^^ rotr x.e 11 ^^^ rotr x.e 25) + (x.g ^^^ (x.e &&& (x.f ^^^ x.g))) + k + v + ((rotr x.a 2 ^^^ rotr x.a 13 ^^^ rotr x.a 22) + ((x.a &&& x.b) ||| (x.c &&& (x.a ||| x.b))))).toNat : Int)) = uvs (rnd x k v).list := by
  rw [ch_other, maj_other]
  have h (T u m : B) : T + (u + m) = T + u + m := (BitVec.add_assoc _ _ _).symm
  rw [h _ (rotr x.a 2 ^^^ rotr x.a 13 ^^^ rotr x.a 22)]
  rfl
set_option maxHeartbeats 1000000 in
theorem add_spec {p : Nat} {t : TypeId} {s : S8} (hp : Row w p t ⟨uvs s.list⟩) (b : List UInt8) (hb : b.length = 64) :
    Calls Try.prog fn_digest_state_add #[.pointer (some ⟨p, 0, none⟩), .string (S b)] w
      (fun e w' => e = .returned (.tuple #[]) ∧ Mod (fun i => i = p) w w' ∧ Row w' p t ⟨uvs (comp s b).list⟩) := by
  refine digest_state_add_calls _ _ _ _ ?_
  refine cubes_spec.mono ?_
  rintro _ w1 ⟨rfl, hm1⟩
  have hp1 := hp.mod hm1 (fun h => h)
  have hkl : (uvs ks).length = 64 := rfl
  have hko := uvs_one ks
  refine .inl ⟨uvs ks, hkl, rfl, hkl, hko, w1.heap.size, 0, List.replicate 64 (.int .u32 0), 38, rfl, Row.new _ _ _, by rw [hkl]; simp, ?_⟩
  have hek : (List.replicate 64 (Value.int .u32 0)).take 0 ++ (uvs ks ++ (List.replicate 64 (Value.int .u32 0)).drop (0 + (uvs ks).length)) = uvs ks := by rw [hkl]; simp
  rw [hek]
  have hk2 := (Row.new w1 38 ⟨List.replicate 64 (.int .u32 0)⟩).setRow ⟨uvs ks⟩ (by simp [hkl])
  have hp2 := (hp1.alloc (.cells ⟨List.replicate 64 (.int .u32 0)⟩ 38)).setRow_far (g' := w1.heap.size) (Nat.ne_of_lt hp1.lt) ⟨uvs ks⟩
  have hm2 : Still w ((w1.alloc (.cells ⟨List.replicate 64 (.int .u32 0)⟩ 38)).setRow w1.heap.size ⟨uvs ks⟩) := (hm1.alloc _).setRow (.inr hm1.size) _
  have hkp : w1.heap.size ≠ p := Nat.ne_of_gt hp1.lt
  have hk1s := hm1.size
  generalize w1.heap.size = k at hk2 hp2 hm2 hkp hk1s ⊢
  generalize (w1.alloc (.cells ⟨List.replicate 64 (.int .u32 0)⟩ 38)).setRow k ⟨uvs ks⟩ = w2 at hk2 hp2 hm2 ⊢
  refine ⟨_, _, _, _, _, _, _, _, hp2.cellv rfl, hp2.at1 rfl, hp2.at1 rfl, hp2.at1 rfl, hp2.at1 rfl, hp2.at1 rfl, hp2.at1 rfl, hp2.at1 rfl, ?_⟩
  refine fill8_wr w2 29 s ?_
  have hr3 : Rnd w (fill8 w2 29 s) p w2.heap.size k t s s := by
    have hpn := Nat.ne_of_lt hp2.lt
    have hkn := Nat.ne_of_lt hk2.lt
    exact ⟨((((((((hp2.alloc _).far hpn _).far hpn _).far hpn _).far hpn _).far hpn _).far hpn _).far hpn _).far hpn _, fill8_row w2 29 s,
      ((((((((hk2.alloc _).far hkn _).far hkn _).far hkn _).far hkn _).far hkn _).far hkn _).far hkn _).far hkn _, fill8_mod hm2 29 s⟩
  have hqp : w2.heap.size ≠ p := Nat.ne_of_gt hp2.lt
  have hqk : w2.heap.size ≠ k := Nat.ne_of_gt hk2.lt
  have hq := hm2.size
  change Calls _ _ _ (fill8 w2 29 s) _
  generalize fill8 w2 29 s = w3 at hr3 ⊢
  generalize w2.heap.size = q at hr3 hqp hqk hq ⊢
  refine (words_spec b hb).mono ?_
  rintro _ w4 ⟨rfl, hm4⟩
  have hr4 : Rnd w w4 p q k t s s := ⟨hr3.old.mod hm4 (fun h => h), hr3.new.mod hm4 (fun h => h), hr3.cube.mod hm4 (fun h => h), hr3.still.trans hm4 (fun _ h => h) (fun _ _ h => h)⟩
  refine .inl ⟨_, by rw [uvs_length, sched_length], rfl, ?_⟩
  refine ⟨fun x w5 => ∃ (i : Nat) (x8 : S8), x = (i : Int) ∧ i ≤ 64 ∧ rnds (ks.drop i) ((sched b).drop i) x8 = rnds ks (sched b) s ∧ Rnd w w5 p q k t s x8, fun x _ => (64 - x).toNat, ⟨0, s, rfl, by omega, rfl, hr4⟩, ?_⟩
  rintro _ _ w5 ⟨i, x8, rfl, hi, hx8, hr⟩
  have e1 : IntKind.i64.wrap ((i : Int) + 1) = ((i + 1 : Nat) : Int) := by rw [wrap_i64 (by omega) (by omega)]; omega
  refine bsel_of (fun hx => ?_) (fun hx => ?_)
  · have hx := of_decide_eq_true hx
    have hx' : i < 64 := by omega
    have hks : i < ks.length := hx'
    rw [rnds_step hx'] at hx8
    simp only [e1, Int.toNat_natCast]
    refine ⟨by omega, by omega, _, by rw [Nat.mul_one]; exact uvs_get (by rw [sched_length]; exact hx'), by decide, by decide, _, hr.new.at (k := 4) rfl, by decide, by decide, _, hr.new.at (k := 0) rfl,
      fun wq => Rnd w wq p q k t s x8, hr.drew.drew, by decide, by decide, _, fun wq hq => hq.new.at (k := 7) rfl, by decide, by decide, _, fun wq hq => hq.new.at (k := 6) rfl, by decide, by decide, _, fun wq hq => hq.new.at (k := 5) rfl,
      by decide, by decide, _, fun wq hq => hq.new.at (k := 6) rfl, by omega, by omega, _, fun wq hq => hq.cube.at (uvs_get hks), ?_⟩
    refine (turned_spec _ 6 (by decide) (by decide)).mono ?_
    rintro _ _ ⟨rfl, rfl⟩
    refine .inl ⟨_, rfl, hr.drew.drew, (turned_spec _ 11 (by decide) (by decide)).mono ?_⟩
    rintro _ _ ⟨rfl, rfl⟩
    refine .inl ⟨_, rfl, hr.drew.drew, (turned_spec _ 25 (by decide) (by decide)).mono ?_⟩
    rintro _ _ ⟨rfl, rfl⟩
    refine .inl ⟨_, rfl, hr.drew.drew, fun wq => Rnd w wq p q k t s x8, hr.drew.drew.drew, by decide, by decide, _, fun wq hq => hq.new.at (k := 1) rfl, by decide, by decide, _, fun wq hq => hq.new.at (k := 2) rfl, by decide, by decide, _, fun wq hq => hq.new.at (k := 1) rfl, ?_⟩
    refine (turned_spec _ 2 (by decide) (by decide)).mono ?_
    rintro _ _ ⟨rfl, rfl⟩
    refine .inl ⟨_, rfl, hr.drew.drew.drew, (turned_spec _ 13 (by decide) (by decide)).mono ?_⟩
    rintro _ _ ⟨rfl, rfl⟩
    refine .inl ⟨_, rfl, hr.drew.drew.drew, (turned_spec _ 22 (by decide) (by decide)).mono ?_⟩
    rintro _ _ ⟨rfl, rfl⟩
    refine .inl ⟨_, rfl, hr.drew.drew.drew, ?_⟩
    simp only [b_add, b_xor, b_and, b_or]
    have hrd := hr.drew.drew.drew.drew
    have hc : (uvs x8.list).take 1 ++ ((uvs x8.list).take 7 ++ (uvs x8.list).drop (1 + ((uvs x8.list).take 7).length)) = uvs [x8.a, x8.a, x8.b, x8.c, x8.d, x8.e, x8.f, x8.g] := rfl
    refine ⟨fun wq => Rnd w wq p q k t s x8, hrd, by decide, by decide, by decide, by decide, (uvs x8.list).take 7, fun v hv => uvs_one x8.list v (List.mem_of_mem_take hv), ⟨rfl, fun _ => ⟨_, rfl, ?_⟩⟩, .inr ⟨q, 1, uvs x8.list, 29, ?_, hrd.new, Nat.le_refl 8, ?_⟩⟩
    · intro j u hu
      rw [List.getElem?_take] at hu
      split at hu
      · exact hrd.new.at1 hu
      · cases hu
    · rw [if_neg (by decide)]
      rfl
    · rw [hc]
      have hn := hrd.new.setRow ⟨uvs [x8.a, x8.a, x8.b, x8.c, x8.d, x8.e, x8.f, x8.g]⟩ (by simp [uvs, S8.list])
      refine ⟨by decide, by decide, _, hn.at (k := 4) rfl, ?_⟩
      simp only [b_add]
      refine ⟨by decide, by decide, hn.wrAt (k := 4) (show 4 < 8 by decide), by decide, by decide, (hn.setAt 4 _).wrAt (k := 0) (show 0 < 8 by decide), ⟨i + 1, _, rfl, by omega, hx8, ?_, ?_, ?_, ?_⟩, by omega⟩
      · exact ((hrd.old.setRow_far hqp.symm _).farAt hqp.symm 4 _).farAt hqp.symm 0 _
      · rw [← rnd_list]
        exact (hn.setAt 4 _).setAt 0 _
      · exact ((hrd.cube.setRow_far hqk.symm _).farAt hqk.symm 4 _).farAt hqk.symm 0 _
      · exact ((hrd.still.setRow (.inr hq) _).setAt (.inr hq) 4 _).setAt (.inr hq) 0 _
  · have hx := of_decide_eq_false hx
    obtain rfl : i = 64 := by omega
    have hdone : x8 = rnds ks (sched b) s := by
      have he : ks.drop 64 = [] := rfl
      rw [← hx8, he, rnds]
      intro a b c d h _
      cases h
    have hcs : comp s b = s.plus x8 := by rw [hdone]; rfl
    rw [hcs]
    clear hcs hdone hx8
    generalize x8 = x at hr
    refine ⟨fun v w6 => ∃ j : Nat, v = (j : Int) ∧ j ≤ 8 ∧ Row w6 p t ⟨uvs ((s.plus x).list.take j ++ s.list.drop j)⟩ ∧ Row w6 q 29 ⟨uvs x.list⟩ ∧ Mod (fun i => i = p) w w6, fun v _ => (8 - v).toNat,
      ⟨0, rfl, by omega, hr.old, hr.new, hr.still.weaken (fun _ h => h.elim)⟩, ?_⟩
    rintro _ _ w6 ⟨j, rfl, hj, ho, hn, hm⟩
    have e1 : IntKind.i64.wrap ((j : Int) + 1) = ((j + 1 : Nat) : Int) := by rw [wrap_i64 (by omega) (by omega)]; omega
    refine bsel_of (fun hx => ?_) (fun hx => ?_)
    · have hx := of_decide_eq_true hx
      have hj' : j < 8 := by omega
      simp only [e1, Int.toNat_natCast]
      refine ⟨fun wq => Row wq p t ⟨uvs ((s.plus x).list.take j ++ s.list.drop j)⟩ ∧ Row wq q 29 ⟨uvs x.list⟩, ⟨ho.drew, hn.drew⟩, by omega, by omega, _, fun wq hq => hq.1.at (plus_get hj'), by omega, by omega, _, fun wq hq => hq.2.at (uvs_get (l := x.list) hj'), by omega, by omega,
        ho.drew.wrAt ?_, ?_⟩
      · simp [uvs, S8.list, S8.plus]; omega
      simp only [b_add]
      refine ⟨⟨j + 1, rfl, by omega, ?_, hn.drew.farAt hqp _ _, hm.drew.setAt (.inl rfl) _ _⟩, by omega⟩
      rw [← plus_part hj']
      exact ho.drew.setAt _ _
    · have hx := of_decide_eq_false hx
      obtain rfl : j = 8 := by omega
      exact ⟨rfl, hm, ho⟩
end Go.Proofs.Ytpomdpokbdaahaa
