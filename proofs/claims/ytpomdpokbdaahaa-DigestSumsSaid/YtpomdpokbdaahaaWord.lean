/- Words of 32 bits as BitVec, and what the program's arithmetic does to them. Conditions: none; no program is named. -/
import Derived.Test.YtpomdpokbdaahaaPlain
namespace Go.Proofs.Ytpomdpokbdaahaa
open Go.RowKit Vc

abbrev B := BitVec 32
/-- The value of a word. -/
def uv (x : B) : Value := .int .u32 (x.toNat : Int)
theorem u32_bits : IntKind.u32.bits = 32 := rfl
theorem wrap_u32 {n : Int} (h0 : 0 ≤ n) (h1 : n < 4294967296) : IntKind.u32.wrap n = n := by
  simp only [IntKind.wrap, IntKind.signed, IntKind.bits]
  simp
  omega
theorem wrap_u32' (n : Nat) : IntKind.u32.wrap (n : Int) = ((BitVec.ofNat 32 n).toNat : Int) := by
  simp only [IntKind.wrap, IntKind.signed, IntKind.bits, BitVec.toNat_ofNat]
  simp
theorem ofInt_B (x : B) : BitVec.ofInt IntKind.u32.bits (x.toNat : Int) = x := by
  apply BitVec.eq_of_toNat_eq
  have := x.isLt
  simp [u32_bits]
theorem B_lt (x : B) : (x.toNat : Int) < 4294967296 := by have := x.isLt; omega
theorem wrap_B (x : B) : IntKind.u32.wrap (x.toNat : Int) = (x.toNat : Int) := wrap_u32 (by omega) (B_lt x)
theorem b_and (x y : B) : bits .and .u32 (x.toNat : Int) (y.toNat : Int) = ((x &&& y).toNat : Int) := by
  simp only [bits, ofInt_B]
  exact wrap_B _
theorem b_or (x y : B) : bits .or .u32 (x.toNat : Int) (y.toNat : Int) = ((x ||| y).toNat : Int) := by
  simp only [bits, ofInt_B]
  exact wrap_B _
theorem b_xor (x y : B) : bits .xor .u32 (x.toNat : Int) (y.toNat : Int) = ((x ^^^ y).toNat : Int) := by
  simp only [bits, ofInt_B]
  exact wrap_B _
theorem b_add (x y : B) : IntKind.u32.wrap ((x.toNat : Int) + (y.toNat : Int)) = ((x + y).toNat : Int) := by
  rw [← Int.natCast_add, wrap_u32']
  rfl
theorem b_not (x : B) : bits .xor .u32 IntKind.u32.max (x.toNat : Int) = ((~~~x).toNat : Int) := by
  have h : (IntKind.u32.max : Int) = ((BitVec.allOnes 32).toNat : Int) := by decide
  rw [h, b_xor]
  rw [BitVec.allOnes_xor]
theorem b_shr (x : B) (n : Nat) : Int.fdiv (x.toNat : Int) (2 ^ (min n IntKind.u32.bits)) = ((x >>> n).toNat : Int) := by
  rw [Int.fdiv_eq_ediv_of_nonneg _ (Int.pow_nonneg (by decide))]
  have h : ((2 : Int) ^ (min n IntKind.u32.bits)) = ((2 ^ (min n 32) : Nat) : Int) := by rw [u32_bits]; push_cast; rfl
  rw [h, ← Int.natCast_ediv]
  congr 1
  simp only [BitVec.toNat_ushiftRight, Nat.shiftRight_eq_div_pow]
  by_cases hn : n ≤ 32
  · rw [Nat.min_eq_left hn]
  · rw [Nat.min_eq_right (by omega)]
    have h1 := x.isLt
    have h2 : (2 : Nat) ^ 32 ≤ 2 ^ n := Nat.pow_le_pow_right (by decide) (by omega)
    rw [Nat.div_eq_of_lt h1, Nat.div_eq_of_lt (by omega)]
theorem b_shl (x : B) (n : Nat) : IntKind.u32.wrap ((x.toNat : Int) * 2 ^ (min n IntKind.u32.bits)) = ((x <<< n).toNat : Int) := by
  have h : ((2 : Int) ^ (min n IntKind.u32.bits)) = ((2 ^ (min n 32) : Nat) : Int) := by rw [u32_bits]; push_cast; rfl
  rw [h, ← Int.natCast_mul, wrap_u32']
  congr 1
  simp only [BitVec.toNat_ofNat, BitVec.toNat_shiftLeft, Nat.shiftLeft_eq]
  by_cases hn : n ≤ 32
  · rw [Nat.min_eq_left hn]
  · rw [Nat.min_eq_right (by omega)]
    have h2 : (2 : Nat) ^ n = 2 ^ 32 * 2 ^ (n - 32) := by rw [← Nat.pow_add]; congr 1; omega
    rw [h2, Nat.mul_mod_left, ← Nat.mul_assoc, Nat.mul_right_comm, Nat.mul_mod_left]
theorem b_byte (b : UInt8) : IntKind.u32.wrap (b.toNat : Int) = ((BitVec.ofNat 32 b.toNat).toNat : Int) := wrap_u32' _

/-- A word turned right. -/
def rotr (x : B) (n : Nat) : B := (x >>> n) ||| (x <<< (32 - n))
def sig0 (x : B) : B := rotr x 7 ^^^ rotr x 18 ^^^ (x >>> 3)
def sig1 (x : B) : B := rotr x 17 ^^^ rotr x 19 ^^^ (x >>> 10)
def big0 (x : B) : B := rotr x 2 ^^^ rotr x 13 ^^^ rotr x 22
def big1 (x : B) : B := rotr x 6 ^^^ rotr x 11 ^^^ rotr x 25
def wch (e f g : B) : B := (e &&& f) ^^^ (~~~e &&& g)
def wmaj (a b c : B) : B := (a &&& b) ^^^ (a &&& c) ^^^ (b &&& c)
theorem ch_other (e f g : B) : g ^^^ (e &&& (f ^^^ g)) = wch e f g := by
  apply BitVec.eq_of_getLsbD_eq
  intro i hi
  simp only [wch, BitVec.getLsbD_xor, BitVec.getLsbD_and, BitVec.getLsbD_not, hi, decide_true, Bool.true_and]
  cases e.getLsbD i <;> cases f.getLsbD i <;> cases g.getLsbD i <;> rfl
theorem maj_other (a b c : B) : (a &&& b) ||| (c &&& (a ||| b)) = wmaj a b c := by
  apply BitVec.eq_of_getLsbD_eq
  intro i hi
  simp only [wmaj, BitVec.getLsbD_xor, BitVec.getLsbD_and, BitVec.getLsbD_or]
  cases a.getLsbD i <;> cases b.getLsbD i <;> cases c.getLsbD i <;> rfl

structure S8 where
  a : B
  b : B
  c : B
  d : B
  e : B
  f : B
  g : B
  h : B
def S8.list (s : S8) : List B := [s.a, s.b, s.c, s.d, s.e, s.f, s.g, s.h]
def uvs (l : List B) : List Value := l.map uv
def rnd (s : S8) (k w : B) : S8 :=
  let t := s.h + big1 s.e + wch s.e s.f s.g + k + w
  ⟨t + big0 s.a + wmaj s.a s.b s.c, s.a, s.b, s.c, s.d + t, s.e, s.f, s.g⟩
def rnds : List B → List B → S8 → S8
  | k :: ks, w :: ws, s => rnds ks ws (rnd s k w)
  | _, _, s => s
def wordAt (b : List UInt8) (i : Nat) : B :=
  (BitVec.ofNat 32 (b.getD (4 * i) 0).toNat <<< 24) ||| (BitVec.ofNat 32 (b.getD (4 * i + 1) 0).toNat <<< 16) ||| (BitVec.ofNat 32 (b.getD (4 * i + 2) 0).toNat <<< 8) ||| BitVec.ofNat 32 (b.getD (4 * i + 3) 0).toNat
def wnext (b : List UInt8) (l : List B) : B :=
  if l.length < 16 then wordAt b l.length
  else l.getD (l.length - 16) 0 + sig0 (l.getD (l.length - 15) 0) + l.getD (l.length - 7) 0 + sig1 (l.getD (l.length - 2) 0)
def grow (b : List UInt8) : Nat → List B → List B
  | 0, l => l
  | n + 1, l => grow b n (l ++ [wnext b l])
def sched (b : List UInt8) : List B := grow b 64 []
def ks : List B := [0x428a2f98#32, 0x71374491#32, 0xb5c0fbcf#32, 0xe9b5dba5#32, 0x3956c25b#32, 0x59f111f1#32, 0x923f82a4#32, 0xab1c5ed5#32,
  0xd807aa98#32, 0x12835b01#32, 0x243185be#32, 0x550c7dc3#32, 0x72be5d74#32, 0x80deb1fe#32, 0x9bdc06a7#32, 0xc19bf174#32,
  0xe49b69c1#32, 0xefbe4786#32, 0x0fc19dc6#32, 0x240ca1cc#32, 0x2de92c6f#32, 0x4a7484aa#32, 0x5cb0a9dc#32, 0x76f988da#32,
  0x983e5152#32, 0xa831c66d#32, 0xb00327c8#32, 0xbf597fc7#32, 0xc6e00bf3#32, 0xd5a79147#32, 0x06ca6351#32, 0x14292967#32,
  0x27b70a85#32, 0x2e1b2138#32, 0x4d2c6dfc#32, 0x53380d13#32, 0x650a7354#32, 0x766a0abb#32, 0x81c2c92e#32, 0x92722c85#32,
  0xa2bfe8a1#32, 0xa81a664b#32, 0xc24b8b70#32, 0xc76c51a3#32, 0xd192e819#32, 0xd6990624#32, 0xf40e3585#32, 0x106aa070#32,
  0x19a4c116#32, 0x1e376c08#32, 0x2748774c#32, 0x34b0bcb5#32, 0x391c0cb3#32, 0x4ed8aa4a#32, 0x5b9cca4f#32, 0x682e6ff3#32,
  0x748f82ee#32, 0x78a5636f#32, 0x84c87814#32, 0x8cc70208#32, 0x90befffa#32, 0xa4506ceb#32, 0xbef9a3f7#32, 0xc67178f2#32]
def init8 : S8 := ⟨0x6a09e667#32, 0xbb67ae85#32, 0x3c6ef372#32, 0xa54ff53a#32, 0x510e527f#32, 0x9b05688c#32, 0x1f83d9ab#32, 0x5be0cd19#32⟩
def S8.plus (s x : S8) : S8 := ⟨s.a + x.a, s.b + x.b, s.c + x.c, s.d + x.d, s.e + x.e, s.f + x.f, s.g + x.g, s.h + x.h⟩
def comp (s : S8) (b : List UInt8) : S8 := s.plus (rnds ks (sched b) s)
def absorbW (f : S8 → List UInt8 → S8) : Nat → List UInt8 → S8 → S8
  | 0, _, s => s
  | n + 1, t, s => absorbW f n (t.drop 64) (f s (t.take 64))
def absorb : Nat → List UInt8 → S8 → S8 := absorbW comp
theorem absorb_zero (t : List UInt8) (s : S8) : absorb 0 t s = s := by rw [absorb, absorbW]
theorem absorb_succ (n : Nat) (t : List UInt8) (s : S8) : absorb (n + 1) t s = absorb n (t.drop 64) (comp s (t.take 64)) := by rw [absorb, absorbW]
def lenByte (n i : Nat) : UInt8 := UInt8.ofNat ((n * 8) >>> (8 * i))
/-- What stands behind a text of n bytes. -/
def padding (n : Nat) : List UInt8 := 128 :: List.replicate ((119 - n % 64) % 64) 0 ++ [lenByte n 7, lenByte n 6, lenByte n 5, lenByte n 4, lenByte n 3, lenByte n 2, lenByte n 1, lenByte n 0]
def hexs : List UInt8 := [48, 49, 50, 51, 52, 53, 54, 55, 56, 57, 97, 98, 99, 100, 101, 102]
def hexd (x : B) (k : Nat) : UInt8 := hexs.getD ((x >>> k) &&& 15#32).toNat 0
def hex8 (x : B) : List UInt8 := [hexd x 28, hexd x 24, hexd x 20, hexd x 16, hexd x 12, hexd x 8, hexd x 4, hexd x 0]
def S8.hex (s : S8) : List UInt8 := s.list.flatMap hex8
def sha (s : List UInt8) : List UInt8 := (absorb ((s ++ padding s.length).length / 64) (s ++ padding s.length) init8).hex
end Go.Proofs.Ytpomdpokbdaahaa
