/- The plain mathematics of SHA-256 over lists of whole numbers: words, rounds, blocks, padding. No program, no memory. -/
import Derived.Laws.BitsLemmas
import Derived.IntWalk
namespace Go.Proofs.YtkfdaeipfjcibaaDoor
open Go.RowKit
/-- The 64 constants. -/
def KT : List Int := [1116352408, 1899447441, 3049323471, 3921009573, 961987163, 1508970993, 2453635748, 2870763221, 3624381080, 310598401, 607225278, 1426881987, 1925078388, 2162078206, 2614888103, 3248222580, 3835390401, 4022224774, 264347078, 604807628, 770255983, 1249150122, 1555081692, 1996064986, 2554220882, 2821834349, 2952996808, 3210313671, 3336571891, 3584528711, 113926993, 338241895, 666307205, 773529912, 1294757372, 1396182291, 1695183700, 1986661051, 2177026350, 2456956037, 2730485921, 2820302411, 3259730800, 3345764771, 3516065817, 3600352804, 4094571909, 275423344, 430227734, 506948616, 659060556, 883997877, 958139571, 1322822218, 1537002063, 1747873779, 1955562222, 2024104815, 2227730452, 2361852424, 2428436474, 2756734187, 3204031479, 3329325298]
theorem KT_length : KT.length = 64 := by decide
def ror (k : Nat) (x : Int) : Int := bits .or .u32 (x / 2 ^ k) (x * 2 ^ (32 - k) % 4294967296)
theorem bits_or_comm (k : IntKind) (a b : Int) : bits .or k a b = bits .or k b a := by
  simp only [bits, BitVec.or_comm]
def word4 (blk : List Int) (k : Nat) : Int :=
  bits .or .u32 (bits .or .u32 (bits .or .u32 (blk.getD (4 * k) 0 % 4294967296 * 16777216 % 4294967296) (blk.getD (4 * k + 1) 0 % 4294967296 * 65536 % 4294967296)) (blk.getD (4 * k + 2) 0 % 4294967296 * 256 % 4294967296)) (blk.getD (4 * k + 3) 0 % 4294967296)
def words16 (blk : List Int) (k : Nat) : List Int := (List.range k).map (word4 blk)
theorem words16_length (blk : List Int) (k : Nat) : (words16 blk k).length = k := by simp [words16]
theorem words16_succ (blk : List Int) (k : Nat) : words16 blk (k + 1) = words16 blk k ++ [word4 blk k] := by simp [words16, List.range_succ]
def sig0 (x : Int) : Int := bits .xor .u32 (bits .xor .u32 (ror 7 x) (ror 18 x)) (x / 8)
def sig1 (x : Int) : Int := bits .xor .u32 (bits .xor .u32 (ror 17 x) (ror 19 x)) (x / 1024)
def wnext (l : List Int) : Int := (l.getD (l.length - 16) 0 + l.getD (l.length - 7) 0 + sig0 (l.getD (l.length - 15) 0) + sig1 (l.getD (l.length - 2) 0)) % 4294967296
def wsched (blk : List Int) : Nat → List Int
  | 0 => words16 blk 16
  | n + 1 => wsched blk n ++ [wnext (wsched blk n)]
theorem wsched_length (blk : List Int) (n : Nat) : (wsched blk n).length = 16 + n := by
  induction n with
  | zero => simp [wsched, words16_length]
  | succ n ih => simp [wsched, ih]; omega
structure S8 where
  a : Int
  b : Int
  c : Int
  d : Int
  e : Int
  f : Int
  g : Int
  h : Int
def S8.list (s : S8) : List Int := [s.a, s.b, s.c, s.d, s.e, s.f, s.g, s.h]
def bsig1 (e : Int) : Int := bits .xor .u32 (bits .xor .u32 (ror 6 e) (ror 11 e)) (ror 25 e)
def bsig0 (a : Int) : Int := bits .xor .u32 (bits .xor .u32 (ror 2 a) (ror 13 a)) (ror 22 a)
def chf (e f g : Int) : Int := bits .xor .u32 (bits .and .u32 e f) (bits .and .u32 (bits .xor .u32 IntKind.u32.max e) g)
def majf (a b c : Int) : Int := bits .xor .u32 (bits .xor .u32 (bits .and .u32 a b) (bits .and .u32 a c)) (bits .and .u32 b c)
def t1f (s : S8) (k w : Int) : Int := (s.h + bsig1 s.e + chf s.e s.f s.g + k + w) % 4294967296
def t2f (s : S8) : Int := (bsig0 s.a + majf s.a s.b s.c) % 4294967296
def rnd (s : S8) (k w : Int) : S8 :=
  ⟨(t1f s k w + t2f s) % 4294967296, s.a, s.b, s.c, (s.d + t1f s k w) % 4294967296, s.e, s.f, s.g⟩
def rounds (ws : List Int) (s : S8) : Nat → S8
  | 0 => s
  | n + 1 => rnd (rounds ws s n) (KT.getD n 0) (ws.getD n 0)
def addS (s t : S8) : S8 := ⟨(s.a + t.a) % 4294967296, (s.b + t.b) % 4294967296, (s.c + t.c) % 4294967296, (s.d + t.d) % 4294967296, (s.e + t.e) % 4294967296, (s.f + t.f) % 4294967296, (s.g + t.g) % 4294967296, (s.h + t.h) % 4294967296⟩
/-- What 64 bytes make of the eight words. -/
def comp (s : S8) (blk : List Int) : S8 := addS s (rounds (wsched blk 48) s 64)
/-- What so many whole blocks make. -/
def comps (s : S8) (l : List Int) : Nat → S8
  | 0 => s
  | n + 1 => comp (comps s l n) ((l.drop (64 * n)).take 64)
def IV : S8 := ⟨1779033703, 3144134277, 1013904242, 2773480762, 1359893119, 2600822924, 528734635, 1541459225⟩
def lenBytes (n : Nat) : List Int := (List.range 8).map fun i => ((8 * n : Int) / 2 ^ (56 - 8 * i)) % 256
def padTo (n : Nat) : Nat := (119 - n % 64) % 64
def padded (l : List Int) : List Int := l ++ 128 :: List.replicate (padTo l.length) 0 ++ lenBytes l.length
def outBytes (s : S8) : List Int := (List.range 32).map fun i => (s.list.getD (i / 4) 0 / 2 ^ (24 - 8 * (i % 4))) % 256
def sha (l : List Int) : List Int := outBytes (comps IV (padded l) ((padded l).length / 64))
theorem outBytes_length (s : S8) : (outBytes s).length = 32 := by simp [outBytes]
theorem sha_length (l : List Int) : (sha l).length = 32 := outBytes_length _
theorem sha_nil : (sha []).getD 0 0 = 227 ∧ (sha []).getD 31 0 = 85 := by constructor <;> decide +kernel
theorem sha_abc : (sha [97, 98, 99]).getD 0 0 = 186 ∧ (sha [97, 98, 99]).getD 31 0 = 173 := by constructor <;> decide +kernel
end Go.Proofs.YtkfdaeipfjcibaaDoor
