/-
  The plain model of digests (chapter 2), in the words of the machine's integers.
-/
import Derived.WalkKit
namespace Go.Proofs.YtbogljpafpkikaaGreatDoor

def xorI (a b : Int) : Int := bits .xor .u32 a b
def andI (a b : Int) : Int := bits .and .u32 a b
def orI (a b : Int) : Int := bits .or .u32 a b
def addI (a b : Int) : Int := IntKind.u32.wrap (a + b)
/-- A word rotated right by n. -/
def ror (x : Int) (n : Nat) : Int := bits .or .u32 (x * 2 ^ (32 - n) % 4294967296) (x / 2 ^ n)
def mixGo (x : Int) : List Int → Int → Int
  | [], a => a
  | n :: l, a => mixGo x l (xorI a (ror x n.toNat))
def mix (x : Int) (l : List Int) : Int := mixGo x l 0
theorem mixGo_snoc (x n : Int) : ∀ (l : List Int) (a : Int), mixGo x (l ++ [n]) a = xorI (mixGo x l a) (ror x n.toNat)
  | [], _ => rfl
  | _ :: l, _ => mixGo_snoc x n l _

/-- The word of four bytes. -/
def word4 (a b c d : Int) : Int := orI (orI (orI (IntKind.u32.wrap (IntKind.u32.wrap a * 16777216)) (IntKind.u32.wrap (IntKind.u32.wrap b * 65536))) (IntKind.u32.wrap (IntKind.u32.wrap c * 256))) (IntKind.u32.wrap d)
def ext (w : List Int) (k : Nat) : Int :=
  addI (addI (addI (w.getD (k - 16) 0) (xorI (mix (w.getD (k - 15) 0) [7, 18]) (w.getD (k - 15) 0 / 8))) (w.getD (k - 7) 0)) (xorI (mix (w.getD (k - 2) 0) [17, 19]) (w.getD (k - 2) 0 / 1024))
/-- The first k words of a block's schedule. -/
def sch (b : List Int) : Nat → List Int
  | 0 => []
  | k + 1 => sch b k ++ [if k < 16 then word4 (b.getD (4 * k) 0) (b.getD (4 * k + 1) 0) (b.getD (4 * k + 2) 0) (b.getD (4 * k + 3) 0) else ext (sch b k) k]
theorem sch_len (b : List Int) : ∀ k, (sch b k).length = k
  | 0 => rfl
  | k + 1 => by rw [sch, List.length_append, sch_len b k]; rfl

/-- The eight words. -/
structure W8 where
  a : Int
  b : Int
  c : Int
  d : Int
  e : Int
  f : Int
  g : Int
  h : Int
def tOf (v : W8) (k w : Int) : Int := addI (addI (addI (addI v.h (mix v.e [6, 11, 25])) (xorI (andI v.e v.f) (andI (xorI 4294967295 v.e) v.g))) k) w
def uOf (v : W8) : Int := addI (mix v.a [2, 13, 22]) (xorI (xorI (andI v.a v.b) (andI v.a v.c)) (andI v.b v.c))
def rnd (v : W8) (k w : Int) : W8 := ⟨addI (tOf v k w) (uOf v), v.a, v.b, v.c, addI v.d (tOf v k w), v.e, v.f, v.g⟩
def kTab : List Int := [
  0x428a2f98, 0x71374491, 0xb5c0fbcf, 0xe9b5dba5, 0x3956c25b, 0x59f111f1, 0x923f82a4, 0xab1c5ed5,
  0xd807aa98, 0x12835b01, 0x243185be, 0x550c7dc3, 0x72be5d74, 0x80deb1fe, 0x9bdc06a7, 0xc19bf174,
  0xe49b69c1, 0xefbe4786, 0x0fc19dc6, 0x240ca1cc, 0x2de92c6f, 0x4a7484aa, 0x5cb0a9dc, 0x76f988da,
  0x983e5152, 0xa831c66d, 0xb00327c8, 0xbf597fc7, 0xc6e00bf3, 0xd5a79147, 0x06ca6351, 0x14292967,
  0x27b70a85, 0x2e1b2138, 0x4d2c6dfc, 0x53380d13, 0x650a7354, 0x766a0abb, 0x81c2c92e, 0x92722c85,
  0xa2bfe8a1, 0xa81a664b, 0xc24b8b70, 0xc76c51a3, 0xd192e819, 0xd6990624, 0xf40e3585, 0x106aa070,
  0x19a4c116, 0x1e376c08, 0x2748774c, 0x34b0bcb5, 0x391c0cb3, 0x4ed8aa4a, 0x5b9cca4f, 0x682e6ff3,
  0x748f82ee, 0x78a5636f, 0x84c87814, 0x8cc70208, 0x90befffa, 0xa4506ceb, 0xbef9a3f7, 0xc67178f2]
def rnds (W : List Int) (v : W8) : Nat → W8
  | 0 => v
  | k + 1 => rnd (rnds W v k) (kTab.getD k 0) (W.getD k 0)
def sum8 (h v : W8) : W8 := ⟨addI h.a v.a, addI h.b v.b, addI h.c v.c, addI h.d v.d, addI h.e v.e, addI h.f v.f, addI h.g v.g, addI h.h v.h⟩
/-- A block processed. -/
def addB (h : W8) (b : List Int) : W8 := sum8 h (rnds (sch b 64) h 64)
def W8.list (v : W8) : List Int := [v.a, v.b, v.c, v.d, v.e, v.f, v.g, v.h]
theorem W8.list_len (v : W8) : v.list.length = 8 := rfl
def byteI (x : Int) : Int := IntKind.u8.wrap x
def outB (x : Int) : List Int := [byteI (x / 2 ^ 24), byteI (x / 2 ^ 16), byteI (x / 2 ^ 8), byteI (x / 2 ^ 0)]
def outL (v : W8) : List Int := v.list.flatMap outB
theorem outL_len (v : W8) : (outL v).length = 32 := rfl
/-- The words that a computation begins with. -/
def H0 : W8 := ⟨0x6a09e667, 0xbb67ae85, 0x3c6ef372, 0xa54ff53a, 0x510e527f, 0x9b05688c, 0x1f83d9ab, 0x5be0cd19⟩
/-- All blocks of a list of bytes. -/
def blocks (l : List Int) (h : W8) : Nat → W8
  | 0 => h
  | k + 1 => addB (blocks l h k) ((l.drop (64 * k)).take 64)

end Go.Proofs.YtbogljpafpkikaaGreatDoor
