/-
  The plain model of a digest of a string: bytes as integers, the padding, the blocks (chapter 2).
-/
import Derived.Test.YtbogljpafpkikaaGreatDoorQDgM
import Derived.Test.YtbogljpafpkikaaGreatDoorQDgA
namespace Go.Proofs.YtbogljpafpkikaaGreatDoor
open Go.RowKit Go.Lib

/-- Bytes as integers, and back. -/
def bI (l : List UInt8) : List Int := l.map fun b => (b.toNat : Int)
def toB (x : Int) : UInt8 := UInt8.ofNat x.toNat
def zN (n : Nat) : Nat := (119 - n % 64) % 64
def len8 (m : Int) : List Int := [byteI (m / 2 ^ 56), byteI (m / 2 ^ 48), byteI (m / 2 ^ 40), byteI (m / 2 ^ 32), byteI (m / 2 ^ 24), byteI (m / 2 ^ 16), byteI (m / 2 ^ 8), byteI (m / 2 ^ 0)]
def pad1 (l : List Int) : List Int := (l ++ [128]) ++ List.replicate (zN l.length) 0
def padL (l : List Int) : List Int := pad1 l ++ len8 (8 * (l.length : Int))
theorem pad1_len (l : List Int) : (pad1 l).length = l.length + 1 + zN l.length := by simp [pad1]; omega
theorem padL_len (l : List Int) : (padL l).length = l.length + 9 + zN l.length := by rw [padL, List.length_append, pad1_len]; simp [len8]; omega
theorem padL_mod (l : List Int) : (padL l).length % 64 = 0 := by rw [padL_len]; unfold zN; omega
def shaL (l : List Int) : List Int := outL (blocks (padL l) H0 ((padL l).length / 64))
def shaB (s : ByteArray) : ByteArray := ⟨((shaL (bI s.data.toList)).map toB).toArray⟩
theorem shaL_len (l : List Int) : (shaL l).length = 32 := outL_len _
theorem shaB_size (s : ByteArray) : (shaB s).size = 32 := by
  simp only [shaB, ByteArray.size, List.size_toArray, List.length_map, shaL_len]
theorem byteI_b (x : Int) : 0 ≤ byteI x ∧ byteI x < 256 := by rw [byteI, IntKind.wrap_u8]; omega
theorem outL_b (v : W8) : ∀ x, x ∈ outL v → 0 ≤ x ∧ x < 256 := by
  intro x hx
  simp only [outL, List.mem_flatMap, outB, List.mem_cons, List.not_mem_nil, or_false] at hx
  obtain ⟨y, _, h⟩ := hx
  rcases h with rfl | rfl | rfl | rfl <;> exact byteI_b _
theorem toB_nat {x : Int} (h : 0 ≤ x ∧ x < 256) : ((toB x).toNat : Int) = x := by
  simp only [toB, UInt8.toNat_ofNat']
  omega
theorem u8C_bytes {l : List Int} (h : ∀ x, x ∈ l → 0 ≤ x ∧ x < 256) : u8C l = byteCells (l.map toB) := by
  simp only [u8C, byteCells, List.map_map]
  refine List.map_congr_left fun x hx => ?_
  simp only [Function.comp, toB_nat (h x hx)]
theorem u8C_bI (l : List UInt8) : u8C (bI l) = byteCells l := by simp only [u8C, bI, byteCells, List.map_map]; rfl
theorem bI_len (l : List UInt8) : (bI l).length = l.length := by simp [bI]

end Go.Proofs.YtbogljpafpkikaaGreatDoor
