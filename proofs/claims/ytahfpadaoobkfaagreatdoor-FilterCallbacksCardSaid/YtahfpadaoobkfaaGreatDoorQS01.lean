/-
  The plain model of digests (chapter 2), in the words of the machine's integers.
-/
import Derived.WalkKit
import Derived.WalkSpells
import Derived.WalkLawsBesides
import Derived.Lib.Hide
import Derived.Lib.BufferWrite
import Derived.Deep.AppendLies
import Derived.Laws.CopyOwn
import Derived.Lib.SliceRun
import Derived.Deep.OwnRows
import Derived.Laws.OwnMore
import Derived.Maps.AppendAt
import Derived.OrdersHeld
import Derived.RegionTactic
import Derived.Deep.RegionHeld3
namespace Go.Proofs.YtahfpadaoobkfaaGreatDoor

def xorI (a b : Int) : Int := bits .xor .u32 a b
def andI (a b : Int) : Int := bits .and .u32 a b
def orI (a b : Int) : Int := bits .or .u32 a b
def addI (a b : Int) : Int := IntKind.u32.wrap (a + b)
/-- A word rotated right by n. -/
def ror (x : Int) (n : Nat) : Int := bits .or .u32 (x * 2 ^ (32 - n) % 4294967296) (x / 2 ^ n)
def mixGo (x : Int) : List Int → Int → Int
  | [], a => a
  | n :: l, a => mixGo x l (xorI a (ror x n.toNat))
def mix (x : Int) (l : List Int) : Int := mixGo x l 0
theorem mixGo_snoc (x n : Int) : ∀ (l : List Int) (a : Int), mixGo x (l ++ [n]) a = xorI (mixGo x l a) (ror x n.toNat)
  | [], _ => rfl
  | _ :: l, _ => mixGo_snoc x n l _

/-- The word of four bytes. -/
def word4 (a b c d : Int) : Int := orI (orI (orI (IntKind.u32.wrap (IntKind.u32.wrap a * 16777216)) (IntKind.u32.wrap (IntKind.u32.wrap b * 65536))) (IntKind.u32.wrap (IntKind.u32.wrap c * 256))) (IntKind.u32.wrap d)
def ext (w : List Int) (k : Nat) : Int :=
  addI (addI (addI (w.getD (k - 16) 0) (xorI (mix (w.getD (k - 15) 0) [7, 18]) (w.getD (k - 15) 0 / 8))) (w.getD (k - 7) 0)) (xorI (mix (w.getD (k - 2) 0) [17, 19]) (w.getD (k - 2) 0 / 1024))
/-- The first k words of a block's schedule. -/
def sch (b : List Int) : Nat → List Int
  | 0 => []
  | k + 1 => sch b k ++ [if k < 16 then word4 (b.getD (4 * k) 0) (b.getD (4 * k + 1) 0) (b.getD (4 * k + 2) 0) (b.getD (4 * k + 3) 0) else ext (sch b k) k]
theorem sch_len (b : List Int) : ∀ k, (sch b k).length = k
  | 0 => rfl
  | k + 1 => by rw [sch, List.length_append, sch_len b k]; rfl

/-- The eight words. -/
structure W8 where
  a : Int
  b : Int
  c : Int
  d : Int
  e : Int
  f : Int
  g : Int
  h : Int
def tOf (v : W8) (k w : Int) : Int := addI (addI (addI (addI v.h (mix v.e [6, 11, 25])) (xorI (andI v.e v.f) (andI (xorI 4294967295 v.e) v.g))) k) w
def uOf (v : W8) : Int := addI (mix v.a [2, 13, 22]) (xorI (xorI (andI v.a v.b) (andI v.a v.c)) (andI v.b v.c))
def rnd (v : W8) (k w : Int) : W8 := ⟨addI (tOf v k w) (uOf v), v.a, v.b, v.c, addI v.d (tOf v k w), v.e, v.f, v.g⟩
def kTab : List Int := [
  0x428a2f98, 0x71374491, 0xb5c0fbcf, 0xe9b5dba5, 0x3956c25b, 0x59f111f1, 0x923f82a4, 0xab1c5ed5,
  0xd807aa98, 0x12835b01, 0x243185be, 0x550c7dc3, 0x72be5d74, 0x80deb1fe, 0x9bdc06a7, 0xc19bf174,
  0xe49b69c1, 0xefbe4786, 0x0fc19dc6, 0x240ca1cc, 0x2de92c6f, 0x4a7484aa, 0x5cb0a9dc, 0x76f988da,
  0x983e5152, 0xa831c66d, 0xb00327c8, 0xbf597fc7, 0xc6e00bf3, 0xd5a79147, 0x06ca6351, 0x14292967,
  0x27b70a85, 0x2e1b2138, 0x4d2c6dfc, 0x53380d13, 0x650a7354, 0x766a0abb, 0x81c2c92e, 0x92722c85,
  0xa2bfe8a1, 0xa81a664b, 0xc24b8b70, 0xc76c51a3, 0xd192e819, 0xd6990624, 0xf40e3585, 0x106aa070,
  0x19a4c116, 0x1e376c08, 0x2748774c, 0x34b0bcb5, 0x391c0cb3, 0x4ed8aa4a, 0x5b9cca4f, 0x682e6ff3,
  0x748f82ee, 0x78a5636f, 0x84c87814, 0x8cc70208, 0x90befffa, 0xa4506ceb, 0xbef9a3f7, 0xc67178f2]
def rnds (W : List Int) (v : W8) : Nat → W8
  | 0 => v
  | k + 1 => rnd (rnds W v k) (kTab.getD k 0) (W.getD k 0)
def sum8 (h v : W8) : W8 := ⟨addI h.a v.a, addI h.b v.b, addI h.c v.c, addI h.d v.d, addI h.e v.e, addI h.f v.f, addI h.g v.g, addI h.h v.h⟩
/-- A block processed. -/
def addB (h : W8) (b : List Int) : W8 := sum8 h (rnds (sch b 64) h 64)
def W8.list (v : W8) : List Int := [v.a, v.b, v.c, v.d, v.e, v.f, v.g, v.h]
theorem W8.list_len (v : W8) : v.list.length = 8 := rfl
def byteI (x : Int) : Int := IntKind.u8.wrap x
def outB (x : Int) : List Int := [byteI (x / 2 ^ 24), byteI (x / 2 ^ 16), byteI (x / 2 ^ 8), byteI (x / 2 ^ 0)]
def outL (v : W8) : List Int := v.list.flatMap outB
theorem outL_len (v : W8) : (outL v).length = 32 := rfl
/-- The words that a computation begins with. -/
def H0 : W8 := ⟨0x6a09e667, 0xbb67ae85, 0x3c6ef372, 0xa54ff53a, 0x510e527f, 0x9b05688c, 0x1f83d9ab, 0x5be0cd19⟩
/-- All blocks of a list of bytes. -/
def blocks (l : List Int) (h : W8) : Nat → W8
  | 0 => h
  | k + 1 => addB (blocks l h k) ((l.drop (64 * k)).take 64)

end Go.Proofs.YtahfpadaoobkfaaGreatDoor

/-
  General facts on worlds: a frame by a list of blocks that may have changed ('Fr'), blocks of bytes, and small laws. No program in sight.
-/
namespace Go.Proofs.YtahfpadaoobkfaaGreatDoor
open Go.RowKit Go.Lib

/-- Of the blocks that were there, only those of 'fp' may have changed. -/
structure Fr (fp : List Nat) (w w' : World) : Prop where
  os : w'.os = w.os
  tape : w'.tape = w.tape
  output : w'.output = w.output
  size : w.heap.size ≤ w'.heap.size
  block : ∀ k, k < w.heap.size → k ∉ fp → w'.heap[k]? = w.heap[k]?

/-- A change of the blocks of 'fp' after which 'fp2' are the blocks: old ones, or new ones. -/
structure Upd (fp fp2 : List Nat) (w w' : World) : Prop where
  fr : Fr fp w w'
  sub : ∀ k, k ∈ fp2 → k ∈ fp ∨ w.heap.size ≤ k

theorem Fr.refl (fp : List Nat) (w : World) : Fr fp w w := ⟨rfl, rfl, rfl, Nat.le_refl _, fun _ _ _ => rfl⟩

theorem Fr.trans {fp : List Nat} {a b c : World} (h : Fr fp a b) (k : Fr fp b c) : Fr fp a c :=
  ⟨k.os.trans h.os, k.tape.trans h.tape, k.output.trans h.output, Nat.le_trans h.size k.size, fun i hi hn => (k.block i (Nat.lt_of_lt_of_le hi h.size) hn).trans (h.block i hi hn)⟩

/-- The second step may change new blocks, too. -/
theorem Fr.step {fp fp2 : List Nat} {a b c : World} (h : Fr fp a b) (k : Fr fp2 b c) (hs : ∀ i, i ∈ fp2 → i ∈ fp ∨ a.heap.size ≤ i) : Fr fp a c :=
  ⟨k.os.trans h.os, k.tape.trans h.tape, k.output.trans h.output, Nat.le_trans h.size k.size, fun i hi hn => by
    have h2 : i ∉ fp2 := fun hm => by
      rcases hs i hm with h | h
      · exact hn h
      · omega
    exact (k.block i (Nat.lt_of_lt_of_le hi h.size) h2).trans (h.block i hi hn)⟩

theorem Fr.mono {fp fp2 : List Nat} {a b : World} (h : Fr fp a b) (hs : ∀ i, i ∈ fp → i ∈ fp2) : Fr fp2 a b :=
  ⟨h.os, h.tape, h.output, h.size, fun i hi hn => h.block i hi fun hm => hn (hs i hm)⟩

theorem Fr.alloc (fp : List Nat) (w : World) (o : Obj) : Fr fp w (w.alloc o) := ⟨rfl, rfl, rfl, by simp, fun _ hk _ => Below.heap_alloc _ _ _ hk⟩
theorem Fr.drew (fp : List Nat) (w : World) : Fr fp w w.drew := ⟨rfl, rfl, rfl, Nat.le_refl _, fun _ _ _ => rfl⟩
theorem Fr.drewN (fp : List Nat) (w : World) (n : Nat) : Fr fp w (w.drewN n) := ⟨rfl, rfl, rfl, Nat.le_refl _, fun _ _ _ => rfl⟩
theorem Fr.setCell {fp : List Nat} (w : World) {p : Addr} (v : Value) (h : p.block ∈ fp) : Fr fp w (w.setCell p v) :=
  ⟨rfl, rfl, rfl, by simp [World.setCell], fun k _ hn => Below.heap_setCell _ _ _ _ (fun e => hn (e ▸ h))⟩
theorem Fr.setRow {fp : List Nat} (w : World) {g : Nat} (cs : Array Value) (h : g ∈ fp) : Fr fp w (w.setRow g cs) :=
  ⟨rfl, rfl, rfl, by simp, fun k _ hn => setRow_other _ _ _ _ (fun e => hn (e ▸ h))⟩
theorem Fr.grown {fp : List Nat} {w w' : World} {row : Option Nat} (hg : w.grownBy w' row) (hr : ∀ k, row = some k → k ∈ fp) : Fr fp w w' :=
  ⟨hg.os, hg.tape, hg.output, hg.size, fun k hk hn => hg.block k hk fun e => hn (hr k e.symm)⟩
theorem Fr.below {w w' : World} (h : Fr [] w w') : Below w.heap.size w w' := ⟨h.os, h.tape, h.output, h.size, fun k hk => h.block k hk (by simp)⟩
theorem Fr.of_below {w w' : World} (fp : List Nat) (h : Below w.heap.size w w') : Fr fp w w' := ⟨h.os, h.tape, h.output, h.size, fun k hk _ => h.block k hk⟩
theorem Fr.keep {fp : List Nat} {w w' : World} (h : Fr fp w w') {k : Nat} {o : Obj} (hk : w.heap[k]? = some o) (hn : k ∉ fp) : w'.heap[k]? = some o :=
  (h.block k (Array.getElem?_eq_some_iff.1 hk).1 hn).trans hk

theorem Upd.refl (fp : List Nat) (w : World) : Upd fp fp w w := ⟨Fr.refl _ _, fun _ h => .inl h⟩
theorem Upd.trans {f1 f2 f3 : List Nat} {a b c : World} (h : Upd f1 f2 a b) (k : Upd f2 f3 b c) : Upd f1 f3 a c :=
  ⟨h.fr.step k.fr h.sub, fun i hi => by
    rcases k.sub i hi with h1 | h1
    · exact h.sub i h1
    · exact .inr (Nat.le_trans h.fr.size h1)⟩

theorem blk_lt {w : World} {k : Nat} {o : Obj} (h : w.heap[k]? = some o) : k < w.heap.size := (Array.getElem?_eq_some_iff.1 h).1

theorem heap_alloc_new (w : World) (o : Obj) : (w.alloc o).heap[w.heap.size]? = some o := by
  show (w.heap.push o)[w.heap.size]? = _
  simp
theorem heap_alloc_old {w : World} {k : Nat} {x : Obj} (o : Obj) (h : w.heap[k]? = some x) : (w.alloc o).heap[k]? = some x := (Below.heap_alloc _ _ _ (blk_lt h)).trans h
theorem heap_setCell_other {w : World} {k : Nat} {x : Obj} {p : Addr} (v : Value) (h : w.heap[k]? = some x) (hn : k ≠ p.block) : (w.setCell p v).heap[k]? = some x := (Below.heap_setCell _ _ _ _ hn).trans h
theorem heap_setCell_same {w : World} {b i : Nat} {c : Array Value} {e : TypeId} {f : Nat × Nat} (v : Value) (h : w.heap[b]? = some (.cells c e f)) : (w.setCell ⟨b, i, none⟩ v).heap[b]? = some (.cells (c.setIfInBounds i v) e f) := by
  simp [World.setCell, Array.getElem?_modify, h]

/-- A cell of a block that is known whole. -/
theorem cell_of_blk {w : World} {b : Nat} {c : Array Value} {e : TypeId} {f : Nat × Nat} (h : w.heap[b]? = some (.cells c e f)) (i : Nat) : w.cell? ⟨b, i, none⟩ = c[i]? := by
  simp [World.cell?, h]
theorem free_of_blk {w : World} {b : Nat} {c : Array Value} {e : TypeId} (h : w.heap[b]? = some (.cells c e (0, 0))) (i : Nat) : w.frozen? ⟨b, i, none⟩ = false := by
  simp [World.frozen?, h]

/-- A block of bytes. -/
def BytesAt (w : World) (b : Nat) (e : TypeId) (l : List UInt8) : Prop := w.heap[b]? = some (.cells (byteCells l).toArray e (0, 0))

/-- The bytes of s in the place of those from o on. -/
def paste (l : List UInt8) (o : Nat) (s : List UInt8) : List UInt8 := l.take o ++ s ++ l.drop (o + s.length)
theorem paste_length (l : List UInt8) (o : Nat) (s : List UInt8) (h : o + s.length ≤ l.length) : (paste l o s).length = l.length := by
  simp [paste]; omega

/-- An operation of a region that draws, without a guard. -/
theorem step_of_wp {P : Program} {ops : Array Oper} {o : Oper} {a : Act} {w : World} {K : Act → World → Prop} {Q : Exit → Act → World → Prop} {E : Prop} (hg : o.guard = none) (h : o.wp P a w K Q) :
    if Region.wanted o (yielded ops a.tmps) = true then Oper.wp P o a w K Q else E := by
  rw [if_pos (by simp [Region.wanted, hg])]; exact h
theorem wpList_of_wp {P : Program} {w : World} {ops : Array Oper} {rest : List Oper} {o : Oper} {a : Act} {Q : Exit → Act → World → Prop} (hgd : o.guard = none)
    (h : ∀ K : Act → World → Prop, (∀ a w, wpList P ops Q rest a w → K a w) → o.wp P a w K Q) : wpList P ops Q (o :: rest) a w := wpList_plain hgd h

/-- string(b) of a part of a block of bytes. -/
theorem wp_bytes_str {P : Program} {w : World} {o : Oper} {a : Act} {K : Act → World → Prop} {Q : Exit → Act → World → Prop} (x : Operand) (src dst e : TypeId) (ho : o.op = .convert src dst x)
    (hs : P.underlying src = some (.slice e)) (he : P.underlying e = some (.int .u8)) (hd : P.underlying dst = some .string)
    (g off n cap : Nat) (l : List UInt8) (e' : TypeId) (hx : a.eval x = .slice (some ⟨g, off, none⟩) n cap) (hb : BytesAt w g e' l) (hfit : off + n ≤ l.length)
    (h : K (a.put o.dst (.string ⟨((l.drop off).take n).toArray⟩)) w) : o.wp P a w K Q := by
  have hlen : ((l.drop off).take n).length = n := by simp; omega
  have hrun := run_convert_bytes_back (P := P) w src dst e ⟨g, off, none⟩ cap ((l.drop off).take n) hs he hd (fun j hj => by
    have hj' : j < n := by rw [hlen] at hj; exact hj
    have ha : (⟨g, off, none⟩ : Addr).add j = ⟨g, off + j, none⟩ := by
      unfold Addr.add; split
      · rename_i h0; simp only [h0, Nat.add_zero]
      · rfl
    rw [ha, cell_of_blk hb]
    have h2 : off + j < l.length := by omega
    simp [byteCells, List.getElem?_map, List.getElem?_eq_getElem h2])
  rw [hlen] at hrun
  unfold Oper.wp execOp
  simp only [ho, Sem.run_bind, Sem.run_pure, Result.andThen_ok, hx, hrun]
  exact h

end Go.Proofs.YtahfpadaoobkfaaGreatDoor

/-
  A disk as plain data, and how it lies in memory.
-/
namespace Go.Proofs.YtahfpadaoobkfaaGreatDoor
open Go.RowKit Go.Lib

/-- A disk: no power; the writes after which the power is lost; the durable and the visible content; the pending writes. -/
structure Dk where
  off : Bool
  left : Nat
  dur : List UInt8
  vis : List UInt8
  pend : List (Nat × ByteArray)

def pendC (l : List (Nat × ByteArray)) : List Value := l.flatMap fun p => [.int .i64 p.1, .string p.2]
structure Dk.Ok (D : Dk) : Prop where
  len : D.vis.length = D.dur.length
  pos : 1 ≤ D.dur.length
  max : D.dur.length ≤ 4194304
  left : D.left ≤ 9223372036854775807
  pend : ∀ p, p ∈ D.pend → p.1 + p.2.size ≤ D.dur.length

/-- How a disk lies in memory: its struct's block, its two contents' blocks, the slice of its pending writes. -/
structure DkIn (tD tW tB : TypeId) (w : World) (b bd bv : Nat) (pv : Value) (D : Dk) : Prop where
  ok : D.Ok
  str : w.heap[b]? = some (.cells #[.bool D.off, .int .i64 D.left, .slice (some ⟨bd, 0, none⟩) D.dur.length D.dur.length, .slice (some ⟨bv, 0, none⟩) D.dur.length D.dur.length, pv] tD (0, 0))
  dur : BytesAt w bd tB D.dur
  vis : BytesAt w bv tB D.vis
  pend : w.ownsRow 0 tW 2 pv D.pend.length (pendC D.pend)
  ne1 : b ≠ bd
  ne2 : b ≠ bv
  ne3 : bd ≠ bv
  nep : ∀ g, pv.ownBlock = some g → g ≠ b ∧ g ≠ bd ∧ g ≠ bv

def DkAt (tD tW tB : TypeId) (w : World) (b : Nat) (fp : List Nat) (D : Dk) : Prop :=
  ∃ bd bv pv, DkIn tD tW tB w b bd bv pv D ∧ fp = b :: bd :: bv :: pv.ownBlock.toList

theorem BytesAt.keep {w w' : World} {b : Nat} {e : TypeId} {l : List UInt8} (h : BytesAt w b e l) (hk : w'.heap[b]? = w.heap[b]?) : BytesAt w' b e l := hk.trans h

theorem ownsRow_keep {w w' : World} {base : Nat} {e : TypeId} {size : Nat} {v : Value} {n : Nat} {xs : List Value} (h : w.ownsRow base e size v n xs)
    (hk : ∀ g, v.ownBlock = some g → w'.heap[g]? = w.heap[g]?) : w'.ownsRow base e size v n xs := by
  obtain ⟨h1, h2⟩ := h
  refine ⟨h1, ?_⟩
  rcases h2 with h2 | ⟨g, cap, cur, hv, hb, hg, r⟩
  · exact .inl h2
  · exact .inr ⟨g, cap, cur, hv, hb, (hk g (by rw [hv]; rfl)).trans hg, r⟩

theorem ownsRow_lt {w : World} {base : Nat} {e : TypeId} {size : Nat} {v : Value} {n : Nat} {xs : List Value} (h : w.ownsRow base e size v n xs) {g : Nat} (hg : v.ownBlock = some g) : g < w.heap.size := by
  rcases h.2 with ⟨rfl, _⟩ | ⟨g', cap, cur, rfl, _, hh, _⟩
  · cases hg
  · cases hg; exact blk_lt hh

theorem DkIn.fp_lt {tD tW tB : TypeId} {w : World} {b bd bv : Nat} {pv : Value} {D : Dk} (h : DkIn tD tW tB w b bd bv pv D) : ∀ k, k ∈ b :: bd :: bv :: pv.ownBlock.toList → k < w.heap.size := by
  intro k hk
  simp only [List.mem_cons, Option.mem_toList] at hk
  rcases hk with rfl | rfl | rfl | hk
  · exact blk_lt h.str
  · exact blk_lt h.dur
  · exact blk_lt h.vis
  · exact ownsRow_lt h.pend hk

theorem DkIn.keep {tD tW tB : TypeId} {w w' : World} {b bd bv : Nat} {pv : Value} {D : Dk} (h : DkIn tD tW tB w b bd bv pv D) (hk : ∀ k, k ∈ b :: bd :: bv :: pv.ownBlock.toList → w'.heap[k]? = w.heap[k]?) : DkIn tD tW tB w' b bd bv pv D :=
  { h with
    str := (hk b (by simp)).trans h.str
    dur := (hk bd (by simp)).trans h.dur
    vis := (hk bv (by simp)).trans h.vis
    pend := ownsRow_keep h.pend fun g hg => hk g (by simp [hg]) }

theorem DkAt.lt {tD tW tB : TypeId} {w : World} {b : Nat} {fp : List Nat} {D : Dk} (h : DkAt tD tW tB w b fp D) : ∀ k, k ∈ fp → k < w.heap.size := by
  obtain ⟨bd, bv, pv, h, rfl⟩ := h
  exact h.fp_lt

theorem DkAt.keep {tD tW tB : TypeId} {w w' : World} {b : Nat} {fp S : List Nat} {D : Dk} (h : DkAt tD tW tB w b fp D) (hf : Fr S w w') (hd : ∀ k, k ∈ fp → k ∉ S) : DkAt tD tW tB w' b fp D := by
  have hlt := h.lt
  obtain ⟨bd, bv, pv, h, rfl⟩ := h
  exact ⟨bd, bv, pv, h.keep fun k hk => hf.block k (hlt k hk) (hd k hk), rfl⟩

/-! ### What the calls do -/
/-- Is [off, off + n) on a disk of size m? -/
def insB (m : Nat) (off n : Int) : Bool := decide (0 ≤ off ∧ 0 ≤ n ∧ off ≤ m ∧ n ≤ m - off)

def Dk.use (D : Dk) : Dk := if D.left = 0 then D else { D with left := D.left - 1, off := D.left - 1 == 0 }
def Dk.put (D : Dk) (o : Nat) (s : ByteArray) : Dk := { D with vis := paste D.vis o s.data.toList, pend := D.pend ++ [(o, s)] }
def Dk.write (D : Dk) (o : Nat) (s : ByteArray) : Dk := (D.put o s).use
def Dk.sync (D : Dk) : Dk := { D with dur := D.vis, pend := [] }
def Dk.cut (D : Dk) (n : Nat) : Dk := { D with off := n == 0, left := n }

theorem Dk.Ok.put {D : Dk} (h : D.Ok) {o : Nat} {s : ByteArray} (hs : o + s.size ≤ D.dur.length) : (D.put o s).Ok :=
  ⟨by simp only [Dk.put]; rw [paste_length _ _ _ (by simpa [h.len] using hs)]; exact h.len, h.pos, h.max, h.left, fun p hp => by
    simp only [Dk.put, List.mem_append, List.mem_singleton] at hp
    rcases hp with hp | rfl
    · exact h.pend p hp
    · exact hs⟩
theorem Dk.Ok.use {D : Dk} (h : D.Ok) : D.use.Ok := by
  unfold Dk.use
  split
  · exact h
  · exact ⟨h.len, h.pos, h.max, by have := h.left; simp; omega, h.pend⟩
theorem Dk.Ok.write {D : Dk} (h : D.Ok) {o : Nat} {s : ByteArray} (hs : o + s.size ≤ D.dur.length) : (D.write o s).Ok := (h.put hs).use

/-- clear of a slice that is a block's head. -/
theorem run_clear_blk {P : Program} (w : World) (t e ty : TypeId) (z : Value) (ht : P.underlying t = some (.slice e)) (hz : ∀ w, (zeroValue e).run P w = .ok z w) (hone : ∀ v, v ∈ z.cells.toList → v.oneCell' = true)
    (g n cap : Nat) (cur : Array Value) (e' : TypeId) (hg : w.heap[g]? = some (.cells cur e' (0, 0))) (hfit : n * z.cells.size ≤ cur.size) (hz0 : 0 < z.cells.size) :
    ∃ cs : Array Value, cs.size = cur.size ∧ (Builtin.clear_ #[t] ty #[.slice (some ⟨g, 0, none⟩) n cap]).run P w = .ok (.tuple #[]) (w.setRow g cs) := by
  cases n with
  | zero => exact ⟨cur, rfl, by rw [setRow_self w g cur e' (0, 0) hg]; simp [Builtin.clear_, run_underlying ht]⟩
  | succ m =>
    have hl : (Builtin.zeroCells z.cells (m + 1)).toList.length = (m + 1) * z.cells.size := by simp [Builtin.zeroCells]
    have h1 : ∀ v, v ∈ (Builtin.zeroCells z.cells (m + 1)).toList → v.oneCell' = true := by
      intro v hv
      simp only [Builtin.zeroCells, Array.toList_map, List.mem_map] at hv
      obtain ⟨i, _, rfl⟩ := hv
      apply hone
      have hi : i % z.cells.size < z.cells.size := Nat.mod_lt _ hz0
      rw [getElem!_pos z.cells _ hi]
      simp
    have hst := run_storeCells_at (P := P) g 0 e' _ 0 cur w hg (by rw [hl]; simpa using hfit) h1
    have hrun := show (Builtin.clear_ #[t] ty #[.slice (some ⟨g, 0, none⟩) (m + 1) cap]).run P w = .ok (.tuple #[]) _ by
      simp only [Builtin.clear_, run_underlying ht, hz, hst, Sem.run_bind, Result.andThen_ok, Sem.run_pure, List.getElem?_toArray, List.getElem?_cons_zero]
      exact rfl
    refine ⟨_, ?_, hrun⟩
    simp only [Nat.zero_add, Nat.add_zero, List.take_zero, List.nil_append, List.size_toArray, List.length_append, List.length_drop, Array.length_toList, hl]
    omega

/-- clear of a part of a block. -/
theorem wp_clear_off {P : Program} {w : World} {o : Oper} {a : Act} {K : Act → World → Prop} {Q : Exit → Act → World → Prop} (x : Operand) (t e : TypeId) (z : Value)
    (ho : o.op = .call { callee := .builtin .clear, args := #[x], argTypes := #[t] }) (ht : P.underlying t = some (.slice e)) (hz : ∀ w, (zeroValue e).run P w = .ok z w) (hone : ∀ v, v ∈ z.cells.toList → v.oneCell' = true)
    (g off n cap : Nat) (cur : Array Value) (e' : TypeId) (hx : a.eval x = .slice (some ⟨g, off, none⟩) n cap) (hg : w.heap[g]? = some (.cells cur e' (0, 0))) (hfit : off + n * z.cells.size ≤ cur.size) (hz0 : 0 < z.cells.size)
    (h : ∀ cs : Array Value, cs.size = cur.size → (∀ k, k < off → cs[k]? = cur[k]?) → K (a.put o.dst (.tuple #[])) (w.setRow g cs)) : o.wp P a w K Q := by
  have key : ∃ cs : Array Value, cs.size = cur.size ∧ (∀ k, k < off → cs[k]? = cur[k]?) ∧ (Builtin.clear_ #[t] o.type #[.slice (some ⟨g, off, none⟩) n cap]).run P w = .ok (.tuple #[]) (w.setRow g cs) := by
    cases n with
    | zero => exact ⟨cur, rfl, fun _ _ => rfl, by rw [setRow_self w g cur e' (0, 0) hg]; simp [Builtin.clear_, run_underlying ht]⟩
    | succ m =>
      have hl : (Builtin.zeroCells z.cells (m + 1)).toList.length = (m + 1) * z.cells.size := by simp [Builtin.zeroCells]
      have h1 : ∀ v, v ∈ (Builtin.zeroCells z.cells (m + 1)).toList → v.oneCell' = true := by
        intro v hv
        simp only [Builtin.zeroCells, Array.toList_map, List.mem_map] at hv
        obtain ⟨i, _, rfl⟩ := hv
        apply hone
        have hi : i % z.cells.size < z.cells.size := Nat.mod_lt _ hz0
        rw [getElem!_pos z.cells _ hi]
        simp
      have hst := run_storeCells_at (P := P) g off e' _ 0 cur w hg (by rw [hl]; simpa using hfit) h1
      have hrun := show (Builtin.clear_ #[t] o.type #[.slice (some ⟨g, off, none⟩) (m + 1) cap]).run P w = .ok (.tuple #[]) _ by
        simp only [Builtin.clear_, run_underlying ht, hz, hst, Sem.run_bind, Result.andThen_ok, Sem.run_pure, List.getElem?_toArray, List.getElem?_cons_zero]
        exact rfl
      refine ⟨_, ?_, ?_, hrun⟩
      · simp only [Nat.add_zero, List.size_toArray, List.length_append, List.length_drop, List.length_take, Array.length_toList, hl]
        omega
      · intro k hk
        have hk2 : k < cur.toList.length := by simp; omega
        simp only [Nat.add_zero, List.getElem?_toArray, List.append_assoc]
        rw [List.getElem?_append_left (by simp; omega), List.getElem?_take_of_lt hk]
        simp
  obtain ⟨cs, hcs, hk, hrun⟩ := key
  unfold Oper.wp execOp
  simp only [ho, resolve, invoke, builtin, Sem.run_bind, Sem.run_pure, Result.andThen_ok, List.map_toArray, List.map_cons, List.map_nil, hx, hrun]
  exact h cs hcs hk

end Go.Proofs.YtahfpadaoobkfaaGreatDoor

/-
  append, whatever the source: nil, empty, or elements that can be read.
-/
namespace Go.Proofs.YtahfpadaoobkfaaGreatDoor
open Go.RowKit Go.Lib

/-- The elements of a slice can be read: its cells are 'news'. -/
structure SrcAt (w : World) (sv : Value) (m : Nat) (news : List Value) : Prop where
  form : (sv = .slice none 0 0 ∧ m = 0 ∧ news = []) ∨ ∃ ad c, sv = .slice (some ad) m c ∧ ∀ j u, news[j]? = some u → w.cell? (ad.add j) = some u

theorem wp_append_src {P : Program} {w : World} {o : Oper} {a : Act} {K : Act → World → Prop} {Q : Exit → Act → World → Prop} (s x : Operand) (t e : TypeId) (z : Value) (size bytes : Nat)
    (ho : o.op = .call { callee := .builtin .append, args := #[s, x], argTypes := #[t, t] }) (ht : P.underlying t = some (.slice e)) (hinfo : (P.info? e).map (fun i => (i.zero, i.size, i.bytes)) = some (some z, size, bytes)) (hzs : z.cells.size = size) (hsz : 0 < size)
    (v : Value) (n : Nat) (xs : List Value) (hs : a.eval s = v) (hown : w.ownsRow 0 e size v n xs)
    (sv : Value) (m : Nat) (news : List Value) (hx : a.eval x = sv) (hsrc : SrcAt w sv m news) (hl : news.length = m * size) (h1 : ∀ u, u ∈ news → u.oneCell' = true)
    (h63 : n + m ≤ 9223372036854775807) (hbytes : (n + m) * bytes ≤ 140737488355328)
    (h : ∀ ga cap w', w'.ownsRow 0 e size (.slice ga (n + m) cap) (n + m) (xs ++ news) → Fr v.ownBlock.toList w w' → ((Value.slice ga (n + m) cap).ownBlock = v.ownBlock ∨ (Value.slice ga (n + m) cap).ownBlock = some w.heap.size) → K (a.put o.dst (.slice ga (n + m) cap)) w') : o.wp P a w K Q := by
  obtain ⟨i, hi, hz0, hz1, hz2⟩ := info_parts hinfo
  have key : ∃ ga cap w', (Builtin.append_ #[t, t] o.type #[v, sv]).run P w = .ok (.slice ga (n + m) cap) w' ∧ w'.ownsRow 0 e size (.slice ga (n + m) cap) (n + m) (xs ++ news) ∧ Fr v.ownBlock.toList w w' ∧ ((Value.slice ga (n + m) cap).ownBlock = v.ownBlock ∨ (Value.slice ga (n + m) cap).ownBlock = some w.heap.size) := by
    rcases hsrc.form with ⟨rfl, rfl, rfl⟩ | ⟨ad, c, rfl, hc⟩
    · have hrun := run_append_owned_none (P := P) (w := w) 0 t o.type e i size ht hi v n xs hown
      obtain ⟨ga, cap, rfl⟩ : ∃ ga cap, v = .slice ga n cap := by
        rcases hown.2 with ⟨rfl, rfl⟩ | ⟨g, cap, _, rfl, _⟩
        · exact ⟨_, _, rfl⟩
        · exact ⟨_, _, rfl⟩
      exact ⟨ga, cap, w, hrun, by simpa using hown, Fr.refl _ _, .inl rfl⟩
    · obtain ⟨v', w', hr, h2, h3, _, h5⟩ := run_append_own_at (P := P) w 0 t o.type e i z size bytes ht hi hz0 hz1 hz2 hzs hsz v n xs hown ad m c news hl hc h1 h63 hbytes (Nat.zero_le _)
      obtain ⟨ga, cap, rfl⟩ : ∃ ga cap, v' = .slice ga (n + m) cap := by
        rcases h2.2 with ⟨rfl, h0⟩ | ⟨g, cap, _, rfl, _⟩
        · exact ⟨none, 0, by rw [h0]⟩
        · exact ⟨_, _, rfl⟩
      exact ⟨ga, cap, w', hr, h2, Fr.grown h3 fun k hk => by simp [hk], h5⟩
  obtain ⟨ga, cap, w', hr, h2, h3, h4⟩ := key
  unfold Oper.wp execOp
  simp only [ho, resolve, invoke, builtin, Sem.run_bind, Sem.run_pure, Result.andThen_ok, List.map_toArray, List.map_cons, List.map_nil, hs, hx, hr]
  exact h ga cap w' h2 h3 h4

/-- A row that is owned can be read. -/
theorem srcAt_of_row {w : World} {e : TypeId} {size : Nat} {v : Value} {n : Nat} {xs : List Value} (h : w.ownsRow 0 e size v n xs) : SrcAt w v n xs := by
  refine ⟨?_⟩
  rcases h.2 with ⟨rfl, rfl⟩ | ⟨g, cap, cur, rfl, _, hg, _, _, hcs, ht⟩
  · exact .inl ⟨rfl, rfl, by have := h.1; simpa using this⟩
  · refine .inr ⟨⟨g, 0, none⟩, cap, rfl, fun j u hu => ?_⟩
    have hj : j < xs.length := (List.getElem?_eq_some_iff.1 hu).1
    refine World.news_of_block hg j u ?_
    have hlen : xs.length = n * size := h.1
    rw [← ht, List.getElem?_take_of_lt (by omega)] at hu
    exact hu
end Go.Proofs.YtahfpadaoobkfaaGreatDoor

/-
  A region that draws its order, walked once, in an order that is given: operations that leave the world alone and yield one value in every world that meets S are taken as early as possible; where another one comes, it is the only one that may come.
-/
namespace Go.Proofs.YtahfpadaoobkfaaGreatDoor

section
variable {P : Program} {ops : Array Oper} {Q : Exit → Act → World → Prop} {S : World → Prop}

/-- Does the operation change the world, or may it? -/
def effB (o : Oper) : Bool := match o.op with
  | .move _ | .assign _ | .pick .. | .nilCheck _ | .binOp .. | .unOp .. | .fieldAddr .. | .field .. | .indexAddr .. | .index .. | .extract .. | .slice .. | .load .. | .build .. | .makeInterface .. => false
  | .call { callee := .builtin b, .. } => match b with | .len | .cap | .min | .max => false | _ => true
  | _ => true

/-- The given order is one that may be walked. -/
def permB (ops : Array Oper) : List Nat → Array Bool → Bool
  | [], listed => (Region.ready .any ops listed).isEmpty
  | i :: rest, listed => (match ops[i]? with
      | none => false
      | some o => if effB o then Region.ready .any ops listed == [i] else Region.free .any ops listed i && (Region.ready .any ops listed).contains i) && permB ops rest (listed.setIfInBounds i true)

/-- The walk along an order. -/
def wpMix (P : Program) (ops : Array Oper) (Q : Exit → Act → World → Prop) (S : World → Prop) : List Nat → Act → World → Prop
  | [], a, w => Q .normal a w
  | i :: rest, a, w => match ops[i]? with
    | none => False
    | some o => if effB o then wpOp P ops Q i (fun a' w' => S w' ∧ wpMix P ops Q S rest a' w') a w else ∃ v, YieldsIf P ops S o v a ∧ wpMix P ops Q S rest (a.put o.dst v) w

theorem wpAnyH_of_mix (hs : Region.noSelect ops = true) (hQ : ∀ (d : Option Tmp) (v : Value) c a w, Q (.panic c) (a.put d v) w → Q (.panic c) a w) :
    ∀ (perm : List Nat) (listed : Array Bool) (a : Act) (w : World), permB ops perm listed = true → S w → wpMix P ops Q S perm a w → wpAnyH P .any ops Q S perm.length listed a w
  | [], listed, a, w, hp, _, h => by
    simp only [permB, List.isEmpty_iff] at hp
    exact wpAnyH_done hp h 0
  | i :: rest, listed, a, w, hp, hS, h => by
    simp only [permB, Bool.and_eq_true] at hp
    obtain ⟨h1, h2⟩ := hp
    cases ho : ops[i]? with
    | none => simp [ho] at h1
    | some o =>
      simp only [ho] at h1
      simp only [wpMix, ho] at h
      cases he : effB o with
      | true =>
        simp only [he, if_true, beq_iff_eq] at h1
        simp only [he, if_true] at h
        refine wpAnyH_all h1 (by simp) fun j hj => ?_
        simp only [List.mem_singleton] at hj
        subst hj
        exact wpOp_mono (fun a' w' hh => ⟨hh.1, wpAnyH_of_mix hs hQ rest _ a' w' h2 hh.1 hh.2⟩) h
      | false =>
        simp only [he, Bool.false_eq_true, if_false, Bool.and_eq_true] at h1 h
        obtain ⟨v, hy, h3⟩ := h
        exact wpAnyH_take ho hs h1.1 h1.2 (hQ o.dst v) hy hS (wpAnyH_of_mix hs hQ rest _ _ w h2 hS h3)

/-- THE BEGINNING. -/
theorem reg_mix {id : Nat} {a : Act} {w : World} {l : List Oper} (S : World → Prop) (perm : List Nat) (hm : P.follows .mixedOrders = true) (hs : Region.noSelect l.toArray = true) (hp : permB l.toArray perm (Array.replicate l.toArray.size false) = true) (hl : perm.length = l.toArray.size) (hS : S w.drew)
    (h : wpMix P l.toArray (NoPanic Q) S perm a w.drew) : (Code.region id l.toArray true).wp P Q a w := by
  have h2 := wpAnyH_of_mix hs (fun _ _ _ _ _ h => h) perm _ a _ hp hS h
  rw [hl] at h2
  exact wp_region_noPanic (wp_region_held (S := S) hm h2)

theorem mix_take {i : Nat} {rest : List Nat} {a : Act} {w : World} {o : Oper} {v : Value} (ho : ops[i]? = some o) (he : effB o = false) (hy : YieldsIf P ops S o v a) (h : wpMix P ops Q S rest (a.put o.dst v) w) : wpMix P ops Q S (i :: rest) a w := by
  simp only [wpMix, ho, he, Bool.false_eq_true, if_false]
  exact ⟨v, hy, h⟩
theorem mix_do {i : Nat} {rest : List Nat} {a : Act} {w : World} {o : Oper} (ho : ops[i]? = some o) (he : effB o = true) (hw : Region.wanted o (yielded ops a.tmps) = true)
    (h : ∀ K : Act → World → Prop, (∀ a' w', S w' → wpMix P ops Q S rest a' w' → K a' w') → o.wp P a w K Q) : wpMix P ops Q S (i :: rest) a w := by
  simp only [wpMix, ho, he, if_true]
  unfold wpOp
  simp only [ho, hw, if_true]
  exact .inl (h _ fun a' w' h1 h2 => ⟨h1, h2⟩)
theorem mix_skip {i : Nat} {rest : List Nat} {a : Act} {w : World} {o : Oper} (ho : ops[i]? = some o) (hw : Region.wanted o (yielded ops a.tmps) = false) (hS : S w) (h : wpMix P ops Q S rest (a.put o.dst undef) w) : wpMix P ops Q S (i :: rest) a w := by
  cases he : effB o with
  | true =>
    simp only [wpMix, ho, he, if_true]
    unfold wpOp
    simp only [ho, hw, Bool.false_eq_true, if_false]
    exact ⟨hS, h⟩
  | false => exact mix_take ho he (.inr ⟨hw, rfl⟩) h
theorem wanted_of {a : Act} {o : Oper} {j t : Nat} {want b : Bool} (hg : o.guard = some (j, want)) (hd : (ops[j]?).bind (·.dst) = some t) (ht : a.tmps[t]? = some (.bool b)) : Region.wanted o (yielded ops a.tmps) = (b == want) := by
  simp only [Region.wanted, hg, yielded, hd, Option.bind_some, ht]
  rfl
theorem put_some {a : Act} {o : Oper} {d : Tmp} (h : o.dst = some d) (v : Value) : a.put o.dst v = { a with tmps := a.tmps.setIfInBounds d v } := by rw [h]; rfl
theorem mix_take1 {i : Nat} {d : Tmp} {rest : List Nat} {a : Act} {w : World} {o : Oper} {v : Value} (ho : ops[i]? = some o) (hod : o.dst = some d) (he : effB o = false) (hg : o.guard = none)
    (hy : ∀ w, S w → (execOp a.eval o).run P w = .ok (.value v) w) (h : wpMix P ops Q S rest { a with tmps := a.tmps.setIfInBounds d v } w) : wpMix P ops Q S (i :: rest) a w :=
  mix_take ho he (.inl ⟨by simp [Region.wanted, hg], hy⟩) (by rw [put_some hod]; exact h)
theorem mix_takeg {i j t : Nat} {want : Bool} {d : Tmp} {rest : List Nat} {a : Act} {w : World} {o : Oper} {v : Value} (ho : ops[i]? = some o) (hod : o.dst = some d) (he : effB o = false) (hg : o.guard = some (j, want)) (hd : (ops[j]?).bind (·.dst) = some t) (ht : a.tmps[t]? = some (.bool want))
    (hy : ∀ w, S w → (execOp a.eval o).run P w = .ok (.value v) w) (h : wpMix P ops Q S rest { a with tmps := a.tmps.setIfInBounds d v } w) : wpMix P ops Q S (i :: rest) a w :=
  mix_take ho he (.inl ⟨by rw [wanted_of hg hd ht]; simp, hy⟩) (by rw [put_some hod]; exact h)
theorem mix_dog {i j t : Nat} {want : Bool} {rest : List Nat} {a : Act} {w : World} {o : Oper} (ho : ops[i]? = some o) (he : effB o = true) (hg : o.guard = some (j, want)) (hd : (ops[j]?).bind (·.dst) = some t) (ht : a.tmps[t]? = some (.bool want))
    (h : ∀ K : Act → World → Prop, (∀ a' w', S w' → wpMix P ops Q S rest a' w' → K a' w') → o.wp P a w K Q) : wpMix P ops Q S (i :: rest) a w :=
  mix_do ho he (by rw [wanted_of hg hd ht]; simp) h
theorem mix_skipg {i j t : Nat} {want : Bool} {rest : List Nat} {a : Act} {w : World} {o : Oper} (ho : ops[i]? = some o) (hg : o.guard = some (j, want)) (hd : (ops[j]?).bind (·.dst) = some t) (ht : a.tmps[t]? = some (.bool (!want))) (hS : S w) (h : wpMix P ops Q S rest (a.put o.dst undef) w) : wpMix P ops Q S (i :: rest) a w :=
  mix_skip ho (by rw [wanted_of hg hd ht]; cases want <;> rfl) hS h
theorem mix_skipT {i j t : Nat} {d : Tmp} {rest : List Nat} {a : Act} {w : World} {o : Oper} (ho : ops[i]? = some o) (hod : o.dst = some d) (hg : o.guard = some (j, true)) (hd : (ops[j]?).bind (·.dst) = some t) (ht : a.tmps[t]? = some (.bool false)) (hS : S w) (h : wpMix P ops Q S rest { a with tmps := a.tmps.setIfInBounds d undef } w) : wpMix P ops Q S (i :: rest) a w := mix_skipg ho hg hd ht hS (by rw [put_some hod]; exact h)
theorem mix_skipF {i j t : Nat} {d : Tmp} {rest : List Nat} {a : Act} {w : World} {o : Oper} (ho : ops[i]? = some o) (hod : o.dst = some d) (hg : o.guard = some (j, false)) (hd : (ops[j]?).bind (·.dst) = some t) (ht : a.tmps[t]? = some (.bool true)) (hS : S w) (h : wpMix P ops Q S rest { a with tmps := a.tmps.setIfInBounds d undef } w) : wpMix P ops Q S (i :: rest) a w := mix_skipg ho hg hd ht hS (by rw [put_some hod]; exact h)
theorem mix_end {a : Act} {w : World} (h : Q .normal a w) : wpMix P ops (NoPanic Q) S [] a w := h
end

end Go.Proofs.YtahfpadaoobkfaaGreatDoor

/-
  Regions that draw: an operation whose guard was not carried out either.
-/
namespace Go.Proofs.YtahfpadaoobkfaaGreatDoor
theorem Fr.cel {fp : List Nat} {w W : World} {b i : Nat} {v : Value} (h : Fr fp w W) (hc : w.cell? ⟨b, i, none⟩ = some v) (hn : b ∉ fp) : W.cell? ⟨b, i, none⟩ = some v :=
  (World.cell?_of_block (h.block b (World.block_lt_of_cell? w _ hc) hn)).trans hc
section
variable {P : Program} {ops : Array Oper} {Q : Exit → Act → World → Prop} {S : World → Prop}
theorem wanted_undef {a : Act} {o : Oper} {j t : Nat} {want : Bool} (hg : o.guard = some (j, want)) (hd : (ops[j]?).bind (·.dst) = some t) (ht : a.tmps[t]? = some undef) : Region.wanted o (yielded ops a.tmps) = false := by
  simp only [Region.wanted, hg, yielded, hd, Option.bind_some, ht]
  rfl
theorem mix_skipU {i j t : Nat} {d : Tmp} {want : Bool} {rest : List Nat} {a : Act} {w : World} {o : Oper} (ho : ops[i]? = some o) (hod : o.dst = some d) (hg : o.guard = some (j, want)) (hd : (ops[j]?).bind (·.dst) = some t) (ht : a.tmps[t]? = some undef) (hS : S w) (h : wpMix P ops Q S rest { a with tmps := a.tmps.setIfInBounds d undef } w) : wpMix P ops Q S (i :: rest) a w :=
  mix_skip ho (wanted_undef hg hd ht) hS (by rw [put_some hod]; exact h)
end
end Go.Proofs.YtahfpadaoobkfaaGreatDoor
