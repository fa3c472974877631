/-
  General facts on worlds: a frame by a list of blocks that may have changed ('Fr'), blocks of bytes, and small laws. No program in sight.
-/
import Derived.WalkKit
import Derived.WalkSpells
import Derived.WalkLawsBesides
import Derived.Lib.Hide
import Derived.Lib.BufferWrite
import Derived.Deep.AppendLies
import Derived.Laws.CopyOwn
import Derived.Lib.SliceRun
import Derived.Deep.OwnRows
import Derived.Laws.OwnMore
import Derived.Maps.AppendAt
namespace Go.Proofs.YtbogljpafpkikaaGreatDoor
open Go.RowKit Go.Lib

/-- Of the blocks that were there, only those of 'fp' may have changed. -/
structure Fr (fp : List Nat) (w w' : World) : Prop where
  os : w'.os = w.os
  tape : w'.tape = w.tape
  output : w'.output = w.output
  size : w.heap.size ≤ w'.heap.size
  block : ∀ k, k < w.heap.size → k ∉ fp → w'.heap[k]? = w.heap[k]?

/-- A change of the blocks of 'fp' after which 'fp2' are the blocks: old ones, or new ones. -/
structure Upd (fp fp2 : List Nat) (w w' : World) : Prop where
  fr : Fr fp w w'
  sub : ∀ k, k ∈ fp2 → k ∈ fp ∨ w.heap.size ≤ k

theorem Fr.refl (fp : List Nat) (w : World) : Fr fp w w := ⟨rfl, rfl, rfl, Nat.le_refl _, fun _ _ _ => rfl⟩

theorem Fr.trans {fp : List Nat} {a b c : World} (h : Fr fp a b) (k : Fr fp b c) : Fr fp a c :=
  ⟨k.os.trans h.os, k.tape.trans h.tape, k.output.trans h.output, Nat.le_trans h.size k.size, fun i hi hn => (k.block i (Nat.lt_of_lt_of_le hi h.size) hn).trans (h.block i hi hn)⟩

/-- The second step may change new blocks, too. -/
theorem Fr.step {fp fp2 : List Nat} {a b c : World} (h : Fr fp a b) (k : Fr fp2 b c) (hs : ∀ i, i ∈ fp2 → i ∈ fp ∨ a.heap.size ≤ i) : Fr fp a c :=
  ⟨k.os.trans h.os, k.tape.trans h.tape, k.output.trans h.output, Nat.le_trans h.size k.size, fun i hi hn => by
    have h2 : i ∉ fp2 := fun hm => by
      rcases hs i hm with h | h
      · exact hn h
      · omega
    exact (k.block i (Nat.lt_of_lt_of_le hi h.size) h2).trans (h.block i hi hn)⟩

theorem Fr.mono {fp fp2 : List Nat} {a b : World} (h : Fr fp a b) (hs : ∀ i, i ∈ fp → i ∈ fp2) : Fr fp2 a b :=
  ⟨h.os, h.tape, h.output, h.size, fun i hi hn => h.block i hi fun hm => hn (hs i hm)⟩

theorem Fr.alloc (fp : List Nat) (w : World) (o : Obj) : Fr fp w (w.alloc o) := ⟨rfl, rfl, rfl, by simp, fun _ hk _ => Below.heap_alloc _ _ _ hk⟩
theorem Fr.drew (fp : List Nat) (w : World) : Fr fp w w.drew := ⟨rfl, rfl, rfl, Nat.le_refl _, fun _ _ _ => rfl⟩
theorem Fr.drewN (fp : List Nat) (w : World) (n : Nat) : Fr fp w (w.drewN n) := ⟨rfl, rfl, rfl, Nat.le_refl _, fun _ _ _ => rfl⟩
theorem Fr.setCell {fp : List Nat} (w : World) {p : Addr} (v : Value) (h : p.block ∈ fp) : Fr fp w (w.setCell p v) :=
  ⟨rfl, rfl, rfl, by simp [World.setCell], fun k _ hn => Below.heap_setCell _ _ _ _ (fun e => hn (e ▸ h))⟩
theorem Fr.setRow {fp : List Nat} (w : World) {g : Nat} (cs : Array Value) (h : g ∈ fp) : Fr fp w (w.setRow g cs) :=
  ⟨rfl, rfl, rfl, by simp, fun k _ hn => setRow_other _ _ _ _ (fun e => hn (e ▸ h))⟩
theorem Fr.grown {fp : List Nat} {w w' : World} {row : Option Nat} (hg : w.grownBy w' row) (hr : ∀ k, row = some k → k ∈ fp) : Fr fp w w' :=
  ⟨hg.os, hg.tape, hg.output, hg.size, fun k hk hn => hg.block k hk fun e => hn (hr k e.symm)⟩
theorem Fr.below {w w' : World} (h : Fr [] w w') : Below w.heap.size w w' := ⟨h.os, h.tape, h.output, h.size, fun k hk => h.block k hk (by simp)⟩
theorem Fr.of_below {w w' : World} (fp : List Nat) (h : Below w.heap.size w w') : Fr fp w w' := ⟨h.os, h.tape, h.output, h.size, fun k hk _ => h.block k hk⟩
/-- Only blocks from B on are named. -/
theorem Fr.belowB {fp : List Nat} {w w' : World} {B : Nat} (h : Fr fp w w') (hB : B ≤ w.heap.size) (hs : ∀ k, k ∈ fp → B ≤ k) : Below B w w' :=
  ⟨h.os, h.tape, h.output, h.size, fun k hk => h.block k (by omega) (fun hm => by have := hs k hm; omega)⟩

theorem Fr.keep {fp : List Nat} {w w' : World} (h : Fr fp w w') {k : Nat} {o : Obj} (hk : w.heap[k]? = some o) (hn : k ∉ fp) : w'.heap[k]? = some o :=
  (h.block k (Array.getElem?_eq_some_iff.1 hk).1 hn).trans hk

theorem Upd.refl (fp : List Nat) (w : World) : Upd fp fp w w := ⟨Fr.refl _ _, fun _ h => .inl h⟩
theorem Upd.trans {f1 f2 f3 : List Nat} {a b c : World} (h : Upd f1 f2 a b) (k : Upd f2 f3 b c) : Upd f1 f3 a c :=
  ⟨h.fr.step k.fr h.sub, fun i hi => by
    rcases k.sub i hi with h1 | h1
    · exact h.sub i h1
    · exact .inr (Nat.le_trans h.fr.size h1)⟩

theorem blk_lt {w : World} {k : Nat} {o : Obj} (h : w.heap[k]? = some o) : k < w.heap.size := (Array.getElem?_eq_some_iff.1 h).1

theorem heap_alloc_new (w : World) (o : Obj) : (w.alloc o).heap[w.heap.size]? = some o := by
  show (w.heap.push o)[w.heap.size]? = _
  simp
theorem heap_alloc_old {w : World} {k : Nat} {x : Obj} (o : Obj) (h : w.heap[k]? = some x) : (w.alloc o).heap[k]? = some x := (Below.heap_alloc _ _ _ (blk_lt h)).trans h
theorem heap_setCell_other {w : World} {k : Nat} {x : Obj} {p : Addr} (v : Value) (h : w.heap[k]? = some x) (hn : k ≠ p.block) : (w.setCell p v).heap[k]? = some x := (Below.heap_setCell _ _ _ _ hn).trans h
theorem heap_setCell_same {w : World} {b i : Nat} {c : Array Value} {e : TypeId} {f : Nat × Nat} (v : Value) (h : w.heap[b]? = some (.cells c e f)) : (w.setCell ⟨b, i, none⟩ v).heap[b]? = some (.cells (c.setIfInBounds i v) e f) := by
  simp [World.setCell, Array.getElem?_modify, h]

/-- A cell of a block that is known whole. -/
theorem cell_of_blk {w : World} {b : Nat} {c : Array Value} {e : TypeId} {f : Nat × Nat} (h : w.heap[b]? = some (.cells c e f)) (i : Nat) : w.cell? ⟨b, i, none⟩ = c[i]? := by
  simp [World.cell?, h]
theorem free_of_blk {w : World} {b : Nat} {c : Array Value} {e : TypeId} (h : w.heap[b]? = some (.cells c e (0, 0))) (i : Nat) : w.frozen? ⟨b, i, none⟩ = false := by
  simp [World.frozen?, h]

/-- A block of bytes. -/
def BytesAt (w : World) (b : Nat) (e : TypeId) (l : List UInt8) : Prop := w.heap[b]? = some (.cells (byteCells l).toArray e (0, 0))

/-- The bytes of s in the place of those from o on. -/
def paste (l : List UInt8) (o : Nat) (s : List UInt8) : List UInt8 := l.take o ++ s ++ l.drop (o + s.length)
theorem paste_length (l : List UInt8) (o : Nat) (s : List UInt8) (h : o + s.length ≤ l.length) : (paste l o s).length = l.length := by
  simp [paste]; omega

/-- No result: the return statement. -/
theorem ret0 {P : Program} {fn : Func} {R : Ending → World → Prop} {a : Act} {w : World} (h : fn.results = #[]) (hd : a.defers = []) (hR : R (.returned (.tuple #[])) w) : bodyPost P fn R .ret a w :=
  bodyPost_ret (results_none h _ _ _) hd hR

/-- An operation of a region that draws, without a guard. -/
theorem step_of_wp {P : Program} {ops : Array Oper} {o : Oper} {a : Act} {w : World} {K : Act → World → Prop} {Q : Exit → Act → World → Prop} {E : Prop} (hg : o.guard = none) (h : o.wp P a w K Q) :
    if Region.wanted o (yielded ops a.tmps) = true then Oper.wp P o a w K Q else E := by
  rw [if_pos (by simp [Region.wanted, hg])]; exact h
theorem wpList_of_wp {P : Program} {w : World} {ops : Array Oper} {rest : List Oper} {o : Oper} {a : Act} {Q : Exit → Act → World → Prop} (hgd : o.guard = none)
    (h : ∀ K : Act → World → Prop, (∀ a w, wpList P ops Q rest a w → K a w) → o.wp P a w K Q) : wpList P ops Q (o :: rest) a w := wpList_plain hgd h

/-- The same under a guard that lets the operation be carried out. -/
theorem wpList_of_wpg {P : Program} {w : World} {ops : Array Oper} {rest : List Oper} {o : Oper} {a : Act} {Q : Exit → Act → World → Prop} (hw : Region.wanted o (yielded ops a.tmps) = true)
    (h : ∀ K : Act → World → Prop, (∀ a w, wpList P ops Q rest a w → K a w) → o.wp P a w K Q) : wpList P ops Q (o :: rest) a w :=
  wpList_step fun K hK => by rw [if_pos hw]; exact h K hK

/-- copy of a string into a block of bytes. -/
theorem wp_copy_str {P : Program} {w : World} {o : Oper} {a : Act} {K : Act → World → Prop} {Q : Exit → Act → World → Prop} (d s : Operand) (t t' e : TypeId)
    (ho : o.op = .call { callee := .builtin .copy, args := #[d, s], argTypes := #[t, t'] }) (hu : P.underlying t = some (.slice e)) (hs : (P.info? e).map (·.size) = some 1)
    (g off dLen dCap : Nat) (str : ByteArray) (l : List UInt8) (e' : TypeId) (hd : a.eval d = .slice (some ⟨g, off, none⟩) dLen dCap) (hx : a.eval s = .string str)
    (hb : BytesAt w g e' l) (hle : str.size ≤ dLen) (hfit : off + str.size ≤ l.length)
    (h : ∀ w', Fr [g] w w' → w'.heap.size = w.heap.size → BytesAt w' g e' (paste l off str.data.toList) → K (a.put o.dst (.int .i64 str.size)) w') : o.wp P a w K Q := by
  have hrun := run_copy_row_string (P := P) w t t' o.type e g off dLen dCap str _ e' hu hs hb hle (by simpa [byteCells_length] using hfit)
  unfold Oper.wp execOp
  simp only [ho, resolve, invoke, builtin, Sem.run_bind, Sem.run_pure, Result.andThen_ok, List.map_toArray, List.map_cons, List.map_nil, hd, hx, hrun]
  refine h _ (Fr.setRow _ _ (by simp)) (by simp) ?_
  unfold BytesAt
  rw [setRow_heap _ _ _ _ _ _ hb]
  simp [paste, byteCells]

/-- string(b) of a part of a block of bytes. -/
theorem wp_bytes_str {P : Program} {w : World} {o : Oper} {a : Act} {K : Act → World → Prop} {Q : Exit → Act → World → Prop} (x : Operand) (src dst e : TypeId) (ho : o.op = .convert src dst x)
    (hs : P.underlying src = some (.slice e)) (he : P.underlying e = some (.int .u8)) (hd : P.underlying dst = some .string)
    (g off n cap : Nat) (l : List UInt8) (e' : TypeId) (hx : a.eval x = .slice (some ⟨g, off, none⟩) n cap) (hb : BytesAt w g e' l) (hfit : off + n ≤ l.length)
    (h : K (a.put o.dst (.string ⟨((l.drop off).take n).toArray⟩)) w) : o.wp P a w K Q := by
  have hlen : ((l.drop off).take n).length = n := by simp; omega
  have hrun := run_convert_bytes_back (P := P) w src dst e ⟨g, off, none⟩ cap ((l.drop off).take n) hs he hd (fun j hj => by
    have hj' : j < n := by rw [hlen] at hj; exact hj
    have ha : (⟨g, off, none⟩ : Addr).add j = ⟨g, off + j, none⟩ := by
      unfold Addr.add; split
      · rename_i h0; simp only [h0, Nat.add_zero]
      · rfl
    rw [ha, cell_of_blk hb]
    have h2 : off + j < l.length := by omega
    simp [byteCells, List.getElem?_map, List.getElem?_eq_getElem h2])
  rw [hlen] at hrun
  unfold Oper.wp execOp
  simp only [ho, Sem.run_bind, Sem.run_pure, Result.andThen_ok, hx, hrun]
  exact h

theorem paste_nil (l : List UInt8) (o : Nat) : paste l o [] = l := by simp [paste]

end Go.Proofs.YtbogljpafpkikaaGreatDoor

/-
  A disk as plain data, and how it lies in memory.
-/
namespace Go.Proofs.YtbogljpafpkikaaGreatDoor
open Go.RowKit Go.Lib

/-- A disk: no power; the writes after which the power is lost; the durable and the visible content; the pending writes. -/
structure Dk where
  off : Bool
  left : Nat
  dur : List UInt8
  vis : List UInt8
  pend : List (Nat × ByteArray)

def pendC (l : List (Nat × ByteArray)) : List Value := l.flatMap fun p => [.int .i64 p.1, .string p.2]
theorem pendC_length (l : List (Nat × ByteArray)) : (pendC l).length = l.length * 2 := by
  induction l with
  | nil => rfl
  | cons p l ih => simp [pendC] at ih ⊢; omega
theorem pendC_snoc (l : List (Nat × ByteArray)) (o : Nat) (s : ByteArray) : pendC (l ++ [(o, s)]) = pendC l ++ [.int .i64 o, .string s] := by simp [pendC]

structure Dk.Ok (D : Dk) : Prop where
  len : D.vis.length = D.dur.length
  pos : 1 ≤ D.dur.length
  max : D.dur.length ≤ 4194304
  left : D.left ≤ 9223372036854775807
  pend : ∀ p, p ∈ D.pend → p.1 + p.2.size ≤ D.dur.length

/-- How a disk lies in memory: its struct's block, its two contents' blocks, the slice of its pending writes. -/
structure DkIn (tD tW tB : TypeId) (w : World) (b bd bv : Nat) (pv : Value) (D : Dk) : Prop where
  ok : D.Ok
  str : w.heap[b]? = some (.cells #[.bool D.off, .int .i64 D.left, .slice (some ⟨bd, 0, none⟩) D.dur.length D.dur.length, .slice (some ⟨bv, 0, none⟩) D.dur.length D.dur.length, pv] tD (0, 0))
  dur : BytesAt w bd tB D.dur
  vis : BytesAt w bv tB D.vis
  pend : w.ownsRow 0 tW 2 pv D.pend.length (pendC D.pend)
  ne1 : b ≠ bd
  ne2 : b ≠ bv
  ne3 : bd ≠ bv
  nep : ∀ g, pv.ownBlock = some g → g ≠ b ∧ g ≠ bd ∧ g ≠ bv

def DkAt (tD tW tB : TypeId) (w : World) (b : Nat) (fp : List Nat) (D : Dk) : Prop :=
  ∃ bd bv pv, DkIn tD tW tB w b bd bv pv D ∧ fp = b :: bd :: bv :: pv.ownBlock.toList

theorem BytesAt.keep {w w' : World} {b : Nat} {e : TypeId} {l : List UInt8} (h : BytesAt w b e l) (hk : w'.heap[b]? = w.heap[b]?) : BytesAt w' b e l := hk.trans h

theorem ownsRow_keep {w w' : World} {base : Nat} {e : TypeId} {size : Nat} {v : Value} {n : Nat} {xs : List Value} (h : w.ownsRow base e size v n xs)
    (hk : ∀ g, v.ownBlock = some g → w'.heap[g]? = w.heap[g]?) : w'.ownsRow base e size v n xs := by
  obtain ⟨h1, h2⟩ := h
  refine ⟨h1, ?_⟩
  rcases h2 with h2 | ⟨g, cap, cur, hv, hb, hg, r⟩
  · exact .inl h2
  · exact .inr ⟨g, cap, cur, hv, hb, (hk g (by rw [hv]; rfl)).trans hg, r⟩

theorem ownsRow_lt {w : World} {base : Nat} {e : TypeId} {size : Nat} {v : Value} {n : Nat} {xs : List Value} (h : w.ownsRow base e size v n xs) {g : Nat} (hg : v.ownBlock = some g) : g < w.heap.size := by
  rcases h.2 with ⟨rfl, _⟩ | ⟨g', cap, cur, rfl, _, hh, _⟩
  · cases hg
  · cases hg; exact blk_lt hh

theorem DkIn.fp_lt {tD tW tB : TypeId} {w : World} {b bd bv : Nat} {pv : Value} {D : Dk} (h : DkIn tD tW tB w b bd bv pv D) : ∀ k, k ∈ b :: bd :: bv :: pv.ownBlock.toList → k < w.heap.size := by
  intro k hk
  simp only [List.mem_cons, Option.mem_toList] at hk
  rcases hk with rfl | rfl | rfl | hk
  · exact blk_lt h.str
  · exact blk_lt h.dur
  · exact blk_lt h.vis
  · exact ownsRow_lt h.pend hk

theorem DkIn.keep {tD tW tB : TypeId} {w w' : World} {b bd bv : Nat} {pv : Value} {D : Dk} (h : DkIn tD tW tB w b bd bv pv D) (hk : ∀ k, k ∈ b :: bd :: bv :: pv.ownBlock.toList → w'.heap[k]? = w.heap[k]?) : DkIn tD tW tB w' b bd bv pv D :=
  { h with
    str := (hk b (by simp)).trans h.str
    dur := (hk bd (by simp)).trans h.dur
    vis := (hk bv (by simp)).trans h.vis
    pend := ownsRow_keep h.pend fun g hg => hk g (by simp [hg]) }

theorem DkAt.lt {tD tW tB : TypeId} {w : World} {b : Nat} {fp : List Nat} {D : Dk} (h : DkAt tD tW tB w b fp D) : ∀ k, k ∈ fp → k < w.heap.size := by
  obtain ⟨bd, bv, pv, h, rfl⟩ := h
  exact h.fp_lt

theorem DkAt.keep {tD tW tB : TypeId} {w w' : World} {b : Nat} {fp S : List Nat} {D : Dk} (h : DkAt tD tW tB w b fp D) (hf : Fr S w w') (hd : ∀ k, k ∈ fp → k ∉ S) : DkAt tD tW tB w' b fp D := by
  have hlt := h.lt
  obtain ⟨bd, bv, pv, h, rfl⟩ := h
  exact ⟨bd, bv, pv, h.keep fun k hk => hf.block k (hlt k hk) (hd k hk), rfl⟩

/-! ### What the calls do -/
/-- Is [off, off + n) on a disk of size m? -/
def insB (m : Nat) (off n : Int) : Bool := decide (0 ≤ off ∧ 0 ≤ n ∧ off ≤ m ∧ n ≤ m - off)

def Dk.use (D : Dk) : Dk := if D.left = 0 then D else { D with left := D.left - 1, off := D.left - 1 == 0 }
def Dk.put (D : Dk) (o : Nat) (s : ByteArray) : Dk := { D with vis := paste D.vis o s.data.toList, pend := D.pend ++ [(o, s)] }
def Dk.write (D : Dk) (o : Nat) (s : ByteArray) : Dk := (D.put o s).use
def Dk.sync (D : Dk) : Dk := { D with dur := D.vis, pend := [] }
def Dk.cut (D : Dk) (n : Nat) : Dk := { D with off := n == 0, left := n }

theorem Dk.Ok.put {D : Dk} (h : D.Ok) {o : Nat} {s : ByteArray} (hs : o + s.size ≤ D.dur.length) : (D.put o s).Ok :=
  ⟨by simp only [Dk.put]; rw [paste_length _ _ _ (by simpa [h.len] using hs)]; exact h.len, h.pos, h.max, h.left, fun p hp => by
    simp only [Dk.put, List.mem_append, List.mem_singleton] at hp
    rcases hp with hp | rfl
    · exact h.pend p hp
    · exact hs⟩
theorem Dk.Ok.use {D : Dk} (h : D.Ok) : D.use.Ok := by
  unfold Dk.use
  split
  · exact h
  · exact ⟨h.len, h.pos, h.max, by have := h.left; simp; omega, h.pend⟩
theorem Dk.Ok.write {D : Dk} (h : D.Ok) {o : Nat} {s : ByteArray} (hs : o + s.size ≤ D.dur.length) : (D.write o s).Ok := (h.put hs).use

/-- clear of a slice that is a block's head. -/
theorem run_clear_blk {P : Program} (w : World) (t e ty : TypeId) (z : Value) (ht : P.underlying t = some (.slice e)) (hz : ∀ w, (zeroValue e).run P w = .ok z w) (hone : ∀ v, v ∈ z.cells.toList → v.oneCell' = true)
    (g n cap : Nat) (cur : Array Value) (e' : TypeId) (hg : w.heap[g]? = some (.cells cur e' (0, 0))) (hfit : n * z.cells.size ≤ cur.size) (hz0 : 0 < z.cells.size) :
    ∃ cs : Array Value, cs.size = cur.size ∧ (Builtin.clear_ #[t] ty #[.slice (some ⟨g, 0, none⟩) n cap]).run P w = .ok (.tuple #[]) (w.setRow g cs) := by
  cases n with
  | zero => exact ⟨cur, rfl, by rw [setRow_self w g cur e' (0, 0) hg]; simp [Builtin.clear_, run_underlying ht]⟩
  | succ m =>
    have hl : (Builtin.zeroCells z.cells (m + 1)).toList.length = (m + 1) * z.cells.size := by simp [Builtin.zeroCells]
    have h1 : ∀ v, v ∈ (Builtin.zeroCells z.cells (m + 1)).toList → v.oneCell' = true := by
      intro v hv
      simp only [Builtin.zeroCells, Array.toList_map, List.mem_map] at hv
      obtain ⟨i, _, rfl⟩ := hv
      apply hone
      have hi : i % z.cells.size < z.cells.size := Nat.mod_lt _ hz0
      rw [getElem!_pos z.cells _ hi]
      simp
    have hst := run_storeCells_at (P := P) g 0 e' _ 0 cur w hg (by rw [hl]; simpa using hfit) h1
    have hrun := show (Builtin.clear_ #[t] ty #[.slice (some ⟨g, 0, none⟩) (m + 1) cap]).run P w = .ok (.tuple #[]) _ by
      simp only [Builtin.clear_, run_underlying ht, hz, hst, Sem.run_bind, Result.andThen_ok, Sem.run_pure, List.getElem?_toArray, List.getElem?_cons_zero]
      exact rfl
    refine ⟨_, ?_, hrun⟩
    simp only [Nat.zero_add, Nat.add_zero, List.take_zero, List.nil_append, List.size_toArray, List.length_append, List.length_drop, Array.length_toList, hl]
    omega

/-- copy of one whole block of bytes over another. -/
theorem wp_copy_bytes {P : Program} {w : World} {o : Oper} {a : Act} {K : Act → World → Prop} {Q : Exit → Act → World → Prop} (d s : Operand) (t t' e : TypeId)
    (ho : o.op = .call { callee := .builtin .copy, args := #[d, s], argTypes := #[t, t'] }) (hu : P.underlying t = some (.slice e)) (hs : (P.info? e).map (·.size) = some 1)
    (gd gs n dCap sCap : Nat) (ld ls : List UInt8) (e' : TypeId) (hd : a.eval d = .slice (some ⟨gd, 0, none⟩) n dCap) (hx : a.eval s = .slice (some ⟨gs, 0, none⟩) n sCap)
    (hbd : BytesAt w gd e' ld) (hbs : BytesAt w gs e' ls) (hld : ld.length = n) (hls : ls.length = n)
    (h : ∀ w', Fr [gd] w w' → w'.heap.size = w.heap.size → BytesAt w' gd e' ls → K (a.put o.dst (.int .i64 n)) w') : o.wp P a w K Q := by
  have hl : (byteCells ls).length = n := by rw [byteCells_length, hls]
  have hl2 : (byteCells ld).length = n := by rw [byteCells_length, hld]
  have hrun := run_copy_row (P := P) w t t' o.type e gd 0 n dCap ⟨gs, 0, none⟩ n sCap (byteCells ld).toArray e' (byteCells ls) hu hs hbd
    (by rw [hl]; exact (Nat.min_self n).symm) (fun j v hj => by
      have ha : (⟨gs, 0, none⟩ : Addr).add j = ⟨gs, j, none⟩ := by
        unfold Addr.add; split
        · rename_i h0; simp only [h0]
        · simp only [Nat.zero_add]
      rw [ha, cell_of_blk hbs]
      simpa using hj) (by simp only [List.size_toArray, hl2, hl]; omega) (byteCells_one _)
  rw [hl] at hrun
  unfold Oper.wp execOp
  simp only [ho, resolve, invoke, builtin, Sem.run_bind, Sem.run_pure, Result.andThen_ok, List.map_toArray, List.map_cons, List.map_nil, hd, hx, hrun]
  refine h _ (Fr.setRow _ _ (by simp)) (by simp) ?_
  unfold BytesAt
  rw [setRow_heap _ _ _ _ _ _ hbd]
  have hdrop : List.drop (0 + n) (byteCells ld) = [] := List.drop_eq_nil_of_le (by omega)
  simp only [hdrop, List.take_zero, List.nil_append, List.append_nil]

/-- clear of a slice that is a block's head. -/
theorem wp_clear_blk {P : Program} {w : World} {o : Oper} {a : Act} {K : Act → World → Prop} {Q : Exit → Act → World → Prop} (x : Operand) (t e : TypeId) (z : Value)
    (ho : o.op = .call { callee := .builtin .clear, args := #[x], argTypes := #[t] }) (ht : P.underlying t = some (.slice e)) (hz : ∀ w, (zeroValue e).run P w = .ok z w) (hone : ∀ v, v ∈ z.cells.toList → v.oneCell' = true)
    (g n cap : Nat) (cur : Array Value) (e' : TypeId) (hx : a.eval x = .slice (some ⟨g, 0, none⟩) n cap) (hg : w.heap[g]? = some (.cells cur e' (0, 0))) (hfit : n * z.cells.size ≤ cur.size) (hz0 : 0 < z.cells.size)
    (h : ∀ cs : Array Value, cs.size = cur.size → K (a.put o.dst (.tuple #[])) (w.setRow g cs)) : o.wp P a w K Q := by
  obtain ⟨cs, hcs, hrun⟩ := run_clear_blk w t e o.type z ht hz hone g n cap cur e' hg hfit hz0
  unfold Oper.wp execOp
  simp only [ho, resolve, invoke, builtin, Sem.run_bind, Sem.run_pure, Result.andThen_ok, List.map_toArray, List.map_cons, List.map_nil, hx, hrun]
  exact h cs hcs

theorem wp_clear_nil {P : Program} {w : World} {o : Oper} {a : Act} {K : Act → World → Prop} {Q : Exit → Act → World → Prop} (x : Operand) (t e : TypeId)
    (ho : o.op = .call { callee := .builtin .clear, args := #[x], argTypes := #[t] }) (ht : P.underlying t = some (.slice e)) (hx : a.eval x = .slice none 0 0) (h : K (a.put o.dst (.tuple #[])) w) : o.wp P a w K Q := by
  have hrun : (Builtin.clear_ #[t] o.type #[.slice none 0 0]).run P w = .ok (.tuple #[]) w := by simp [Builtin.clear_, run_underlying ht]
  unfold Oper.wp execOp
  simp only [ho, resolve, invoke, builtin, Sem.run_bind, Sem.run_pure, Result.andThen_ok, List.map_toArray, List.map_cons, List.map_nil, hx, hrun]
  exact h

/-- append of the elements of a block that is known whole, to a row that is owned: where the new row lies, and what may have changed. -/
theorem wp_append_blk {P : Program} {w : World} {o : Oper} {a : Act} {K : Act → World → Prop} {Q : Exit → Act → World → Prop} (s x : Operand) (t e : TypeId) (z : Value) (size bytes : Nat)
    (ho : o.op = .call { callee := .builtin .append, args := #[s, x], argTypes := #[t, t] }) (ht : P.underlying t = some (.slice e)) (hinfo : (P.info? e).map (fun i => (i.zero, i.size, i.bytes)) = some (some z, size, bytes)) (hzs : z.cells.size = size) (hsz : 0 < size)
    (v : Value) (n : Nat) (xs : List Value) (hs : a.eval s = v) (hown : w.ownsRow 0 e size v n xs)
    (B m c : Nat) (cs : Array Value) (e' : TypeId) (f : Nat × Nat) (hx : a.eval x = .slice (some ⟨B, 0, none⟩) m c) (hB : w.heap[B]? = some (.cells cs e' f)) (hl : cs.size = m * size) (h1 : ∀ u, u ∈ cs.toList → u.oneCell' = true)
    (hm : 0 < m) (h63 : n + m ≤ 9223372036854775807) (hbytes : (n + m) * bytes ≤ 140737488355328)
    (h : ∀ g cap w', w'.ownsRow 0 e size (.slice (some ⟨g, 0, none⟩) (n + m) cap) (n + m) (xs ++ cs.toList) → Fr v.ownBlock.toList w w' → (v.ownBlock = some g ∨ g = w.heap.size) → K (a.put o.dst (.slice (some ⟨g, 0, none⟩) (n + m) cap)) w') : o.wp P a w K Q := by
  obtain ⟨i, hi, hz0, hz1, hz2⟩ := info_parts hinfo
  refine wp_append_lies w s x t ho 0 e i z size bytes ht hi hz0 hz1 hz2 hzs hsz v n xs hs hown ⟨B, 0, none⟩ m c cs.toList hx (by simpa using hl) (World.news_of_block hB) h1 hm h63 hbytes (Nat.zero_le _) _ rfl ?_
  intro g cap w' h2 h3 h4 _
  exact h g cap w' h2 (Fr.grown h3 fun k hk => by simp [hk]) h4

/-- clear of a part of a block. -/
theorem wp_clear_off {P : Program} {w : World} {o : Oper} {a : Act} {K : Act → World → Prop} {Q : Exit → Act → World → Prop} (x : Operand) (t e : TypeId) (z : Value)
    (ho : o.op = .call { callee := .builtin .clear, args := #[x], argTypes := #[t] }) (ht : P.underlying t = some (.slice e)) (hz : ∀ w, (zeroValue e).run P w = .ok z w) (hone : ∀ v, v ∈ z.cells.toList → v.oneCell' = true)
    (g off n cap : Nat) (cur : Array Value) (e' : TypeId) (hx : a.eval x = .slice (some ⟨g, off, none⟩) n cap) (hg : w.heap[g]? = some (.cells cur e' (0, 0))) (hfit : off + n * z.cells.size ≤ cur.size) (hz0 : 0 < z.cells.size)
    (h : ∀ cs : Array Value, cs.size = cur.size → (∀ k, k < off → cs[k]? = cur[k]?) → K (a.put o.dst (.tuple #[])) (w.setRow g cs)) : o.wp P a w K Q := by
  have key : ∃ cs : Array Value, cs.size = cur.size ∧ (∀ k, k < off → cs[k]? = cur[k]?) ∧ (Builtin.clear_ #[t] o.type #[.slice (some ⟨g, off, none⟩) n cap]).run P w = .ok (.tuple #[]) (w.setRow g cs) := by
    cases n with
    | zero => exact ⟨cur, rfl, fun _ _ => rfl, by rw [setRow_self w g cur e' (0, 0) hg]; simp [Builtin.clear_, run_underlying ht]⟩
    | succ m =>
      have hl : (Builtin.zeroCells z.cells (m + 1)).toList.length = (m + 1) * z.cells.size := by simp [Builtin.zeroCells]
      have h1 : ∀ v, v ∈ (Builtin.zeroCells z.cells (m + 1)).toList → v.oneCell' = true := by
        intro v hv
        simp only [Builtin.zeroCells, Array.toList_map, List.mem_map] at hv
        obtain ⟨i, _, rfl⟩ := hv
        apply hone
        have hi : i % z.cells.size < z.cells.size := Nat.mod_lt _ hz0
        rw [getElem!_pos z.cells _ hi]
        simp
      have hst := run_storeCells_at (P := P) g off e' _ 0 cur w hg (by rw [hl]; simpa using hfit) h1
      have hrun := show (Builtin.clear_ #[t] o.type #[.slice (some ⟨g, off, none⟩) (m + 1) cap]).run P w = .ok (.tuple #[]) _ by
        simp only [Builtin.clear_, run_underlying ht, hz, hst, Sem.run_bind, Result.andThen_ok, Sem.run_pure, List.getElem?_toArray, List.getElem?_cons_zero]
        exact rfl
      refine ⟨_, ?_, ?_, hrun⟩
      · simp only [Nat.add_zero, List.size_toArray, List.length_append, List.length_drop, List.length_take, Array.length_toList, hl]
        omega
      · intro k hk
        have hk2 : k < cur.toList.length := by simp; omega
        simp only [Nat.add_zero, List.getElem?_toArray, List.append_assoc]
        rw [List.getElem?_append_left (by simp; omega), List.getElem?_take_of_lt hk]
        simp
  obtain ⟨cs, hcs, hk, hrun⟩ := key
  unfold Oper.wp execOp
  simp only [ho, resolve, invoke, builtin, Sem.run_bind, Sem.run_pure, Result.andThen_ok, List.map_toArray, List.map_cons, List.map_nil, hx, hrun]
  exact h cs hcs hk

end Go.Proofs.YtbogljpafpkikaaGreatDoor

/-
  append, whatever the source: nil, empty, or elements that can be read.
-/
namespace Go.Proofs.YtbogljpafpkikaaGreatDoor
open Go.RowKit Go.Lib

/-- The elements of a slice can be read: its cells are 'news'. -/
structure SrcAt (w : World) (sv : Value) (m : Nat) (news : List Value) : Prop where
  form : (sv = .slice none 0 0 ∧ m = 0 ∧ news = []) ∨ ∃ ad c, sv = .slice (some ad) m c ∧ ∀ j u, news[j]? = some u → w.cell? (ad.add j) = some u

theorem wp_append_src {P : Program} {w : World} {o : Oper} {a : Act} {K : Act → World → Prop} {Q : Exit → Act → World → Prop} (s x : Operand) (t e : TypeId) (z : Value) (size bytes : Nat)
    (ho : o.op = .call { callee := .builtin .append, args := #[s, x], argTypes := #[t, t] }) (ht : P.underlying t = some (.slice e)) (hinfo : (P.info? e).map (fun i => (i.zero, i.size, i.bytes)) = some (some z, size, bytes)) (hzs : z.cells.size = size) (hsz : 0 < size)
    (v : Value) (n : Nat) (xs : List Value) (hs : a.eval s = v) (hown : w.ownsRow 0 e size v n xs)
    (sv : Value) (m : Nat) (news : List Value) (hx : a.eval x = sv) (hsrc : SrcAt w sv m news) (hl : news.length = m * size) (h1 : ∀ u, u ∈ news → u.oneCell' = true)
    (h63 : n + m ≤ 9223372036854775807) (hbytes : (n + m) * bytes ≤ 140737488355328)
    (h : ∀ ga cap w', w'.ownsRow 0 e size (.slice ga (n + m) cap) (n + m) (xs ++ news) → Fr v.ownBlock.toList w w' → ((Value.slice ga (n + m) cap).ownBlock = v.ownBlock ∨ (Value.slice ga (n + m) cap).ownBlock = some w.heap.size) → K (a.put o.dst (.slice ga (n + m) cap)) w') : o.wp P a w K Q := by
  obtain ⟨i, hi, hz0, hz1, hz2⟩ := info_parts hinfo
  have key : ∃ ga cap w', (Builtin.append_ #[t, t] o.type #[v, sv]).run P w = .ok (.slice ga (n + m) cap) w' ∧ w'.ownsRow 0 e size (.slice ga (n + m) cap) (n + m) (xs ++ news) ∧ Fr v.ownBlock.toList w w' ∧ ((Value.slice ga (n + m) cap).ownBlock = v.ownBlock ∨ (Value.slice ga (n + m) cap).ownBlock = some w.heap.size) := by
    rcases hsrc.form with ⟨rfl, rfl, rfl⟩ | ⟨ad, c, rfl, hc⟩
    · have hrun := run_append_owned_none (P := P) (w := w) 0 t o.type e i size ht hi v n xs hown
      obtain ⟨ga, cap, rfl⟩ : ∃ ga cap, v = .slice ga n cap := by
        rcases hown.2 with ⟨rfl, rfl⟩ | ⟨g, cap, _, rfl, _⟩
        · exact ⟨_, _, rfl⟩
        · exact ⟨_, _, rfl⟩
      exact ⟨ga, cap, w, hrun, by simpa using hown, Fr.refl _ _, .inl rfl⟩
    · obtain ⟨v', w', hr, h2, h3, _, h5⟩ := run_append_own_at (P := P) w 0 t o.type e i z size bytes ht hi hz0 hz1 hz2 hzs hsz v n xs hown ad m c news hl hc h1 h63 hbytes (Nat.zero_le _)
      obtain ⟨ga, cap, rfl⟩ : ∃ ga cap, v' = .slice ga (n + m) cap := by
        rcases h2.2 with ⟨rfl, h0⟩ | ⟨g, cap, _, rfl, _⟩
        · exact ⟨none, 0, by rw [h0]⟩
        · exact ⟨_, _, rfl⟩
      exact ⟨ga, cap, w', hr, h2, Fr.grown h3 fun k hk => by simp [hk], h5⟩
  obtain ⟨ga, cap, w', hr, h2, h3, h4⟩ := key
  unfold Oper.wp execOp
  simp only [ho, resolve, invoke, builtin, Sem.run_bind, Sem.run_pure, Result.andThen_ok, List.map_toArray, List.map_cons, List.map_nil, hs, hx, hr]
  exact h ga cap w' h2 h3 h4

/-- A row that is owned can be read. -/
theorem srcAt_of_row {w : World} {e : TypeId} {size : Nat} {v : Value} {n : Nat} {xs : List Value} (h : w.ownsRow 0 e size v n xs) : SrcAt w v n xs := by
  refine ⟨?_⟩
  rcases h.2 with ⟨rfl, rfl⟩ | ⟨g, cap, cur, rfl, _, hg, _, _, hcs, ht⟩
  · exact .inl ⟨rfl, rfl, by have := h.1; simpa using this⟩
  · refine .inr ⟨⟨g, 0, none⟩, cap, rfl, fun j u hu => ?_⟩
    have hj : j < xs.length := (List.getElem?_eq_some_iff.1 hu).1
    refine World.news_of_block hg j u ?_
    have hlen : xs.length = n * size := h.1
    rw [← ht, List.getElem?_take_of_lt (by omega)] at hu
    exact hu
end Go.Proofs.YtbogljpafpkikaaGreatDoor
