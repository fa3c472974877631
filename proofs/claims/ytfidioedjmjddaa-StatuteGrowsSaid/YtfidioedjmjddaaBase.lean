/-
  General facts on worlds: a frame by a list of blocks that may have changed ('Fr'), blocks of bytes, and small laws. No program in sight.
-/
import Derived.WalkKit
import Derived.WalkSpells
import Derived.WalkLawsBesides
import Derived.Lib.Hide
import Derived.Lib.BufferWrite
import Derived.Deep.AppendLies
import Derived.Laws.CopyOwn
namespace Go.Proofs.Ytfidioedjmjddaa
open Go.RowKit Go.Lib

/-- Of the blocks that were there, only those of 'fp' may have changed. -/
structure Fr (fp : List Nat) (w w' : World) : Prop where
  os : w'.os = w.os
  tape : w'.tape = w.tape
  output : w'.output = w.output
  size : w.heap.size ≤ w'.heap.size
  block : ∀ k, k < w.heap.size → k ∉ fp → w'.heap[k]? = w.heap[k]?

/-- A change of the blocks of 'fp' after which 'fp2' are the blocks: old ones, or new ones. -/
structure Upd (fp fp2 : List Nat) (w w' : World) : Prop where
  fr : Fr fp w w'
  sub : ∀ k, k ∈ fp2 → k ∈ fp ∨ w.heap.size ≤ k

theorem Fr.refl (fp : List Nat) (w : World) : Fr fp w w := ⟨rfl, rfl, rfl, Nat.le_refl _, fun _ _ _ => rfl⟩

theorem Fr.trans {fp : List Nat} {a b c : World} (h : Fr fp a b) (k : Fr fp b c) : Fr fp a c :=
  ⟨k.os.trans h.os, k.tape.trans h.tape, k.output.trans h.output, Nat.le_trans h.size k.size, fun i hi hn => (k.block i (Nat.lt_of_lt_of_le hi h.size) hn).trans (h.block i hi hn)⟩

/-- The second step may change new blocks, too. -/
theorem Fr.step {fp fp2 : List Nat} {a b c : World} (h : Fr fp a b) (k : Fr fp2 b c) (hs : ∀ i, i ∈ fp2 → i ∈ fp ∨ a.heap.size ≤ i) : Fr fp a c :=
  ⟨k.os.trans h.os, k.tape.trans h.tape, k.output.trans h.output, Nat.le_trans h.size k.size, fun i hi hn => by
    have h2 : i ∉ fp2 := fun hm => by
      rcases hs i hm with h | h
      · exact hn h
      · omega
    exact (k.block i (Nat.lt_of_lt_of_le hi h.size) h2).trans (h.block i hi hn)⟩

theorem Fr.mono {fp fp2 : List Nat} {a b : World} (h : Fr fp a b) (hs : ∀ i, i ∈ fp → i ∈ fp2) : Fr fp2 a b :=
  ⟨h.os, h.tape, h.output, h.size, fun i hi hn => h.block i hi fun hm => hn (hs i hm)⟩

theorem Fr.alloc (fp : List Nat) (w : World) (o : Obj) : Fr fp w (w.alloc o) := ⟨rfl, rfl, rfl, by simp, fun _ hk _ => Below.heap_alloc _ _ _ hk⟩
theorem Fr.drew (fp : List Nat) (w : World) : Fr fp w w.drew := ⟨rfl, rfl, rfl, Nat.le_refl _, fun _ _ _ => rfl⟩
theorem Fr.drewN (fp : List Nat) (w : World) (n : Nat) : Fr fp w (w.drewN n) := ⟨rfl, rfl, rfl, Nat.le_refl _, fun _ _ _ => rfl⟩
theorem Fr.setCell {fp : List Nat} (w : World) {p : Addr} (v : Value) (h : p.block ∈ fp) : Fr fp w (w.setCell p v) :=
  ⟨rfl, rfl, rfl, by simp [World.setCell], fun k _ hn => Below.heap_setCell _ _ _ _ (fun e => hn (e ▸ h))⟩
theorem Fr.setRow {fp : List Nat} (w : World) {g : Nat} (cs : Array Value) (h : g ∈ fp) : Fr fp w (w.setRow g cs) :=
  ⟨rfl, rfl, rfl, by simp, fun k _ hn => setRow_other _ _ _ _ (fun e => hn (e ▸ h))⟩
theorem Fr.grown {fp : List Nat} {w w' : World} {row : Option Nat} (hg : w.grownBy w' row) (hr : ∀ k, row = some k → k ∈ fp) : Fr fp w w' :=
  ⟨hg.os, hg.tape, hg.output, hg.size, fun k hk hn => hg.block k hk fun e => hn (hr k e.symm)⟩
theorem Fr.below {w w' : World} (h : Fr [] w w') : Below w.heap.size w w' := ⟨h.os, h.tape, h.output, h.size, fun k hk => h.block k hk (by simp)⟩
theorem Fr.of_below {w w' : World} (fp : List Nat) (h : Below w.heap.size w w') : Fr fp w w' := ⟨h.os, h.tape, h.output, h.size, fun k hk _ => h.block k hk⟩
/-- Only blocks from B on are named. -/
theorem Fr.belowB {fp : List Nat} {w w' : World} {B : Nat} (h : Fr fp w w') (hB : B ≤ w.heap.size) (hs : ∀ k, k ∈ fp → B ≤ k) : Below B w w' :=
  ⟨h.os, h.tape, h.output, h.size, fun k hk => h.block k (by omega) (fun hm => by have := hs k hm; omega)⟩

theorem Fr.keep {fp : List Nat} {w w' : World} (h : Fr fp w w') {k : Nat} {o : Obj} (hk : w.heap[k]? = some o) (hn : k ∉ fp) : w'.heap[k]? = some o :=
  (h.block k (Array.getElem?_eq_some_iff.1 hk).1 hn).trans hk

theorem Upd.refl (fp : List Nat) (w : World) : Upd fp fp w w := ⟨Fr.refl _ _, fun _ h => .inl h⟩
theorem Upd.trans {f1 f2 f3 : List Nat} {a b c : World} (h : Upd f1 f2 a b) (k : Upd f2 f3 b c) : Upd f1 f3 a c :=
  ⟨h.fr.step k.fr h.sub, fun i hi => by
    rcases k.sub i hi with h1 | h1
    · exact h.sub i h1
    · exact .inr (Nat.le_trans h.fr.size h1)⟩

theorem blk_lt {w : World} {k : Nat} {o : Obj} (h : w.heap[k]? = some o) : k < w.heap.size := (Array.getElem?_eq_some_iff.1 h).1

theorem heap_alloc_new (w : World) (o : Obj) : (w.alloc o).heap[w.heap.size]? = some o := by
  show (w.heap.push o)[w.heap.size]? = _
  simp
theorem heap_alloc_old {w : World} {k : Nat} {x : Obj} (o : Obj) (h : w.heap[k]? = some x) : (w.alloc o).heap[k]? = some x := (Below.heap_alloc _ _ _ (blk_lt h)).trans h
theorem heap_setCell_other {w : World} {k : Nat} {x : Obj} {p : Addr} (v : Value) (h : w.heap[k]? = some x) (hn : k ≠ p.block) : (w.setCell p v).heap[k]? = some x := (Below.heap_setCell _ _ _ _ hn).trans h
theorem heap_setCell_same {w : World} {b i : Nat} {c : Array Value} {e : TypeId} {f : Nat × Nat} (v : Value) (h : w.heap[b]? = some (.cells c e f)) : (w.setCell ⟨b, i, none⟩ v).heap[b]? = some (.cells (c.setIfInBounds i v) e f) := by
  simp [World.setCell, Array.getElem?_modify, h]

/-- A cell of a block that is known whole. -/
theorem cell_of_blk {w : World} {b : Nat} {c : Array Value} {e : TypeId} {f : Nat × Nat} (h : w.heap[b]? = some (.cells c e f)) (i : Nat) : w.cell? ⟨b, i, none⟩ = c[i]? := by
  simp [World.cell?, h]
theorem free_of_blk {w : World} {b : Nat} {c : Array Value} {e : TypeId} (h : w.heap[b]? = some (.cells c e (0, 0))) (i : Nat) : w.frozen? ⟨b, i, none⟩ = false := by
  simp [World.frozen?, h]

/-- A block of bytes. -/
def BytesAt (w : World) (b : Nat) (e : TypeId) (l : List UInt8) : Prop := w.heap[b]? = some (.cells (byteCells l).toArray e (0, 0))

/-- The bytes of s in the place of those from o on. -/
def paste (l : List UInt8) (o : Nat) (s : List UInt8) : List UInt8 := l.take o ++ s ++ l.drop (o + s.length)
theorem paste_length (l : List UInt8) (o : Nat) (s : List UInt8) (h : o + s.length ≤ l.length) : (paste l o s).length = l.length := by
  simp [paste]; omega

/-- No result: the return statement. -/
theorem ret0 {P : Program} {fn : Func} {R : Ending → World → Prop} {a : Act} {w : World} (h : fn.results = #[]) (hd : a.defers = []) (hR : R (.returned (.tuple #[])) w) : bodyPost P fn R .ret a w :=
  bodyPost_ret (results_none h _ _ _) hd hR

/-- An operation of a region that draws, without a guard. -/
theorem step_of_wp {P : Program} {ops : Array Oper} {o : Oper} {a : Act} {w : World} {K : Act → World → Prop} {Q : Exit → Act → World → Prop} {E : Prop} (hg : o.guard = none) (h : o.wp P a w K Q) :
    if Region.wanted o (yielded ops a.tmps) = true then Oper.wp P o a w K Q else E := by
  rw [if_pos (by simp [Region.wanted, hg])]; exact h
theorem wpList_of_wp {P : Program} {w : World} {ops : Array Oper} {rest : List Oper} {o : Oper} {a : Act} {Q : Exit → Act → World → Prop} (hgd : o.guard = none)
    (h : ∀ K : Act → World → Prop, (∀ a w, wpList P ops Q rest a w → K a w) → o.wp P a w K Q) : wpList P ops Q (o :: rest) a w := wpList_plain hgd h

/-- The same under a guard that lets the operation be carried out. -/
theorem wpList_of_wpg {P : Program} {w : World} {ops : Array Oper} {rest : List Oper} {o : Oper} {a : Act} {Q : Exit → Act → World → Prop} (hw : Region.wanted o (yielded ops a.tmps) = true)
    (h : ∀ K : Act → World → Prop, (∀ a w, wpList P ops Q rest a w → K a w) → o.wp P a w K Q) : wpList P ops Q (o :: rest) a w :=
  wpList_step fun K hK => by rw [if_pos hw]; exact h K hK

/-- copy of a string into a block of bytes. -/
theorem wp_copy_str {P : Program} {w : World} {o : Oper} {a : Act} {K : Act → World → Prop} {Q : Exit → Act → World → Prop} (d s : Operand) (t t' e : TypeId)
    (ho : o.op = .call { callee := .builtin .copy, args := #[d, s], argTypes := #[t, t'] }) (hu : P.underlying t = some (.slice e)) (hs : (P.info? e).map (·.size) = some 1)
    (g off dLen dCap : Nat) (str : ByteArray) (l : List UInt8) (e' : TypeId) (hd : a.eval d = .slice (some ⟨g, off, none⟩) dLen dCap) (hx : a.eval s = .string str)
    (hb : BytesAt w g e' l) (hle : str.size ≤ dLen) (hfit : off + str.size ≤ l.length)
    (h : ∀ w', Fr [g] w w' → w'.heap.size = w.heap.size → BytesAt w' g e' (paste l off str.data.toList) → K (a.put o.dst (.int .i64 str.size)) w') : o.wp P a w K Q := by
  have hrun := run_copy_row_string (P := P) w t t' o.type e g off dLen dCap str _ e' hu hs hb hle (by simpa [byteCells_length] using hfit)
  unfold Oper.wp execOp
  simp only [ho, resolve, invoke, builtin, Sem.run_bind, Sem.run_pure, Result.andThen_ok, List.map_toArray, List.map_cons, List.map_nil, hd, hx, hrun]
  refine h _ (Fr.setRow _ _ (by simp)) (by simp) ?_
  unfold BytesAt
  rw [setRow_heap _ _ _ _ _ _ hb]
  simp [paste, byteCells]

/-- string(b) of a part of a block of bytes. -/
theorem wp_bytes_str {P : Program} {w : World} {o : Oper} {a : Act} {K : Act → World → Prop} {Q : Exit → Act → World → Prop} (x : Operand) (src dst e : TypeId) (ho : o.op = .convert src dst x)
    (hs : P.underlying src = some (.slice e)) (he : P.underlying e = some (.int .u8)) (hd : P.underlying dst = some .string)
    (g off n cap : Nat) (l : List UInt8) (e' : TypeId) (hx : a.eval x = .slice (some ⟨g, off, none⟩) n cap) (hb : BytesAt w g e' l) (hfit : off + n ≤ l.length)
    (h : K (a.put o.dst (.string ⟨((l.drop off).take n).toArray⟩)) w) : o.wp P a w K Q := by
  have hlen : ((l.drop off).take n).length = n := by simp; omega
  have hrun := run_convert_bytes_back (P := P) w src dst e ⟨g, off, none⟩ cap ((l.drop off).take n) hs he hd (fun j hj => by
    have hj' : j < n := by rw [hlen] at hj; exact hj
    have ha : (⟨g, off, none⟩ : Addr).add j = ⟨g, off + j, none⟩ := by
      unfold Addr.add; split
      · rename_i h0; simp only [h0, Nat.add_zero]
      · rfl
    rw [ha, cell_of_blk hb]
    have h2 : off + j < l.length := by omega
    simp [byteCells, List.getElem?_map, List.getElem?_eq_getElem h2])
  rw [hlen] at hrun
  unfold Oper.wp execOp
  simp only [ho, Sem.run_bind, Sem.run_pure, Result.andThen_ok, hx, hrun]
  exact h

theorem paste_nil (l : List UInt8) (o : Nat) : paste l o [] = l := by simp [paste]

end Go.Proofs.Ytfidioedjmjddaa
