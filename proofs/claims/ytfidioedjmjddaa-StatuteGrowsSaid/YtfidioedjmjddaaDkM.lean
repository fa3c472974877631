/-
  A disk as plain data, and how it lies in memory.
-/
import Derived.Test.YtfidioedjmjddaaBase
import Derived.Lib.SliceRun
import Derived.Deep.OwnRows
namespace Go.Proofs.Ytfidioedjmjddaa
open Go.RowKit Go.Lib

/-- A disk: no power; the writes after which the power is lost; the durable and the visible content; the pending writes. -/
structure Dk where
  off : Bool
  left : Nat
  dur : List UInt8
  vis : List UInt8
  pend : List (Nat × ByteArray)

def pendC (l : List (Nat × ByteArray)) : List Value := l.flatMap fun p => [.int .i64 p.1, .string p.2]
theorem pendC_length (l : List (Nat × ByteArray)) : (pendC l).length = l.length * 2 := by
  induction l with
  | nil => rfl
  | cons p l ih => simp [pendC] at ih ⊢; omega
theorem pendC_snoc (l : List (Nat × ByteArray)) (o : Nat) (s : ByteArray) : pendC (l ++ [(o, s)]) = pendC l ++ [.int .i64 o, .string s] := by simp [pendC]

structure Dk.Ok (D : Dk) : Prop where
  len : D.vis.length = D.dur.length
  pos : 1 ≤ D.dur.length
  max : D.dur.length ≤ 4194304
  left : D.left ≤ 9223372036854775807
  pend : ∀ p, p ∈ D.pend → p.1 + p.2.size ≤ D.dur.length

/-- How a disk lies in memory: its struct's block, its two contents' blocks, the slice of its pending writes. -/
structure DkIn (tD tW tB : TypeId) (w : World) (b bd bv : Nat) (pv : Value) (D : Dk) : Prop where
  ok : D.Ok
  str : w.heap[b]? = some (.cells #[.bool D.off, .int .i64 D.left, .slice (some ⟨bd, 0, none⟩) D.dur.length D.dur.length, .slice (some ⟨bv, 0, none⟩) D.dur.length D.dur.length, pv] tD (0, 0))
  dur : BytesAt w bd tB D.dur
  vis : BytesAt w bv tB D.vis
  pend : w.ownsRow 0 tW 2 pv D.pend.length (pendC D.pend)
  ne1 : b ≠ bd
  ne2 : b ≠ bv
  ne3 : bd ≠ bv
  nep : ∀ g, pv.ownBlock = some g → g ≠ b ∧ g ≠ bd ∧ g ≠ bv

def DkAt (tD tW tB : TypeId) (w : World) (b : Nat) (fp : List Nat) (D : Dk) : Prop :=
  ∃ bd bv pv, DkIn tD tW tB w b bd bv pv D ∧ fp = b :: bd :: bv :: pv.ownBlock.toList

theorem BytesAt.keep {w w' : World} {b : Nat} {e : TypeId} {l : List UInt8} (h : BytesAt w b e l) (hk : w'.heap[b]? = w.heap[b]?) : BytesAt w' b e l := hk.trans h

theorem ownsRow_keep {w w' : World} {base : Nat} {e : TypeId} {size : Nat} {v : Value} {n : Nat} {xs : List Value} (h : w.ownsRow base e size v n xs)
    (hk : ∀ g, v.ownBlock = some g → w'.heap[g]? = w.heap[g]?) : w'.ownsRow base e size v n xs := by
  obtain ⟨h1, h2⟩ := h
  refine ⟨h1, ?_⟩
  rcases h2 with h2 | ⟨g, cap, cur, hv, hb, hg, r⟩
  · exact .inl h2
  · exact .inr ⟨g, cap, cur, hv, hb, (hk g (by rw [hv]; rfl)).trans hg, r⟩

theorem ownsRow_lt {w : World} {base : Nat} {e : TypeId} {size : Nat} {v : Value} {n : Nat} {xs : List Value} (h : w.ownsRow base e size v n xs) {g : Nat} (hg : v.ownBlock = some g) : g < w.heap.size := by
  rcases h.2 with ⟨rfl, _⟩ | ⟨g', cap, cur, rfl, _, hh, _⟩
  · cases hg
  · cases hg; exact blk_lt hh

theorem DkIn.fp_lt {tD tW tB : TypeId} {w : World} {b bd bv : Nat} {pv : Value} {D : Dk} (h : DkIn tD tW tB w b bd bv pv D) : ∀ k, k ∈ b :: bd :: bv :: pv.ownBlock.toList → k < w.heap.size := by
  intro k hk
  simp only [List.mem_cons, Option.mem_toList] at hk
  rcases hk with rfl | rfl | rfl | hk
  · exact blk_lt h.str
  · exact blk_lt h.dur
  · exact blk_lt h.vis
  · exact ownsRow_lt h.pend hk

theorem DkIn.keep {tD tW tB : TypeId} {w w' : World} {b bd bv : Nat} {pv : Value} {D : Dk} (h : DkIn tD tW tB w b bd bv pv D) (hk : ∀ k, k ∈ b :: bd :: bv :: pv.ownBlock.toList → w'.heap[k]? = w.heap[k]?) : DkIn tD tW tB w' b bd bv pv D :=
  { h with
    str := (hk b (by simp)).trans h.str
    dur := (hk bd (by simp)).trans h.dur
    vis := (hk bv (by simp)).trans h.vis
    pend := ownsRow_keep h.pend fun g hg => hk g (by simp [hg]) }

theorem DkAt.lt {tD tW tB : TypeId} {w : World} {b : Nat} {fp : List Nat} {D : Dk} (h : DkAt tD tW tB w b fp D) : ∀ k, k ∈ fp → k < w.heap.size := by
  obtain ⟨bd, bv, pv, h, rfl⟩ := h
  exact h.fp_lt

theorem DkAt.keep {tD tW tB : TypeId} {w w' : World} {b : Nat} {fp S : List Nat} {D : Dk} (h : DkAt tD tW tB w b fp D) (hf : Fr S w w') (hd : ∀ k, k ∈ fp → k ∉ S) : DkAt tD tW tB w' b fp D := by
  have hlt := h.lt
  obtain ⟨bd, bv, pv, h, rfl⟩ := h
  exact ⟨bd, bv, pv, h.keep fun k hk => hf.block k (hlt k hk) (hd k hk), rfl⟩

/-! ### What the calls do -/
/-- Is [off, off + n) on a disk of size m? -/
def insB (m : Nat) (off n : Int) : Bool := decide (0 ≤ off ∧ 0 ≤ n ∧ off ≤ m ∧ n ≤ m - off)

def Dk.use (D : Dk) : Dk := if D.left = 0 then D else { D with left := D.left - 1, off := D.left - 1 == 0 }
def Dk.put (D : Dk) (o : Nat) (s : ByteArray) : Dk := { D with vis := paste D.vis o s.data.toList, pend := D.pend ++ [(o, s)] }
def Dk.write (D : Dk) (o : Nat) (s : ByteArray) : Dk := (D.put o s).use
def Dk.sync (D : Dk) : Dk := { D with dur := D.vis, pend := [] }
def Dk.cut (D : Dk) (n : Nat) : Dk := { D with off := n == 0, left := n }

theorem Dk.Ok.put {D : Dk} (h : D.Ok) {o : Nat} {s : ByteArray} (hs : o + s.size ≤ D.dur.length) : (D.put o s).Ok :=
  ⟨by simp only [Dk.put]; rw [paste_length _ _ _ (by simpa [h.len] using hs)]; exact h.len, h.pos, h.max, h.left, fun p hp => by
    simp only [Dk.put, List.mem_append, List.mem_singleton] at hp
    rcases hp with hp | rfl
    · exact h.pend p hp
    · exact hs⟩
theorem Dk.Ok.use {D : Dk} (h : D.Ok) : D.use.Ok := by
  unfold Dk.use
  split
  · exact h
  · exact ⟨h.len, h.pos, h.max, by have := h.left; simp; omega, h.pend⟩
theorem Dk.Ok.write {D : Dk} (h : D.Ok) {o : Nat} {s : ByteArray} (hs : o + s.size ≤ D.dur.length) : (D.write o s).Ok := (h.put hs).use

/-- clear of a slice that is a block's head. -/
theorem run_clear_blk {P : Program} (w : World) (t e ty : TypeId) (z : Value) (ht : P.underlying t = some (.slice e)) (hz : ∀ w, (zeroValue e).run P w = .ok z w) (hone : ∀ v, v ∈ z.cells.toList → v.oneCell' = true)
    (g n cap : Nat) (cur : Array Value) (e' : TypeId) (hg : w.heap[g]? = some (.cells cur e' (0, 0))) (hfit : n * z.cells.size ≤ cur.size) (hz0 : 0 < z.cells.size) :
    ∃ cs : Array Value, cs.size = cur.size ∧ (Builtin.clear_ #[t] ty #[.slice (some ⟨g, 0, none⟩) n cap]).run P w = .ok (.tuple #[]) (w.setRow g cs) := by
  cases n with
  | zero => exact ⟨cur, rfl, by rw [setRow_self w g cur e' (0, 0) hg]; simp [Builtin.clear_, run_underlying ht]⟩
  | succ m =>
    have hl : (Builtin.zeroCells z.cells (m + 1)).toList.length = (m + 1) * z.cells.size := by simp [Builtin.zeroCells]
    have h1 : ∀ v, v ∈ (Builtin.zeroCells z.cells (m + 1)).toList → v.oneCell' = true := by
      intro v hv
      simp only [Builtin.zeroCells, Array.toList_map, List.mem_map] at hv
      obtain ⟨i, _, rfl⟩ := hv
      apply hone
      have hi : i % z.cells.size < z.cells.size := Nat.mod_lt _ hz0
      rw [getElem!_pos z.cells _ hi]
      simp
    have hst := run_storeCells_at (P := P) g 0 e' _ 0 cur w hg (by rw [hl]; simpa using hfit) h1
    have hrun := show (Builtin.clear_ #[t] ty #[.slice (some ⟨g, 0, none⟩) (m + 1) cap]).run P w = .ok (.tuple #[]) _ by
      simp only [Builtin.clear_, run_underlying ht, hz, hst, Sem.run_bind, Result.andThen_ok, Sem.run_pure, List.getElem?_toArray, List.getElem?_cons_zero]
      exact rfl
    refine ⟨_, ?_, hrun⟩
    simp only [Nat.zero_add, Nat.add_zero, List.take_zero, List.nil_append, List.size_toArray, List.length_append, List.length_drop, Array.length_toList, hl]
    omega

/-- copy of one whole block of bytes over another. -/
theorem wp_copy_bytes {P : Program} {w : World} {o : Oper} {a : Act} {K : Act → World → Prop} {Q : Exit → Act → World → Prop} (d s : Operand) (t t' e : TypeId)
    (ho : o.op = .call { callee := .builtin .copy, args := #[d, s], argTypes := #[t, t'] }) (hu : P.underlying t = some (.slice e)) (hs : (P.info? e).map (·.size) = some 1)
    (gd gs n dCap sCap : Nat) (ld ls : List UInt8) (e' : TypeId) (hd : a.eval d = .slice (some ⟨gd, 0, none⟩) n dCap) (hx : a.eval s = .slice (some ⟨gs, 0, none⟩) n sCap)
    (hbd : BytesAt w gd e' ld) (hbs : BytesAt w gs e' ls) (hld : ld.length = n) (hls : ls.length = n)
    (h : ∀ w', Fr [gd] w w' → w'.heap.size = w.heap.size → BytesAt w' gd e' ls → K (a.put o.dst (.int .i64 n)) w') : o.wp P a w K Q := by
  have hl : (byteCells ls).length = n := by rw [byteCells_length, hls]
  have hl2 : (byteCells ld).length = n := by rw [byteCells_length, hld]
  have hrun := run_copy_row (P := P) w t t' o.type e gd 0 n dCap ⟨gs, 0, none⟩ n sCap (byteCells ld).toArray e' (byteCells ls) hu hs hbd
    (by rw [hl]; exact (Nat.min_self n).symm) (fun j v hj => by
      have ha : (⟨gs, 0, none⟩ : Addr).add j = ⟨gs, j, none⟩ := by
        unfold Addr.add; split
        · rename_i h0; simp only [h0]
        · simp only [Nat.zero_add]
      rw [ha, cell_of_blk hbs]
      simpa using hj) (by simp only [List.size_toArray, hl2, hl]; omega) (byteCells_one _)
  rw [hl] at hrun
  unfold Oper.wp execOp
  simp only [ho, resolve, invoke, builtin, Sem.run_bind, Sem.run_pure, Result.andThen_ok, List.map_toArray, List.map_cons, List.map_nil, hd, hx, hrun]
  refine h _ (Fr.setRow _ _ (by simp)) (by simp) ?_
  unfold BytesAt
  rw [setRow_heap _ _ _ _ _ _ hbd]
  have hdrop : List.drop (0 + n) (byteCells ld) = [] := List.drop_eq_nil_of_le (by omega)
  simp only [hdrop, List.take_zero, List.nil_append, List.append_nil]

/-- clear of a slice that is a block's head. -/
theorem wp_clear_blk {P : Program} {w : World} {o : Oper} {a : Act} {K : Act → World → Prop} {Q : Exit → Act → World → Prop} (x : Operand) (t e : TypeId) (z : Value)
    (ho : o.op = .call { callee := .builtin .clear, args := #[x], argTypes := #[t] }) (ht : P.underlying t = some (.slice e)) (hz : ∀ w, (zeroValue e).run P w = .ok z w) (hone : ∀ v, v ∈ z.cells.toList → v.oneCell' = true)
    (g n cap : Nat) (cur : Array Value) (e' : TypeId) (hx : a.eval x = .slice (some ⟨g, 0, none⟩) n cap) (hg : w.heap[g]? = some (.cells cur e' (0, 0))) (hfit : n * z.cells.size ≤ cur.size) (hz0 : 0 < z.cells.size)
    (h : ∀ cs : Array Value, cs.size = cur.size → K (a.put o.dst (.tuple #[])) (w.setRow g cs)) : o.wp P a w K Q := by
  obtain ⟨cs, hcs, hrun⟩ := run_clear_blk w t e o.type z ht hz hone g n cap cur e' hg hfit hz0
  unfold Oper.wp execOp
  simp only [ho, resolve, invoke, builtin, Sem.run_bind, Sem.run_pure, Result.andThen_ok, List.map_toArray, List.map_cons, List.map_nil, hx, hrun]
  exact h cs hcs

theorem wp_clear_nil {P : Program} {w : World} {o : Oper} {a : Act} {K : Act → World → Prop} {Q : Exit → Act → World → Prop} (x : Operand) (t e : TypeId)
    (ho : o.op = .call { callee := .builtin .clear, args := #[x], argTypes := #[t] }) (ht : P.underlying t = some (.slice e)) (hx : a.eval x = .slice none 0 0) (h : K (a.put o.dst (.tuple #[])) w) : o.wp P a w K Q := by
  have hrun : (Builtin.clear_ #[t] o.type #[.slice none 0 0]).run P w = .ok (.tuple #[]) w := by simp [Builtin.clear_, run_underlying ht]
  unfold Oper.wp execOp
  simp only [ho, resolve, invoke, builtin, Sem.run_bind, Sem.run_pure, Result.andThen_ok, List.map_toArray, List.map_cons, List.map_nil, hx, hrun]
  exact h

/-- append of the elements of a block that is known whole, to a row that is owned: where the new row lies, and what may have changed. -/
theorem wp_append_blk {P : Program} {w : World} {o : Oper} {a : Act} {K : Act → World → Prop} {Q : Exit → Act → World → Prop} (s x : Operand) (t e : TypeId) (z : Value) (size bytes : Nat)
    (ho : o.op = .call { callee := .builtin .append, args := #[s, x], argTypes := #[t, t] }) (ht : P.underlying t = some (.slice e)) (hinfo : (P.info? e).map (fun i => (i.zero, i.size, i.bytes)) = some (some z, size, bytes)) (hzs : z.cells.size = size) (hsz : 0 < size)
    (v : Value) (n : Nat) (xs : List Value) (hs : a.eval s = v) (hown : w.ownsRow 0 e size v n xs)
    (B m c : Nat) (cs : Array Value) (e' : TypeId) (f : Nat × Nat) (hx : a.eval x = .slice (some ⟨B, 0, none⟩) m c) (hB : w.heap[B]? = some (.cells cs e' f)) (hl : cs.size = m * size) (h1 : ∀ u, u ∈ cs.toList → u.oneCell' = true)
    (hm : 0 < m) (h63 : n + m ≤ 9223372036854775807) (hbytes : (n + m) * bytes ≤ 140737488355328)
    (h : ∀ g cap w', w'.ownsRow 0 e size (.slice (some ⟨g, 0, none⟩) (n + m) cap) (n + m) (xs ++ cs.toList) → Fr v.ownBlock.toList w w' → (v.ownBlock = some g ∨ g = w.heap.size) → K (a.put o.dst (.slice (some ⟨g, 0, none⟩) (n + m) cap)) w') : o.wp P a w K Q := by
  obtain ⟨i, hi, hz0, hz1, hz2⟩ := info_parts hinfo
  refine wp_append_lies w s x t ho 0 e i z size bytes ht hi hz0 hz1 hz2 hzs hsz v n xs hs hown ⟨B, 0, none⟩ m c cs.toList hx (by simpa using hl) (World.news_of_block hB) h1 hm h63 hbytes (Nat.zero_le _) _ rfl ?_
  intro g cap w' h2 h3 h4 _
  exact h g cap w' h2 (Fr.grown h3 fun k hk => by simp [hk]) h4

/-- clear of a part of a block. -/
theorem wp_clear_off {P : Program} {w : World} {o : Oper} {a : Act} {K : Act → World → Prop} {Q : Exit → Act → World → Prop} (x : Operand) (t e : TypeId) (z : Value)
    (ho : o.op = .call { callee := .builtin .clear, args := #[x], argTypes := #[t] }) (ht : P.underlying t = some (.slice e)) (hz : ∀ w, (zeroValue e).run P w = .ok z w) (hone : ∀ v, v ∈ z.cells.toList → v.oneCell' = true)
    (g off n cap : Nat) (cur : Array Value) (e' : TypeId) (hx : a.eval x = .slice (some ⟨g, off, none⟩) n cap) (hg : w.heap[g]? = some (.cells cur e' (0, 0))) (hfit : off + n * z.cells.size ≤ cur.size) (hz0 : 0 < z.cells.size)
    (h : ∀ cs : Array Value, cs.size = cur.size → (∀ k, k < off → cs[k]? = cur[k]?) → K (a.put o.dst (.tuple #[])) (w.setRow g cs)) : o.wp P a w K Q := by
  have key : ∃ cs : Array Value, cs.size = cur.size ∧ (∀ k, k < off → cs[k]? = cur[k]?) ∧ (Builtin.clear_ #[t] o.type #[.slice (some ⟨g, off, none⟩) n cap]).run P w = .ok (.tuple #[]) (w.setRow g cs) := by
    cases n with
    | zero => exact ⟨cur, rfl, fun _ _ => rfl, by rw [setRow_self w g cur e' (0, 0) hg]; simp [Builtin.clear_, run_underlying ht]⟩
    | succ m =>
      have hl : (Builtin.zeroCells z.cells (m + 1)).toList.length = (m + 1) * z.cells.size := by simp [Builtin.zeroCells]
      have h1 : ∀ v, v ∈ (Builtin.zeroCells z.cells (m + 1)).toList → v.oneCell' = true := by
        intro v hv
        simp only [Builtin.zeroCells, Array.toList_map, List.mem_map] at hv
        obtain ⟨i, _, rfl⟩ := hv
        apply hone
        have hi : i % z.cells.size < z.cells.size := Nat.mod_lt _ hz0
        rw [getElem!_pos z.cells _ hi]
        simp
      have hst := run_storeCells_at (P := P) g off e' _ 0 cur w hg (by rw [hl]; simpa using hfit) h1
      have hrun := show (Builtin.clear_ #[t] o.type #[.slice (some ⟨g, off, none⟩) (m + 1) cap]).run P w = .ok (.tuple #[]) _ by
        simp only [Builtin.clear_, run_underlying ht, hz, hst, Sem.run_bind, Result.andThen_ok, Sem.run_pure, List.getElem?_toArray, List.getElem?_cons_zero]
        exact rfl
      refine ⟨_, ?_, ?_, hrun⟩
      · simp only [Nat.add_zero, List.size_toArray, List.length_append, List.length_drop, List.length_take, Array.length_toList, hl]
        omega
      · intro k hk
        have hk2 : k < cur.toList.length := by simp; omega
        simp only [Nat.add_zero, List.getElem?_toArray, List.append_assoc]
        rw [List.getElem?_append_left (by simp; omega), List.getElem?_take_of_lt hk]
        simp
  obtain ⟨cs, hcs, hk, hrun⟩ := key
  unfold Oper.wp execOp
  simp only [ho, resolve, invoke, builtin, Sem.run_bind, Sem.run_pure, Result.andThen_ok, List.map_toArray, List.map_cons, List.map_nil, hx, hrun]
  exact h cs hcs hk

end Go.Proofs.Ytfidioedjmjddaa
