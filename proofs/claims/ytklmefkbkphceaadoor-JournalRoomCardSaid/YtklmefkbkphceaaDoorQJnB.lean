/-
  strings.Builder with a narrow frame: only the builder's own blocks change.
-/
import Derived.Test.YtklmefkbkphceaaDoorQJn7
import Derived.Test.YtklmefkbkphceaaDoorQShX
namespace Go.Proofs.YtklmefkbkphceaaDoor
open Go.RowKit Go.Lib

/-- A builder in block b that holds the bytes l; p: what it knows of itself; v: its buffer. -/
structure BldAt (w : World) (b : Nat) (p v : Value) (l : List UInt8) : Prop where
  blk : w.heap[b]? = some (.cells #[p, v] 67 (0, 0))
  row : w.ownsRow 0 5 1 v l.length (byteCells l)
  ne : v.ownBlock ≠ some b
def bldB (b : Nat) (v : Value) : List Nat := b :: v.ownBlock.toList
theorem strCells_bytes (s : ByteArray) : strCells s = byteCells (bts s) := rfl

theorem append_str (v : Value) (l : List UInt8) (s : ByteArray) (ty : TypeId) (w : World) (hown : w.ownsRow 0 5 1 v l.length (byteCells l)) (h : l.length + s.size ≤ 140737488355328) :
    ∃ ga cap w', (Builtin.append_ #[38, 9] ty #[v, .string s]).run Tryd.prog w = .ok (.slice ga (l.length + s.size) cap) w' ∧ w'.ownsRow 0 5 1 (.slice ga (l.length + s.size) cap) (l ++ bts s).length (byteCells (l ++ bts s)) ∧ Fr v.ownBlock.toList w w' ∧
      ((Value.slice ga (l.length + s.size) cap).ownBlock = v.ownBlock ∨ (Value.slice ga (l.length + s.size) cap).ownBlock = some w.heap.size) := by
  obtain ⟨i, hi, hz, hsize, hby⟩ := info_parts infoBy
  have ht := Tryd.underlying38
  have hu := Tryd.underlying9
  have e1 : (l ++ bts s).length = l.length + s.size := by simp [bts_len]
  have e2 : byteCells (l ++ bts s) = byteCells l ++ strCells s := by simp [byteCells, strCells, bts]
  rw [e1, e2]
  have hsmall : l.length + s.size ≤ maxLen := by simp only [maxLen]; omega
  have hxl : (byteCells l).length = l.length := by simp [byteCells]
  have grown : ∀ old, old < l.length + s.size → ∀ (row : List Nat),
      (w.drew.alloc (.cells ((byteCells l).toArray ++ (strCells s).toArray ++ Builtin.zeroCells (Value.int .u8 0).cells (grownCap w (l.length + s.size) old 5 - (l.length + s.size))) 5)).ownsRow 0 5 1
        (.slice (some ⟨w.heap.size, 0, none⟩) (l.length + s.size) (grownCap w (l.length + s.size) old 5)) (l.length + s.size) (byteCells l ++ strCells s) ∧
      Fr row w (w.drew.alloc (.cells ((byteCells l).toArray ++ (strCells s).toArray ++ Builtin.zeroCells (Value.int .u8 0).cells (grownCap w (l.length + s.size) old 5 - (l.length + s.size))) 5)) := by
    intro old ho row
    have hge := grownCap_ge w (l.length + s.size) old 5
    have hcm : grownCap w (l.length + s.size) old 5 ≤ maxLen := grownCap_le_maxLen w (l.length + s.size) old 5 hsmall
    refine ⟨⟨by rw [List.length_append, hxl, strCells_length, Nat.mul_one], .inr ⟨w.heap.size, _, _, rfl, Nat.zero_le _, heap_alloc_new w.drew _, hge, hcm, ?_, ?_⟩⟩, (Fr.drew _ _).trans (Fr.alloc _ _ _)⟩
    · have hz1 : (Value.int IntKind.u8 0).cells.size = 1 := rfl
      simp only [Array.size_append, List.size_toArray, size_zeroCells, hz1, hxl, strCells_length]
      omega
    · simp only [Array.toList_append, Nat.mul_one]
      exact List.take_left' (by rw [List.length_append, hxl, strCells_length])
  rcases hown.2 with ⟨rfl, h0⟩ | ⟨g, cap, cur, rfl, hbg, hg, hnc, hcm, hcs, htake⟩
  · obtain rfl : l = [] := List.eq_nil_of_length_eq_zero h0
    by_cases hm : s.size = 0
    · have hn : strCells s = [] := List.eq_nil_of_length_eq_zero (by rw [strCells_length]; exact hm)
      refine ⟨none, 0, w, ?_, by rw [hm, hn]; exact World.ownsRow_nil w 0 5 1, Fr.refl _ _, .inl rfl⟩
      have hf := run_firstCells_string (P := Tryd.prog) w 1 s
      rw [hm] at hf
      simp [Builtin.append_, run_underlying ht, run_underlying hu, sizeOf, typeInfo, hi, hsize, Builtin.lenOf, hm, hf]
    · have hr := run_append_nil_string (P := Tryd.prog) w 38 9 ty 5 i (.int .u8 0) ht hu hi hz s (by omega) (by simp at h; omega) (by rw [hby]; simp at h; omega)
      have hgr := grown 0 (by simp; omega) (Value.ownBlock (.slice none 0 0)).toList
      have e3 : (s.data.map fun b => Value.int .u8 b.toNat) = (strCells s).toArray := by
        apply Array.ext'
        simp [strCells]
      rw [e3] at hr
      simp only [List.length_nil, Nat.zero_add, byteCells, List.map_nil, List.nil_append, Array.empty_append] at hgr ⊢
      exact ⟨_, _, _, hr, hgr.1, hgr.2, .inr rfl⟩
  · by_cases hroom : l.length + s.size ≤ cap
    · have hcs' : cur.size = cap := by simpa using hcs
      have hr := run_append_room_string (P := Tryd.prog) w 38 9 ty 5 i ht hu hi hsize g l.length cap cur hg s hroom (by omega)
      refine ⟨_, _, _, hr, ⟨by rw [List.length_append, hxl, strCells_length, Nat.mul_one], .inr ⟨g, cap, _, rfl, hbg, setRow_heap w g cur _ 5 _ hg, hroom, hcm, ?_, ?_⟩⟩, Fr.setRow _ _ (by simp [Value.ownBlock]), .inl rfl⟩
      · simp only [List.size_toArray, List.length_append, List.length_take, List.length_drop, Array.length_toList, strCells_length]
        omega
      · have ht' : cur.toList.take l.length = byteCells l := by simpa using htake
        rw [ht', Nat.mul_one]
        exact List.take_left' (by rw [List.length_append, hxl, strCells_length])
    · have holds : ∀ j u, (byteCells l)[j]? = some u → w.cell? ((⟨g, 0, none⟩ : Addr).add j) = some u := hown.cells (g := g) rfl
      have hr := run_append_grow_string (P := Tryd.prog) w 38 9 ty 5 i (.int .u8 0) ht hu hi hz ⟨g, 0, none⟩ l.length cap (byteCells l) (by rw [hsize]; simp [byteCells]) holds s (by omega) (by omega) (by rw [hby]; exact growslice_fits (by omega) (by omega))
      have hgr := grown cap (by omega) (Value.ownBlock (.slice (some ⟨g, 0, none⟩) l.length cap)).toList
      exact ⟨_, _, _, hr, hgr.1, hgr.2, .inr rfl⟩

theorem wp_append_str {o : Oper} {a : Act} {w : World} {K : Act → World → Prop} {Q : Exit → Act → World → Prop} (s x : Operand) (ho : o.op = .call { callee := .builtin .append, args := #[s, x], argTypes := #[38, 9] })
    (v : Value) (l : List UInt8) (sb : ByteArray) (hs : a.eval s = v) (hx : a.eval x = .string sb) (hown : w.ownsRow 0 5 1 v l.length (byteCells l)) (hlen : l.length + sb.size ≤ 140737488355328)
    (h : ∀ ga cap w', w'.ownsRow 0 5 1 (.slice ga (l.length + sb.size) cap) (l ++ bts sb).length (byteCells (l ++ bts sb)) → Fr v.ownBlock.toList w w' → ((Value.slice ga (l.length + sb.size) cap).ownBlock = v.ownBlock ∨ (Value.slice ga (l.length + sb.size) cap).ownBlock = some w.heap.size) → K (a.put o.dst (.slice ga (l.length + sb.size) cap)) w') : o.wp Tryd.prog a w K Q := by
  obtain ⟨ga, cap, w', hr, h2, h3, h4⟩ := append_str v l sb o.type w hown hlen
  unfold Oper.wp execOp
  simp only [ho, resolve, invoke, builtin, Sem.run_bind, Sem.run_pure, Result.andThen_ok, List.map_toArray, List.map_cons, List.map_nil, hs, hx, hr]
  exact h ga cap w' h2 h3 h4

end Go.Proofs.YtklmefkbkphceaaDoor
