/-
  A slice of bytes that the call owns, marked or not; []byte of a string; append of one byte.
-/
import Derived.Test.YtbogljpafpkikaaGreatDoorQDg4
import Derived.Lib.ConvBytes
import Derived.ArgAppend
namespace Go.Proofs.YtbogljpafpkikaaGreatDoor
open Go.RowKit Go.Lib

structure RowB (w : World) (base g cap n : Nat) (l : List Int) : Prop where
  ge : base ≤ g
  len : l.length = n
  le : n ≤ cap
  max : cap ≤ 9223372036854775807
  blk : ∃ cur fz, w.heap[g]? = some (.cells cur 5 fz) ∧ cur.size = cap ∧ cur.toList.take n = u8C l ∧ ∀ j, j < cap → ¬ (fz.1 ≤ j ∧ j < fz.2)
theorem RowB.same {w w' : World} {base g cap n : Nat} {l : List Int} {S : List Nat} (h : RowB w base g cap n l) (hf : Fr S w w') (hS : g ∉ S) : RowB w' base g cap n l := by
  obtain ⟨cur, fz, h1, h2⟩ := h.blk
  exact ⟨h.ge, h.len, h.le, h.max, cur, fz, hf.keep h1 hS, h2⟩
theorem RowB.cell {w : World} {base g cap n : Nat} {l : List Int} (h : RowB w base g cap n l) {j : Nat} {u : Value} (hj : (u8C l)[j]? = some u) : w.cell? ⟨g, j, none⟩ = some u := by
  obtain ⟨cur, fz, h1, h2, h3, _⟩ := h.blk
  have hl : j < n := by
    have := (List.getElem?_eq_some_iff.1 hj).1
    rw [← h.len]; simpa using this
  rw [cell_of_blk h1, ← Array.getElem?_toList]
  rw [← h3, List.getElem?_take_of_lt hl] at hj
  exact hj
theorem RowB.sl {w : World} {base g cap n : Nat} {l : List Int} (h : RowB w base g cap n l) : Sl w (.slice (some ⟨g, 0, none⟩) n cap) n (u8C l) :=
  ⟨_, _, rfl, h.le, h.max, fun _ => ⟨g, 0, rfl, fun j u hu => by rw [Nat.zero_add]; exact h.cell hu⟩⟩
theorem RowB.lt {w : World} {base g cap n : Nat} {l : List Int} (h : RowB w base g cap n l) : g < w.heap.size := by
  obtain ⟨cur, fz, h1, _⟩ := h.blk
  exact blk_lt h1
theorem infoBy : (Tryz.prog.info? 5).map (fun i => (i.zero, i.size, i.bytes)) = some (some (.int .u8 0), 1, 1) := by kernel_rfl
theorem add_at (g j : Nat) : (⟨g, 0, none⟩ : Addr).add j = ⟨g, j, none⟩ := by
  unfold Addr.add
  split
  · rename_i h; subst h; rfl
  · simp

theorem wp_append_b {o : Oper} {a : Act} {w : World} {K : Act → World → Prop} {Q : Exit → Act → World → Prop} (s x : Operand) (ho : o.op = .call { callee := .builtin .append, args := #[s, x], argTypes := #[39, 39] })
    (base g cap n : Nat) (l : List Int) (b : Int) (hs : a.eval s = .slice (some ⟨g, 0, none⟩) n cap) (hr : RowB w base g cap n l) (hb : base ≤ w.heap.size) (sb c : Nat) (hx : a.eval x = .slice (some ⟨sb, 0, none⟩) 1 c) (hsb : w.cell? ⟨sb, 0, none⟩ = some (.int .u8 b)) (hlen : n + 1 ≤ 140737488355328)
    (h : ∀ g' cap' w', RowB w' base g' cap' (n + 1) (l ++ [b]) → Fr [g] w w' → K (a.put o.dst (.slice (some ⟨g', 0, none⟩) (n + 1) cap')) w') : o.wp Tryz.prog a w K Q := by
  obtain ⟨i, hi, hz0, hz1, hz2⟩ := info_parts infoBy
  have hnews : ∀ j u, [Value.int .u8 b][j]? = some u → w.cell? ((⟨sb, 0, none⟩ : Addr).add j) = some u := by
    intro j u hu
    match j with
    | 0 => simp only [List.getElem?_cons_zero, Option.some.injEq] at hu; subst hu; rw [add_at]; exact hsb
    | j + 1 => simp at hu
  obtain ⟨cur, fz, h1, h2, h3, h4⟩ := hr.blk
  have hcl : (u8C l).length = n := by simp [hr.len]
  have hul : (u8C (l ++ [b])) = u8C l ++ [.int .u8 b] := by simp [u8C]
  have key : ∃ g' cap' w', (Builtin.append_ #[39, 39] o.type #[.slice (some ⟨g, 0, none⟩) n cap, .slice (some ⟨sb, 0, none⟩) 1 c]).run Tryz.prog w = .ok (.slice (some ⟨g', 0, none⟩) (n + 1) cap') w' ∧ RowB w' base g' cap' (n + 1) (l ++ [b]) ∧ Fr [g] w w' := by
    by_cases hroom : n + 1 ≤ cap
    · have hrun := run_append_room_cells (P := Tryz.prog) w 39 o.type 5 i Tryz.underlying39 hi g 0 n cap ⟨sb, 0, none⟩ 1 c [.int .u8 b] (by simp [hz1]) hnews (by simp [Value.oneCell']) hroom
        (fun j hj => by
          simp only [List.length_cons, List.length_nil] at hj
          rw [hz1, cell_of_blk h1, Array.getElem?_eq_getElem (by omega)]; rfl)
        (fun j hj => by
          simp only [List.length_cons, List.length_nil] at hj
          simp only [World.frozen?, h1, Bool.and_eq_false_iff, decide_eq_false_iff_not]
          have := h4 (0 + n * i.size + j) (by rw [hz1]; omega)
          rw [Decidable.not_and_iff_or_not] at this
          exact this)
      refine ⟨g, cap, _, hrun, ?_, ?_⟩
      · have e : w.setCells g (0 + n * i.size) [.int .u8 b] = w.setCell ⟨g, n, none⟩ (.int .u8 b) := by rw [hz1, Nat.mul_one, Nat.zero_add]; rfl
        rw [e]
        refine ⟨hr.ge, by simp [hr.len], hroom, hr.max, _, fz, heap_setCell_same _ h1, by simp [h2], ?_, h4⟩
        rw [hul, Array.toList_setIfInBounds, List.take_succ_eq_append_getElem (by simp; omega), List.getElem_set_self, List.take_set_of_le (Nat.le_refl _), h3]
      · have e : w.setCells g (0 + n * i.size) [.int .u8 b] = w.setCell ⟨g, 0 + n * i.size, none⟩ (.int .u8 b) := rfl
        rw [e]
        exact Fr.setCell _ _ (by simp)
    · have hrun := run_append_grow (P := Tryz.prog) w 39 o.type 5 i (.int .u8 0) Tryz.underlying39 hi hz0 ⟨g, 0, none⟩ n cap (u8C l) (by rw [hcl, hz1, Nat.mul_one]) (fun j u hu => by rw [add_at]; exact hr.cell hu) ⟨sb, 0, none⟩ 1 c [.int .u8 b] (by simp [hz1]) hnews (by omega) (by omega) (growslice_fits (by omega) (by rw [hz2]; omega))
      have hge := grownCap_ge w (n + 1) cap 5
      have hcm := grownCap_le_maxLen w (n + 1) cap 5 (by simp only [maxLen]; omega)
      refine ⟨_, _, _, hrun, ⟨hb, by simp [hr.len], hge, by simp only [maxLen] at hcm; omega, _, (0, 0), heap_alloc_new w.drew _, ?_, ?_, fun j _ => by simp⟩, (Fr.drew _ _).trans (Fr.alloc _ _ _)⟩
      · have hz1' : (Value.int IntKind.u8 0).cells.size = 1 := rfl
        simp only [Array.size_append, List.size_toArray, size_zeroCells, hz1', hcl, List.length_cons, List.length_nil]
        omega
      · rw [hul]
        simp only [Array.toList_append]
        rw [List.take_left' (by simp [hr.len])]
  obtain ⟨g', cap', w', hrun, hr2, hf⟩ := key
  unfold Oper.wp execOp
  simp only [ho, resolve, invoke, builtin, Sem.run_bind, Sem.run_pure, Result.andThen_ok, List.map_toArray, List.map_cons, List.map_nil, hs, hx, hrun]
  exact h g' cap' w' hr2 hf

theorem wp_str_bytes {o : Oper} {a : Act} {w : World} {K : Act → World → Prop} {Q : Exit → Act → World → Prop} (x : Operand) (ho : o.op = .convert 9 39 x) (s : ByteArray) (hx : a.eval x = .string s) (hl : s.size ≤ 9223372036854775807) (base : Nat) (hb : base ≤ w.heap.size)
    (h : ∀ g cap w', RowB w' base g cap s.size (bI s.data.toList) → Fr [] w w' → K (a.put o.dst (.slice (some ⟨g, 0, none⟩) s.size cap)) w') : o.wp Tryz.prog a w K Q := by
  have hrun := Lib.run_convert_string_bytes (P := Tryz.prog) w 9 39 5 s Tryz.underlying9 Tryz.underlying39 Tryz.underlying5
  have hge := grownCap_ge w s.size 0 5
  have hcm := grownCap_le_maxLen w s.size 0 5 (by simp only [maxLen]; exact hl)
  have hz : (bytesCells w 5 s).size = grownCap w s.size 0 5 := by
    simp only [bytesCells, Array.size_append, Array.size_map, Array.size_replicate]
    have : s.data.size = s.size := rfl
    omega
  unfold Oper.wp execOp
  simp only [ho, Sem.run_bind, Sem.run_pure, Result.andThen_ok, hx, hrun]
  refine h _ _ _ ⟨hb, by rw [bI_len]; rfl, hge, by simp only [maxLen] at hcm; omega, _, _, bytesWorld_at_new w 5 s, hz, ?_, fun j hj => by rw [hz]; simp only; omega⟩ ⟨rfl, rfl, rfl, by rw [bytesWorld_size]; omega, fun k hk _ => bytesWorld_at_old w 5 s k hk⟩
  rw [u8C_bI, bytesCells, Array.toList_append, List.take_left' (by simp)]
  simp [byteCells]

end Go.Proofs.YtbogljpafpkikaaGreatDoor
