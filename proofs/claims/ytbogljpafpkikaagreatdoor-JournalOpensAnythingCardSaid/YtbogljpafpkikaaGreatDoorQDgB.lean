/-
  Arrays of words, further: a laid table, new arrays.
-/
import Derived.Test.YtbogljpafpkikaaGreatDoorQDgA
namespace Go.Proofs.YtbogljpafpkikaaGreatDoor
open Go.RowKit Go.Lib

/-- The table of words is laid. -/
def kLaid (w : World) (C : Array Value) : Prop := ∃ t fz, w.heap[3]? = some (.cells C t fz)
abbrev RndAt (w : World) : Prop := kLaid w (u32A kTab)
theorem RndAt.same {w W : World} {S : List Nat} (h : RndAt w) (hf : Fr S w W) (hS : 3 ∉ S) : RndAt W := by
  obtain ⟨t, fz, h⟩ := h
  exact ⟨t, fz, hf.keep h hS⟩
section
variable {t : TypeId} {n : Nat} {e : TypeId}
theorem wp_arr_loadG {o : Oper} {a : Act} {W : World} {K : Act → World → Prop} {Q : Exit → Act → World → Prop} {b : Nat} {C : Array Value} {t' : TypeId} {fz : Nat × Nat} (x : Operand) (hu : Tryz.prog.underlying t = some (.array n e)) (hi : (Tryz.prog.info? t).map (·.size) = some C.size) (ho : o.op = .load t x) (hx : a.eval x = .pointer (some ⟨b, 0, none⟩)) (h : W.heap[b]? = some (.cells C t' fz)) (hk : K (a.put o.dst (.agg C)) W) : o.wp Tryz.prog a W K Q := by
  unfold Oper.wp execOp
  simp only [ho, hx, Instr.loadAt, Instr.sureAddr, Sem.run_bind, Sem.run_pure, Result.andThen_ok, run_loadVar_row W b t' t C fz _ h hu rfl hi]
  exact hk
end

set_option maxRecDepth 100000 in
theorem w64_alloc {ev : Operand → Value} {o : Oper} {W : World} (ho : o.op = .alloc 207) : (execOp ev o).run Tryz.prog W = .ok (.value (.pointer (some ⟨W.heap.size, 0, none⟩))) (W.alloc (.cells (u32A (List.replicate 64 0)) 207)) := by
  unfold execOp
  simp only [ho]
  go_simp
  rfl
set_option maxRecDepth 100000 in
theorem w64_alloc_store {ops : Array Oper} {rest : List Oper} {a : Act} {W : World} {Q : Exit → Act → World → Prop} (o1 o2 : Oper) (p : Tmp) (y : Operand) (C : List Int) (hC : C.length = 64) (g1 : o1.guard = none) (h1 : o1.op = .alloc 207) (d1 : o1.dst = some p) (g2 : o2.guard = none) (h2 : o2.op = .store 207 (.tmp p) y) (d2 : o2.dst = none)
    (hx : ∀ v, (a.put (some p) v).eval (.tmp p) = v) (hy : ∀ v, (a.put (some p) v).eval y = .agg (u32A C)) (h : wpList Tryz.prog ops Q rest (a.put (some p) (.pointer (some ⟨W.heap.size, 0, none⟩))) (W.alloc (.cells (u32A C) 207))) : wpList Tryz.prog ops Q (o1 :: o2 :: rest) a W := by
  refine wpList_plain g1 fun K hK => ?_
  unfold Oper.wp
  rw [w64_alloc h1, Oper.upon_value, d1]
  refine hK _ _ (wpList_plain g2 fun K' hK' => ?_)
  have hi : (Tryz.prog.info? 207).map (·.size) = some (u32A C).size := by rw [u32A_size, hC]; kernel_rfl
  refine wp_store_row 207 _ y h2 W.heap.size (u32A C) (hx _) (hy _) 207 (u32A (List.replicate 64 0)) (heap_alloc_new W _) hi (by rw [u32A_size, u32A_size, hC]; rfl) (u32A_one _) ?_
  rw [World.setRow_alloc_new, d2]
  exact hK' _ _ h

end Go.Proofs.YtbogljpafpkikaaGreatDoor
