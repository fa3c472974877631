/-
  dialtoneref26: Call.
-/
import Derived.Test.YtkopnooajikpmaaGreatQFlR1
namespace Go.Proofs.YtkopnooajikpmaaGreat
open Go.RowKit Go.Lib

theorem tdiv_i64 (c : Int) (hc : I64 c) : I64 (c.tdiv 100) := by
  obtain ⟨h1, h2⟩ := hc
  by_cases h : 0 ≤ c
  · rw [Int.tdiv_eq_ediv_of_nonneg h]
    constructor <;> omega
  · have e : c.tdiv 100 = -((-c) / 100) := by
      rw [← Int.tdiv_eq_ediv_of_nonneg (by omega : 0 ≤ -c), Int.neg_tdiv, Int.neg_neg]
    rw [e]
    constructor <;> omega
def callC (a b c d e : Int) : Ca := ⟨pickI a 10, 100 + pickI b 5, pickI c 100 + 3600 * pickI (c.tdiv 100) 48, pickI d 4, pickI e 6, false⟩
theorem callC_ok (a b c d e : Int) : CaOk (callC a b c d e) := by
  have b1 := pickI_bound a 10 (by omega)
  have b2 := pickI_bound b 5 (by omega)
  have b3 := pickI_bound c 100 (by omega)
  have b4 := pickI_bound (c.tdiv 100) 48 (by omega)
  have b5 := pickI_bound d 4 (by omega)
  have b6 := pickI_bound e 6 (by omega)
  constructor <;> simp only [callC, I64] <;> omega
theorem callC_b (a b c d e : Int) : caB (callC a b c d e) = true := by
  have b1 := pickI_bound a 10 (by omega)
  have b2 := pickI_bound b 5 (by omega)
  have b3 := pickI_bound c 100 (by omega)
  have b4 := pickI_bound (c.tdiv 100) 48 (by omega)
  have b5 := pickI_bound d 4 (by omega)
  have b6 := pickI_bound e 6 (by omega)
  simp only [callC, caB, isInB, Bool.and_eq_true]
  refine ⟨⟨⟨⟨⟨?_, ?_⟩, ?_, ?_⟩, ?_, ?_⟩, ?_, ?_⟩, ?_, ?_⟩ <;> (apply decide_eq_true; omega)

set_option maxRecDepth 100000 in
set_option maxHeartbeats 20000000 in
theorem call26_c (a b c d e : Int) (w : World) (ha : I64 a) (hb : I64 b) (hc : I64 c) (hd : I64 d) (he : I64 e) : Calls Tryz.prog 30 #[.agg #[.int .i64 a, .int .i64 b, .int .i64 c, .int .i64 d, .int .i64 e]] w fun r w' => r = .returned (caV (callC a b c d e)) ∧ Fr [] w w' := by
  have hq : I64 (c.tdiv 100) := tdiv_i64 c hc
  have c1 := Lib.hid fun w => pick26_c a 10 w ha (by omega) (by omega)
  have c2 := Lib.hid fun w => pick26_c b 5 w hb (by omega) (by omega)
  have c3 := Lib.hid fun w => pick26_c c 100 w hc (by omega) (by omega)
  have c4 := Lib.hid fun w => pick26_c (c.tdiv 100) 48 w hq (by omega) (by omega)
  have c5 := Lib.hid fun w => pick26_c d 4 w hd (by omega) (by omega)
  have c6 := Lib.hid fun w => pick26_c e 6 w he (by omega) (by omega)
  have b2 := pickI_bound b 5 (by omega)
  have b3 := pickI_bound c 100 (by omega)
  have b4 := pickI_bound (c.tdiv 100) 48 (by omega)
  unfold callC
  obtain ⟨hc, hc'⟩ := hc
  obtain ⟨hq, hq'⟩ := hq
  generalize pickI a 10 = pa at *
  generalize pickI b 5 = pb at *
  generalize pickI c 100 = pc at *
  generalize pickI (c.tdiv 100) 48 = pq at *
  generalize pickI d 4 = pd at *
  generalize pickI e 6 = pe at *
  go_enter Tryz.func30, Tryz.ntmps30
  go_wp2_with fail
  have A2 := alloc2' w (.cells #[.int .i64 a, .int .i64 b, .int .i64 c, .int .i64 d, .int .i64 e] 59) (.cells #[.int .i64 0, .int .i64 0, .int .i64 0, .int .i64 0, .int .i64 0, .bool false] 68)
  refine reg_fin (fun W => W.cell? ⟨w.heap.size, 0, none⟩ = some (.int .i64 a) ∧ W.cell? ⟨w.heap.size, 1, none⟩ = some (.int .i64 b) ∧ W.cell? ⟨w.heap.size, 2, none⟩ = some (.int .i64 c) ∧ W.cell? ⟨w.heap.size, 3, none⟩ = some (.int .i64 d) ∧ W.cell? ⟨w.heap.size, 4, none⟩ = some (.int .i64 e)) 23 [0, 1, 3, 4, 7, 8, 10, 11, 12, 16, 17, 19, 20, 2, 5, 6, 9, 13, 14, 15, 18, 21, 22, 23] (by kernel_rfl) (by kernel_rfl) (by kernel_rfl) rfl ?_
  have S0 := (⟨cell_of_blk A2.1 0, cell_of_blk A2.1 1, cell_of_blk A2.1 2, cell_of_blk A2.1 3, cell_of_blk A2.1 4⟩ : _ ∧ _ ∧ _ ∧ _ ∧ _)
  refine fin_take (v := ?_) rfl rfl rfl rfl S0 (fun w hS => ?_) ?_
  rotate_left
  (focus (obtain ⟨s0, s1, s2, s3, s4⟩ := hS; go_simp; rfl))
  simp only [List.setIfInBounds_toArray, List.set_cons_succ, List.set_cons_zero]
  refine fin_take (v := ?_) rfl rfl rfl rfl S0 (fun w hS => ?_) ?_
  rotate_left
  (focus (obtain ⟨s0, s1, s2, s3, s4⟩ := hS; go_simp; rfl))
  simp only [List.setIfInBounds_toArray, List.set_cons_succ, List.set_cons_zero]
  refine fin_take (v := ?_) rfl rfl rfl rfl S0 (fun w hS => ?_) ?_
  rotate_left
  (focus (obtain ⟨s0, s1, s2, s3, s4⟩ := hS; go_simp; rfl))
  simp only [List.setIfInBounds_toArray, List.set_cons_succ, List.set_cons_zero]
  refine fin_take (v := ?_) rfl rfl rfl rfl S0 (fun w hS => ?_) ?_
  rotate_left
  (focus (obtain ⟨s0, s1, s2, s3, s4⟩ := hS; go_simp; rfl))
  simp only [List.setIfInBounds_toArray, List.set_cons_succ, List.set_cons_zero]
  refine fin_take (v := ?_) rfl rfl rfl rfl S0 (fun w hS => ?_) ?_
  rotate_left
  (focus (obtain ⟨s0, s1, s2, s3, s4⟩ := hS; go_simp; rfl))
  simp only [List.setIfInBounds_toArray, List.set_cons_succ, List.set_cons_zero]
  refine fin_take (v := ?_) rfl rfl rfl rfl S0 (fun w hS => ?_) ?_
  rotate_left
  (focus (obtain ⟨s0, s1, s2, s3, s4⟩ := hS; go_simp; rfl))
  simp only [List.setIfInBounds_toArray, List.set_cons_succ, List.set_cons_zero]
  refine fin_take (v := ?_) rfl rfl rfl rfl S0 (fun w hS => ?_) ?_
  rotate_left
  (focus (obtain ⟨s0, s1, s2, s3, s4⟩ := hS; go_simp; rfl))
  simp only [List.setIfInBounds_toArray, List.set_cons_succ, List.set_cons_zero]
  refine fin_take (v := ?_) rfl rfl rfl rfl S0 (fun w hS => ?_) ?_
  rotate_left
  (focus (obtain ⟨s0, s1, s2, s3, s4⟩ := hS; go_simp; rfl))
  simp only [List.setIfInBounds_toArray, List.set_cons_succ, List.set_cons_zero]
  refine fin_take (v := ?_) rfl rfl rfl rfl S0 (fun w hS => ?_) ?_
  rotate_left
  (focus (obtain ⟨s0, s1, s2, s3, s4⟩ := hS; go_simp; rw [IntWalk.i64_in (c.tdiv 100) (by omega)]))
  simp only [List.setIfInBounds_toArray, List.set_cons_succ, List.set_cons_zero]
  refine fin_take (v := ?_) rfl rfl rfl rfl S0 (fun w hS => ?_) ?_
  rotate_left
  (focus (obtain ⟨s0, s1, s2, s3, s4⟩ := hS; go_simp; rfl))
  simp only [List.setIfInBounds_toArray, List.set_cons_succ, List.set_cons_zero]
  refine fin_take (v := ?_) rfl rfl rfl rfl S0 (fun w hS => ?_) ?_
  rotate_left
  (focus (obtain ⟨s0, s1, s2, s3, s4⟩ := hS; go_simp; rfl))
  simp only [List.setIfInBounds_toArray, List.set_cons_succ, List.set_cons_zero]
  refine fin_take (v := ?_) rfl rfl rfl rfl S0 (fun w hS => ?_) ?_
  rotate_left
  (focus (obtain ⟨s0, s1, s2, s3, s4⟩ := hS; go_simp; rfl))
  simp only [List.setIfInBounds_toArray, List.set_cons_succ, List.set_cons_zero]
  refine fin_take (v := ?_) rfl rfl rfl rfl S0 (fun w hS => ?_) ?_
  rotate_left
  (focus (obtain ⟨s0, s1, s2, s3, s4⟩ := hS; go_simp; rfl))
  simp only [List.setIfInBounds_toArray, List.set_cons_succ, List.set_cons_zero]
  refine fin_do rfl rfl rfl (fun K hK => ?_)
  go_simp
  refine (c1.out _).mono ?_
  rintro r w1 ⟨rfl, rfl⟩
  refine hK _ _ S0 ?_
  clear hK K
  try simp only [Act.put, List.setIfInBounds_toArray, List.set_cons_succ, List.set_cons_zero]
  refine fin_do rfl rfl rfl (fun K hK => ?_)
  go_simp
  refine (c2.out _).mono ?_
  rintro r w1 ⟨rfl, rfl⟩
  refine hK _ _ S0 ?_
  clear hK K
  try simp only [Act.put, List.setIfInBounds_toArray, List.set_cons_succ, List.set_cons_zero]
  refine fin_take (v := ?_) rfl rfl rfl rfl S0 (fun w hS => ?_) ?_
  rotate_left
  (focus (obtain ⟨s0, s1, s2, s3, s4⟩ := hS; go_simp; rw [IntWalk.i64_in (100 + pb) (by omega)]))
  simp only [List.setIfInBounds_toArray, List.set_cons_succ, List.set_cons_zero]
  refine fin_do rfl rfl rfl (fun K hK => ?_)
  go_simp
  refine (c3.out _).mono ?_
  rintro r w1 ⟨rfl, rfl⟩
  refine hK _ _ S0 ?_
  clear hK K
  try simp only [Act.put, List.setIfInBounds_toArray, List.set_cons_succ, List.set_cons_zero]
  refine fin_do rfl rfl rfl (fun K hK => ?_)
  go_simp
  refine (c4.out _).mono ?_
  rintro r w1 ⟨rfl, rfl⟩
  refine hK _ _ S0 ?_
  clear hK K
  try simp only [Act.put, List.setIfInBounds_toArray, List.set_cons_succ, List.set_cons_zero]
  refine fin_take (v := ?_) rfl rfl rfl rfl S0 (fun w hS => ?_) ?_
  rotate_left
  (focus (obtain ⟨s0, s1, s2, s3, s4⟩ := hS; go_simp; rw [IntWalk.i64_in (3600 * pq) (by omega)]))
  simp only [List.setIfInBounds_toArray, List.set_cons_succ, List.set_cons_zero]
  refine fin_take (v := ?_) rfl rfl rfl rfl S0 (fun w hS => ?_) ?_
  rotate_left
  (focus (obtain ⟨s0, s1, s2, s3, s4⟩ := hS; go_simp; rw [IntWalk.i64_in (pc + 3600 * pq) (by omega)]))
  simp only [List.setIfInBounds_toArray, List.set_cons_succ, List.set_cons_zero]
  refine fin_do rfl rfl rfl (fun K hK => ?_)
  go_simp
  refine (c5.out _).mono ?_
  rintro r w1 ⟨rfl, rfl⟩
  refine hK _ _ S0 ?_
  clear hK K
  try simp only [Act.put, List.setIfInBounds_toArray, List.set_cons_succ, List.set_cons_zero]
  refine fin_do rfl rfl rfl (fun K hK => ?_)
  go_simp
  refine (c6.out _).mono ?_
  rintro r w1 ⟨rfl, rfl⟩
  refine hK _ _ S0 ?_
  clear hK K
  try simp only [Act.put, List.setIfInBounds_toArray, List.set_cons_succ, List.set_cons_zero]
  refine fin_take (v := ?_) rfl rfl rfl rfl S0 (fun w hS => ?_) ?_
  rotate_left
  (focus (obtain ⟨s0, s1, s2, s3, s4⟩ := hS; go_simp; rfl))
  simp only [List.setIfInBounds_toArray, List.set_cons_succ, List.set_cons_zero]
  have t0 := cell_of_blk A2.2 0
  have t1 := cell_of_blk A2.2 1
  have t2 := cell_of_blk A2.2 2
  have t3 := cell_of_blk A2.2 3
  have t4 := cell_of_blk A2.2 4
  have t5 := cell_of_blk A2.2 5
  refine fin_last rfl rfl rfl (fun K hK => ?_)
  go_simp
  refine hK _ _ ?_
  clear hK K
  clear t0 t1 t2 t3 t4 t5
  go_wp2_with fail
  go_returns
  exact ⟨rfl, ((Fr.alloc _ _ _).trans (Fr.alloc _ _ _)).trans (Fr.drew _ _)⟩

end Go.Proofs.YtkopnooajikpmaaGreat
