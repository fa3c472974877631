/-
  dialtoneref26: pick, Ints.
-/
import Derived.Test.YtahfpadaoobkfaaGreatDoorQS19
import Derived.Test.YtahfpadaoobkfaaGreatDoorQS33
import Derived.Test.YtahfpadaoobkfaaGreatDoorQS03
namespace Go.Proofs.YtahfpadaoobkfaaGreatDoor
open Go.RowKit Go.Lib

set_option maxHeartbeats 400000 in
theorem pick26_c (c n : Int) (w : World) (hc : I64 c) (hn : 1 ≤ n) (hn2 : n ≤ 9223372036854775807) :
    Calls Tryz.prog 54 #[.int .i64 c, .int .i64 n] w fun e w' => e = .returned (.int .i64 (pickI c n)) ∧ w = w' := by
  obtain ⟨hc, hc2⟩ := hc
  by_cases h : c < 0
  · have h1 : 0 ≤ -(c + 1) := by omega
    have e : pickI c n = (-(c + 1)).tmod n := by
      unfold pickI; rw [if_pos h, Int.tmod_eq_emod_of_nonneg h1]
    rw [e]
    go_enter Tryz.func54, Tryz.ntmps54
    go_wp2
    go_ret
    exact ⟨by simp, rfl⟩
  · have e : pickI c n = c % n := by unfold pickI; rw [if_neg h]
    rw [e]
    go_enter Tryz.func54, Tryz.ntmps54
    go_wp2
    go_ret
    exact ⟨rfl, rfl⟩
set_option maxHeartbeats 400000 in
theorem lawpick26_c (c n : Int) (w : World) (hc : I64 c) (hn : 1 ≤ n) (hn2 : n ≤ 9223372036854775807) :
    Calls Tryz.prog 14 #[.int .i64 c, .int .i64 n] w fun e w' => e = .returned (.int .i64 (pickI c n)) ∧ w = w' := by
  obtain ⟨hc, hc2⟩ := hc
  by_cases h : c < 0
  · have h1 : 0 ≤ -(c + 1) := by omega
    have e : pickI c n = (-(c + 1)).tmod n := by
      unfold pickI; rw [if_pos h, Int.tmod_eq_emod_of_nonneg h1]
    rw [e]
    go_enter Tryz.func14, Tryz.ntmps14
    go_wp2
    go_ret
    exact ⟨by simp, rfl⟩
  · have e : pickI c n = c % n := by unfold pickI; rw [if_neg h]
    rw [e]
    go_enter Tryz.func14, Tryz.ntmps14
    go_wp2
    go_ret
    exact ⟨rfl, rfl⟩
set_option maxRecDepth 100000 in
set_option maxHeartbeats 2000000 in
theorem ints26_c (va vb : Value) (la lb : List Int) (w : World) (ha : IntsAt w va la) (hb : IntsAt w vb lb) : Calls Tryz.prog 24 #[va, vb] w fun e w' => e = .returned (.bool (decide (la = lb))) ∧ Fr [] w w' := by
  obtain ⟨aa, pa, rfl⟩ := ha.val
  obtain ⟨ab, pb, rfl⟩ := hb.val
  have hal := ha.len
  have hbl := hb.len
  have HA := Lib.hid ha; have HB := Lib.hid hb; clear ha hb
  by_cases hll : la.length = lb.length
  · go_enter Tryz.func24, Tryz.ntmps24
    go_wp2_with fail
    go_loopw [5] (fun i wr => ∃ k : Nat, k ≤ la.length ∧ i = .int .i64 k ∧ Hid (la.take k = lb.take k ∧ Fr [] w wr)) (fun i _ => la.length - (intOf i).toNat)
    case atStart => exact ⟨0, Nat.zero_le _, rfl, Lib.hid ⟨rfl, Fr.refl _ _⟩⟩
    case round =>
      obtain ⟨k, hk, rfl, H⟩ := hrel
      by_cases hlt : k < la.length
      · obtain ⟨ba, oa, rfl, hca⟩ := HA.out.at_ (by omega)
        obtain ⟨bb, ob, rfl, hcb⟩ := HB.out.at_ (by omega)
        have hlb : k < lb.length := by omega
        have e1 : wr.cell? ⟨ba, oa + k, none⟩ = some (.int .i64 la[k]) := (World.cell?_of_block (H.out.2.block ba (World.block_lt_of_cell? w _ (hca k (.int .i64 la[k]) (by simp [hlt]))) (by simp))).trans (hca k _ (by simp [hlt]))
        have e2 : wr.cell? ⟨bb, ob + k, none⟩ = some (.int .i64 lb[k]) := (World.cell?_of_block (H.out.2.block bb (World.block_lt_of_cell? w _ (hcb k (.int .i64 lb[k]) (by simp [hlb]))) (by simp))).trans (hcb k _ (by simp [hlb]))
        have HT : Hid (la.take (k + 1) = la.take k ++ [la[k]] ∧ lb.take (k + 1) = lb.take k ++ [lb[k]]) := Lib.hid ⟨List.take_succ_eq_append_getElem hlt, List.take_succ_eq_append_getElem hlb⟩
        by_cases he : la[k] = lb[k]
        · have HE : Hid (la[k] = lb[k]) := Lib.hid he
          rw [← he] at e2
          generalize la[k] = x at *
          clear he hca hcb
          go_wp2_with (first | go_quiet (fail) | fail)
          refine ⟨⟨k + 1, by omega, by go_num, Lib.hid ⟨by rw [HT.out.1, HT.out.2, H.out.1, HE.out], H.out.2.trans (Fr.drewN _ _ _)⟩⟩, ?_⟩
          simp [intOf]; omega
        · have hne : la ≠ lb := fun h => he (by subst h; rfl)
          have hd : decide (la = lb) = false := by simp [hne]
          have he1 : (la[k] == lb[k]) = false := by simp [he]
          have he2 : (la[k] != lb[k]) = true := by simp [he]
          have HD := Lib.hid hd
          generalize la[k] = x at *
          generalize lb[k] = y at *
          clear he hca hcb hne hd
          go_wp2_with (first | go_quiet (fail) | fail)
          go_ret
          exact ⟨by rw [HD.out]; rfl, H.out.2.trans (Fr.drewN _ _ _)⟩
      · obtain rfl : k = la.length := by omega
        go_wp2_with fail
        go_ret
        have h1 := H.out.1
        rw [List.take_length, hll, List.take_length] at h1
        exact ⟨by simp [h1], H.out.2⟩
  · have hne : la ≠ lb := fun h => hll (by rw [h])
    have hd : decide (la = lb) = false := by simp [hne]
    have HD := Lib.hid hd
    have h2 : ¬ (la.length : Int) = lb.length := by omega
    have h3 : ((la.length : Int) == lb.length) = false := by simpa using h2
    have h4 : ((la.length : Int) != lb.length) = true := by simpa using h2
    clear hne hd
    go_enter Tryz.func24, Tryz.ntmps24
    go_wp2_with fail
    go_ret
    exact ⟨by rw [HD.out]; rfl, Fr.refl _ _⟩


end Go.Proofs.YtahfpadaoobkfaaGreatDoor

/-
  dialtoneref26: Condition.
-/
namespace Go.Proofs.YtahfpadaoobkfaaGreatDoor
open Go.RowKit Go.Lib

theorem inB_ {n lo hi : Int} (h : lo ≤ n) (h2 : n ≤ hi) : isInB n lo hi = true := by unfold isInB; rw [decide_eq_true h, decide_eq_true h2]; rfl
theorem cd1_b {p r : Int} (n : Bool) (h1 : 0 ≤ p) (h2 : p ≤ r) (h3 : r ≤ 3) : cdB ⟨1, p, r, n⟩ = true := by
  show (true && (isInB p 0 r && decide (r ≤ 3))) = true
  rw [inB_ h1 h2, decide_eq_true h3]; rfl
theorem cd2_b {p r : Int} (n : Bool) (h1 : 0 ≤ p) (h2 : p < r) (h3 : r ≤ 100000000) : cdB ⟨2, p, r, n⟩ = true := by
  show (true && (decide (0 ≤ p) && decide (p < r) && decide (r ≤ 100000000))) = true
  rw [decide_eq_true h1, decide_eq_true h2, decide_eq_true h3]; rfl
theorem cd3_b {p r : Int} (n : Bool) (h : p ≠ r) (h1 : 0 ≤ p) (h2 : p ≤ 86399) (h3 : 0 ≤ r) (h4 : r ≤ 86399) : cdB ⟨3, p, r, n⟩ = true := by
  show (true && (decide (p ≠ r) && isInB p 0 86399 && isInB r 0 86399)) = true
  rw [decide_eq_true h, inB_ h1 h2, inB_ h3 h4]; rfl
theorem cd4_b {p r : Int} (n : Bool) (h1 : 0 ≤ p) (h2 : p ≤ r) (h3 : r ≤ 5) : cdB ⟨4, p, r, n⟩ = true := by
  show (true && (isInB p 0 r && decide (r ≤ 5))) = true
  rw [inB_ h1 h2, decide_eq_true h3]; rfl
theorem cd5_b {p : Int} (n : Bool) (h1 : 0 ≤ p) (h2 : p ≤ 19) : cdB ⟨5, p, 0, n⟩ = true := by
  show (true && (isInB p 0 19 && true)) = true
  rw [inB_ h1 h2]; rfl

set_option maxRecDepth 100000 in
set_option maxHeartbeats 8000000 in
theorem cond26_c (a b c d : Int) (w : World) (ha : I64 a) (hb : I64 b) (hc : I64 c) (hd : I64 d) : Calls Tryz.prog 15 #[.agg #[.int .i64 a, .int .i64 b, .int .i64 c, .int .i64 d]] w fun r w' => ∃ x, r = .returned (cdV x) ∧ cdB x = true ∧ CdOk x ∧ Fr [] w w' := by
  have c1 := Lib.hid fun w => pick26_c a 5 w ha (by omega) (by omega)
  have c2 := Lib.hid fun w => pick26_c d 3 w hd (by omega) (by omega)
  have cb := Lib.hid fun n w h1 h2 => pick26_c b n w hb h1 h2
  have cc := Lib.hid fun n w h1 h2 => pick26_c c n w hc h1 h2
  have b1 := pickI_bound a 5 (by omega)
  generalize pickI a 5 = pa at *
  generalize pickI d 3 = pd at *
  go_enter Tryz.func15, Tryz.ntmps15
  go_wp2_with fail
  have A2 := alloc2' w (.cells #[.int .i64 a, .int .i64 b, .int .i64 c, .int .i64 d] 22) (.cells #[.int .i64 0, .int .i64 0, .int .i64 0, .bool false] 62)
  apply wp_one
  · refine reg_tree (fun W => W.heap[w.heap.size]? = some (.cells #[.int .i64 a, .int .i64 b, .int .i64 c, .int .i64 d] 22)) 10 (.take 0 (.take 1 (.take 4 (.take 5 (.two 2 9 (.take 3 (.two 6 9 (.take 7 (.take 8 (.one 9 (.one 10 .nil)))) (.one 6 (.take 7 (.take 8 (.one 10 .nil)))))) (.one 2 (.take 3 (.one 6 (.take 7 (.take 8 (.one 10 .nil))))))))))) (by kernel_rfl) (by kernel_rfl) (by kernel_rfl) rfl ?_
    have S0 := A2.1
    refine tree_take (v := ?_) rfl rfl rfl S0 (fun w hS => ?_) ?_
    rotate_left
    (focus (have s0 := cell_of_blk hS 0; have s3 := cell_of_blk hS 3; go_simp; rfl))
    simp only [List.setIfInBounds_toArray, List.set_cons_succ, List.set_cons_zero]
    refine tree_take (v := ?_) rfl rfl rfl S0 (fun w hS => ?_) ?_
    rotate_left
    (focus (have s0 := cell_of_blk hS 0; have s3 := cell_of_blk hS 3; go_simp; rfl))
    simp only [List.setIfInBounds_toArray, List.set_cons_succ, List.set_cons_zero]
    refine tree_take (v := ?_) rfl rfl rfl S0 (fun w hS => ?_) ?_
    rotate_left
    (focus (have s0 := cell_of_blk hS 0; have s3 := cell_of_blk hS 3; go_simp; rfl))
    simp only [List.setIfInBounds_toArray, List.set_cons_succ, List.set_cons_zero]
    refine tree_take (v := ?_) rfl rfl rfl S0 (fun w hS => ?_) ?_
    rotate_left
    (focus (have s0 := cell_of_blk hS 0; have s3 := cell_of_blk hS 3; go_simp; rfl))
    simp only [List.setIfInBounds_toArray, List.set_cons_succ, List.set_cons_zero]
    refine ⟨?_, ?_⟩
    · refine tree_op rfl rfl (fun K hK => ?_)
      go_simp
      refine (c1.out _).mono ?_
      rintro r w1 ⟨rfl, rfl⟩
      refine hK _ _ S0 ?_
      clear hK K
      try simp only [Act.put, List.setIfInBounds_toArray, List.set_cons_succ, List.set_cons_zero]
      refine tree_take (v := ?_) rfl rfl rfl S0 (fun w hS => ?_) ?_
      rotate_left
      (focus (have s0 := cell_of_blk hS 0; have s3 := cell_of_blk hS 3; go_simp; rw [IntWalk.i64_in (1 + pa) (by omega)]))
      simp only [List.setIfInBounds_toArray, List.set_cons_succ, List.set_cons_zero]
      refine ⟨?_, ?_⟩
      · refine tree_op rfl rfl (fun K hK => ?_)
        go_simp
        refine (c2.out _).mono ?_
        rintro r w1 ⟨rfl, rfl⟩
        refine hK _ _ S0 ?_
        clear hK K
        try simp only [Act.put, List.setIfInBounds_toArray, List.set_cons_succ, List.set_cons_zero]
        refine tree_take (v := ?_) rfl rfl rfl S0 (fun w hS => ?_) ?_
        rotate_left
        (focus (have s0 := cell_of_blk hS 0; have s3 := cell_of_blk hS 3; go_simp; rfl))
        simp only [List.setIfInBounds_toArray, List.set_cons_succ, List.set_cons_zero]
        refine tree_take (v := ?_) rfl rfl rfl S0 (fun w hS => ?_) ?_
        rotate_left
        (focus (have s0 := cell_of_blk hS 0; have s3 := cell_of_blk hS 3; go_simp; rfl))
        simp only [List.setIfInBounds_toArray, List.set_cons_succ, List.set_cons_zero]
        refine tree_one rfl rfl (fun K hK => ?_)
        go_simp
        refine hK _ _ (heap_alloc_old _ S0) ?_
        replace S0 := heap_alloc_old (.cells #[.int .i64 0, .int .i64 0, .int .i64 0, .bool false] 62) S0
        clear hK K
        try simp only [Act.put, List.setIfInBounds_toArray, List.set_cons_succ, List.set_cons_zero]
        refine tree_last rfl rfl (fun K hK => ?_)
        go_simp
        refine hK _ _ ?_
        clear hK K
        exact ⟨rfl, rfl, rfl⟩
      · refine tree_op rfl rfl (fun K hK => ?_)
        go_simp
        refine hK _ _ (heap_alloc_old _ S0) ?_
        replace S0 := heap_alloc_old (.cells #[.int .i64 0, .int .i64 0, .int .i64 0, .bool false] 62) S0
        clear hK K
        try simp only [Act.put, List.setIfInBounds_toArray, List.set_cons_succ, List.set_cons_zero]
        refine tree_one rfl rfl (fun K hK => ?_)
        go_simp
        refine (c2.out _).mono ?_
        rintro r w1 ⟨rfl, rfl⟩
        refine hK _ _ S0 ?_
        clear hK K
        try simp only [Act.put, List.setIfInBounds_toArray, List.set_cons_succ, List.set_cons_zero]
        refine tree_take (v := ?_) rfl rfl rfl S0 (fun w hS => ?_) ?_
        rotate_left
        (focus (have s0 := cell_of_blk hS 0; have s3 := cell_of_blk hS 3; go_simp; rfl))
        simp only [List.setIfInBounds_toArray, List.set_cons_succ, List.set_cons_zero]
        refine tree_take (v := ?_) rfl rfl rfl S0 (fun w hS => ?_) ?_
        rotate_left
        (focus (have s0 := cell_of_blk hS 0; have s3 := cell_of_blk hS 3; go_simp; rfl))
        simp only [List.setIfInBounds_toArray, List.set_cons_succ, List.set_cons_zero]
        refine tree_last rfl rfl (fun K hK => ?_)
        go_simp
        refine hK _ _ ?_
        clear hK K
        exact ⟨rfl, rfl, rfl⟩
    · refine tree_op rfl rfl (fun K hK => ?_)
      go_simp
      refine hK _ _ (heap_alloc_old _ S0) ?_
      replace S0 := heap_alloc_old (.cells #[.int .i64 0, .int .i64 0, .int .i64 0, .bool false] 62) S0
      clear hK K
      try simp only [Act.put, List.setIfInBounds_toArray, List.set_cons_succ, List.set_cons_zero]
      refine tree_one rfl rfl (fun K hK => ?_)
      go_simp
      refine (c1.out _).mono ?_
      rintro r w1 ⟨rfl, rfl⟩
      refine hK _ _ S0 ?_
      clear hK K
      try simp only [Act.put, List.setIfInBounds_toArray, List.set_cons_succ, List.set_cons_zero]
      refine tree_take (v := ?_) rfl rfl rfl S0 (fun w hS => ?_) ?_
      rotate_left
      (focus (have s0 := cell_of_blk hS 0; have s3 := cell_of_blk hS 3; go_simp; rw [IntWalk.i64_in (1 + pa) (by omega)]))
      simp only [List.setIfInBounds_toArray, List.set_cons_succ, List.set_cons_zero]
      refine tree_one rfl rfl (fun K hK => ?_)
      go_simp
      refine (c2.out _).mono ?_
      rintro r w1 ⟨rfl, rfl⟩
      refine hK _ _ S0 ?_
      clear hK K
      try simp only [Act.put, List.setIfInBounds_toArray, List.set_cons_succ, List.set_cons_zero]
      refine tree_take (v := ?_) rfl rfl rfl S0 (fun w hS => ?_) ?_
      rotate_left
      (focus (have s0 := cell_of_blk hS 0; have s3 := cell_of_blk hS 3; go_simp; rfl))
      simp only [List.setIfInBounds_toArray, List.set_cons_succ, List.set_cons_zero]
      refine tree_take (v := ?_) rfl rfl rfl S0 (fun w hS => ?_) ?_
      rotate_left
      (focus (have s0 := cell_of_blk hS 0; have s3 := cell_of_blk hS 3; go_simp; rfl))
      simp only [List.setIfInBounds_toArray, List.set_cons_succ, List.set_cons_zero]
      refine tree_last rfl rfl (fun K hK => ?_)
      go_simp
      refine hK _ _ ?_
      clear hK K
      exact ⟨rfl, rfl, rfl⟩
  have A3 : ∀ (x y z : Obj), (((w.alloc x).alloc y).alloc z).heap[w.heap.size]? = some x ∧ (((w.alloc x).alloc y).alloc z).heap[w.heap.size + 1]? = some y ∧ (((w.alloc x).alloc y).alloc z).heap[w.heap.size + 1 + 1]? = some z := fun x y z => by
    have h := alloc2' (w.alloc x) y z
    rw [show (w.alloc x).heap.size = w.heap.size + 1 from Array.size_push ..] at h
    exact ⟨heap_alloc_old _ (alloc2' w x y).1, h.1, h.2⟩
  have X012 := A3 (.cells #[.int .i64 a, .int .i64 b, .int .i64 c, .int .i64 d] 22) (.cells #[.int .i64 0, .int .i64 0, .int .i64 0, .bool false] 62) (.cells #[.int .i64 (1 + pa), .int .i64 0, .int .i64 0, .bool (pd == 2)] 62)
  have X0 : (((w.alloc (.cells #[.int .i64 a, .int .i64 b, .int .i64 c, .int .i64 d] 22)).alloc (.cells #[.int .i64 0, .int .i64 0, .int .i64 0, .bool false] 62)).alloc (.cells #[.int .i64 (1 + pa), .int .i64 0, .int .i64 0, .bool (pd == 2)] 62)).drew.heap[w.heap.size]? = some (.cells #[.int .i64 a, .int .i64 b, .int .i64 c, .int .i64 d] 22) := X012.1
  have X1 : (((w.alloc (.cells #[.int .i64 a, .int .i64 b, .int .i64 c, .int .i64 d] 22)).alloc (.cells #[.int .i64 0, .int .i64 0, .int .i64 0, .bool false] 62)).alloc (.cells #[.int .i64 (1 + pa), .int .i64 0, .int .i64 0, .bool (pd == 2)] 62)).drew.heap[w.heap.size + 1]? = some (.cells #[.int .i64 0, .int .i64 0, .int .i64 0, .bool false] 62) := X012.2.1
  have X2 : (((w.alloc (.cells #[.int .i64 a, .int .i64 b, .int .i64 c, .int .i64 d] 22)).alloc (.cells #[.int .i64 0, .int .i64 0, .int .i64 0, .bool false] 62)).alloc (.cells #[.int .i64 (1 + pa), .int .i64 0, .int .i64 0, .bool (pd == 2)] 62)).drew.heap[w.heap.size + 1 + 1]? = some (.cells #[.int .i64 (1 + pa), .int .i64 0, .int .i64 0, .bool (pd == 2)] 62) := X012.2.2
  clear X012
  have HF : Fr [] w (((w.alloc (.cells #[.int .i64 a, .int .i64 b, .int .i64 c, .int .i64 d] 22)).alloc (.cells #[.int .i64 0, .int .i64 0, .int .i64 0, .bool false] 62)).alloc (.cells #[.int .i64 (1 + pa), .int .i64 0, .int .i64 0, .bool (pd == 2)] 62)).drew := (((Fr.alloc _ _ _).trans (Fr.alloc _ _ _)).trans (Fr.alloc _ _ _)).trans (Fr.drew _ _)
  clear A3
  generalize (((w.alloc (.cells #[.int .i64 a, .int .i64 b, .int .i64 c, .int .i64 d] 22)).alloc (.cells #[.int .i64 0, .int .i64 0, .int .i64 0, .bool false] 62)).alloc (.cells #[.int .i64 (1 + pa), .int .i64 0, .int .i64 0, .bool (pd == 2)] 62)).drew = W at *
  clear c1 c2
  have b' := cell_of_blk X0 1
  have c' := cell_of_blk X0 2
  have x0 := cell_of_blk X2 0
  have x1 := cell_of_blk X2 1
  have y1 := free_of_blk X2 1
  have hk : pa = 0 ∨ pa = 1 ∨ pa = 2 ∨ pa = 3 ∨ pa = 4 := by omega
  rcases hk with rfl | rfl | rfl | rfl | rfl
  · have p1 := Lib.hid fun w => pick26_c b 4 w hb (by omega) (by omega)
    have bp := pickI_bound b 4 (by omega)
    generalize pickI b 4 = p at *
    have p2 := Lib.hid fun w => pick26_c c (4 - p) w hc (by omega) (by omega)
    have bq := pickI_bound c (4 - p) (by omega)
    generalize pickI c (4 - p) = q at *
    have S0 : (W.setCell ⟨w.heap.size + 1 + 1, 1, none⟩ (.int .i64 (p))).heap[w.heap.size]? = some (.cells #[.int .i64 a, .int .i64 b, .int .i64 c, .int .i64 d] 22) ∧ (W.setCell ⟨w.heap.size + 1 + 1, 1, none⟩ (.int .i64 (p))).heap[w.heap.size + 1 + 1]? = some (.cells #[.int .i64 1, .int .i64 (p), .int .i64 0, .bool (pd == 2)] 62) := ⟨(Fr.setCell (fp := [w.heap.size + 1 + 1]) _ _ (by simp)).keep (w := W) X0 (by simp; omega), heap_setCell_same (i := 1) _ X2⟩
    go_wp2_with fail
    refine (p1.out _).mono ?_
    rintro r w1 ⟨rfl, rfl⟩
    go_wp2_with fail
    refine reg_fin (fun W => W.heap[w.heap.size]? = some (.cells #[.int .i64 a, .int .i64 b, .int .i64 c, .int .i64 d] 22) ∧ W.heap[w.heap.size + 1 + 1]? = some (.cells #[.int .i64 1, .int .i64 (p), .int .i64 0, .bool (pd == 2)] 62)) 10 [0, 1, 2, 3, 4, 5, 6, 7, 8, 9, 10] (by kernel_rfl) (by kernel_rfl) (by kernel_rfl) rfl ?_
    refine fin_take (v := ?_) rfl rfl rfl rfl S0 (fun w hS => ?_) ?_
    rotate_left
    (focus (have s0 := cell_of_blk hS.1 2; have s1 := cell_of_blk hS.2 1; go_simp; rfl))
    simp only [List.setIfInBounds_toArray, List.set_cons_succ, List.set_cons_zero]
    refine fin_take (v := ?_) rfl rfl rfl rfl S0 (fun w hS => ?_) ?_
    rotate_left
    (focus (have s0 := cell_of_blk hS.1 2; have s1 := cell_of_blk hS.2 1; go_simp; rfl))
    simp only [List.setIfInBounds_toArray, List.set_cons_succ, List.set_cons_zero]
    refine fin_take (v := ?_) rfl rfl rfl rfl S0 (fun w hS => ?_) ?_
    rotate_left
    (focus (have s0 := cell_of_blk hS.1 2; have s1 := cell_of_blk hS.2 1; go_simp; rfl))
    simp only [List.setIfInBounds_toArray, List.set_cons_succ, List.set_cons_zero]
    refine fin_take (v := ?_) rfl rfl rfl rfl S0 (fun w hS => ?_) ?_
    rotate_left
    (focus (have s0 := cell_of_blk hS.1 2; have s1 := cell_of_blk hS.2 1; go_simp; rfl))
    simp only [List.setIfInBounds_toArray, List.set_cons_succ, List.set_cons_zero]
    refine fin_take (v := ?_) rfl rfl rfl rfl S0 (fun w hS => ?_) ?_
    rotate_left
    (focus (have s0 := cell_of_blk hS.1 2; have s1 := cell_of_blk hS.2 1; go_simp; rfl))
    simp only [List.setIfInBounds_toArray, List.set_cons_succ, List.set_cons_zero]
    refine fin_take (v := ?_) rfl rfl rfl rfl S0 (fun w hS => ?_) ?_
    rotate_left
    (focus (have s0 := cell_of_blk hS.1 2; have s1 := cell_of_blk hS.2 1; go_simp; rfl))
    simp only [List.setIfInBounds_toArray, List.set_cons_succ, List.set_cons_zero]
    refine fin_take (v := ?_) rfl rfl rfl rfl S0 (fun w hS => ?_) ?_
    rotate_left
    (focus (have s0 := cell_of_blk hS.1 2; have s1 := cell_of_blk hS.2 1; go_simp; rw [IntWalk.i64_in (4 - p) (by omega)]))
    simp only [List.setIfInBounds_toArray, List.set_cons_succ, List.set_cons_zero]
    refine fin_do rfl rfl rfl (fun K hK => ?_)
    go_simp
    refine (p2.out _).mono ?_
    rintro r w1 ⟨rfl, rfl⟩
    refine hK _ _ S0 ?_
    clear hK K
    try simp only [Act.put, List.setIfInBounds_toArray, List.set_cons_succ, List.set_cons_zero]
    refine fin_take (v := ?_) rfl rfl rfl rfl S0 (fun w hS => ?_) ?_
    rotate_left
    (focus (have s0 := cell_of_blk hS.1 2; have s1 := cell_of_blk hS.2 1; go_simp; rw [IntWalk.i64_in (p + q) (by omega)]))
    simp only [List.setIfInBounds_toArray, List.set_cons_succ, List.set_cons_zero]
    refine fin_take (v := ?_) rfl rfl rfl rfl S0 (fun w hS => ?_) ?_
    rotate_left
    (focus (have s0 := cell_of_blk hS.1 2; have s1 := cell_of_blk hS.2 1; go_simp; rfl))
    simp only [List.setIfInBounds_toArray, List.set_cons_succ, List.set_cons_zero]
    have t1 := cell_of_blk S0.2 2
    have y2 := free_of_blk S0.2 2
    refine fin_last rfl rfl rfl (fun K hK => ?_)
    go_simp
    refine hK _ _ ?_
    clear hK K
    have Z2 : ((W.setCell ⟨w.heap.size + 1 + 1, 1, none⟩ (.int .i64 (p))).setCell ⟨w.heap.size + 1 + 1, 2, none⟩ (.int .i64 (p + q))).drew.heap[w.heap.size + 1 + 1]? = some (.cells #[.int .i64 1, .int .i64 (p), .int .i64 (p + q), .bool (pd == 2)] 62) := heap_setCell_same (i := 2) _ S0.2
    have hF : Fr [w.heap.size + 1 + 1] W ((W.setCell ⟨w.heap.size + 1 + 1, 1, none⟩ (.int .i64 (p))).setCell ⟨w.heap.size + 1 + 1, 2, none⟩ (.int .i64 (p + q))).drew := ((Fr.setCell _ _ (by simp)).trans (Fr.setCell _ _ (by simp))).trans (Fr.drew _ _)
    have Z1 := hF.keep X1 (by simp)
    have HF2 : Fr [] w ((W.setCell ⟨w.heap.size + 1 + 1, 1, none⟩ (.int .i64 (p))).setCell ⟨w.heap.size + 1 + 1, 2, none⟩ (.int .i64 (p + q))).drew := HF.step hF (fun i hi => by simp at hi; exact .inr (by omega))
    have z0 := cell_of_blk Z2 0
    have z1 := cell_of_blk Z2 1
    have z2 := cell_of_blk Z2 2
    have z3 := cell_of_blk Z2 3
    have u0 := cell_of_blk Z1 0
    have u1 := cell_of_blk Z1 1
    have u2 := cell_of_blk Z1 2
    have u3 := cell_of_blk Z1 3
    have v0 := free_of_blk Z1 0
    have v1 := free_of_blk Z1 1
    have v2 := free_of_blk Z1 2
    have v3 := free_of_blk Z1 3
    clear S0 t1 y2
    clear b' c' x0 x1 y1 X0 X1 X2 HF hF
    generalize ((W.setCell ⟨w.heap.size + 1 + 1, 1, none⟩ (.int .i64 (p))).setCell ⟨w.heap.size + 1 + 1, 2, none⟩ (.int .i64 (p + q))).drew = W2 at *
    clear Z2
    have ZH := Lib.hid Z1
    clear Z1
    go_wp2_with fail
    obtain ⟨KS, FS⟩ := set4 ZH.out (.int .i64 1) (.int .i64 (p)) (.int .i64 (p + q)) (.bool (pd == 2))
    have FZ := HF2.step FS (fun i hi => by simp at hi; exact .inr (by omega))
    generalize (((W2.setCell ⟨w.heap.size + 1, 0, none⟩ (.int .i64 1)).setCell ⟨w.heap.size + 1, 1, none⟩ (.int .i64 (p))).setCell ⟨w.heap.size + 1, 2, none⟩ (.int .i64 (p + q))).setCell ⟨w.heap.size + 1, 3, none⟩ (.bool (pd == 2)) = W3 at *
    have k0 := cell_of_blk KS 0
    have k1 := cell_of_blk KS 1
    have k2 := cell_of_blk KS 2
    have k3 := cell_of_blk KS 3
    refine bodyPost_ret (by simp [results, Tryz.results15, go_sem, k0, k1, k2, k3]; try rfl) rfl ?_
    exact ⟨⟨1, p, p + q, pd == 2⟩, rfl, cd1_b _ (by omega) (by omega) (by omega), ⟨by constructor <;> simp only <;> omega, by constructor <;> simp only <;> omega, by constructor <;> simp only <;> omega⟩, FZ⟩
  · have p1 := Lib.hid fun w => pick26_c b 10 w hb (by omega) (by omega)
    have bp := pickI_bound b 10 (by omega)
    generalize pickI b 10 = p at *
    have p2 := Lib.hid fun w => pick26_c c (10) w hc (by omega) (by omega)
    have bq := pickI_bound c (10) (by omega)
    generalize pickI c (10) = q at *
    have S0 : (W.setCell ⟨w.heap.size + 1 + 1, 1, none⟩ (.int .i64 (p))).heap[w.heap.size]? = some (.cells #[.int .i64 a, .int .i64 b, .int .i64 c, .int .i64 d] 22) ∧ (W.setCell ⟨w.heap.size + 1 + 1, 1, none⟩ (.int .i64 (p))).heap[w.heap.size + 1 + 1]? = some (.cells #[.int .i64 2, .int .i64 (p), .int .i64 0, .bool (pd == 2)] 62) := ⟨(Fr.setCell (fp := [w.heap.size + 1 + 1]) _ _ (by simp)).keep (w := W) X0 (by simp; omega), heap_setCell_same (i := 1) _ X2⟩
    go_wp2_with fail
    refine (p1.out _).mono ?_
    rintro r w1 ⟨rfl, rfl⟩
    go_wp2_with fail
    refine reg_fin (fun W => W.heap[w.heap.size]? = some (.cells #[.int .i64 a, .int .i64 b, .int .i64 c, .int .i64 d] 22) ∧ W.heap[w.heap.size + 1 + 1]? = some (.cells #[.int .i64 2, .int .i64 (p), .int .i64 0, .bool (pd == 2)] 62)) 8 [0, 1, 2, 3, 4, 5, 6, 7, 8] (by kernel_rfl) (by kernel_rfl) (by kernel_rfl) rfl ?_
    refine fin_take (v := ?_) rfl rfl rfl rfl S0 (fun w hS => ?_) ?_
    rotate_left
    (focus (have s0 := cell_of_blk hS.1 2; have s1 := cell_of_blk hS.2 1; go_simp; rfl))
    simp only [List.setIfInBounds_toArray, List.set_cons_succ, List.set_cons_zero]
    refine fin_take (v := ?_) rfl rfl rfl rfl S0 (fun w hS => ?_) ?_
    rotate_left
    (focus (have s0 := cell_of_blk hS.1 2; have s1 := cell_of_blk hS.2 1; go_simp; rfl))
    simp only [List.setIfInBounds_toArray, List.set_cons_succ, List.set_cons_zero]
    refine fin_take (v := ?_) rfl rfl rfl rfl S0 (fun w hS => ?_) ?_
    rotate_left
    (focus (have s0 := cell_of_blk hS.1 2; have s1 := cell_of_blk hS.2 1; go_simp; rw [IntWalk.i64_in (p + 1) (by omega)]))
    simp only [List.setIfInBounds_toArray, List.set_cons_succ, List.set_cons_zero]
    refine fin_take (v := ?_) rfl rfl rfl rfl S0 (fun w hS => ?_) ?_
    rotate_left
    (focus (have s0 := cell_of_blk hS.1 2; have s1 := cell_of_blk hS.2 1; go_simp; rfl))
    simp only [List.setIfInBounds_toArray, List.set_cons_succ, List.set_cons_zero]
    refine fin_take (v := ?_) rfl rfl rfl rfl S0 (fun w hS => ?_) ?_
    rotate_left
    (focus (have s0 := cell_of_blk hS.1 2; have s1 := cell_of_blk hS.2 1; go_simp; rfl))
    simp only [List.setIfInBounds_toArray, List.set_cons_succ, List.set_cons_zero]
    refine fin_do rfl rfl rfl (fun K hK => ?_)
    go_simp
    refine (p2.out _).mono ?_
    rintro r w1 ⟨rfl, rfl⟩
    refine hK _ _ S0 ?_
    clear hK K
    try simp only [Act.put, List.setIfInBounds_toArray, List.set_cons_succ, List.set_cons_zero]
    refine fin_take (v := ?_) rfl rfl rfl rfl S0 (fun w hS => ?_) ?_
    rotate_left
    (focus (have s0 := cell_of_blk hS.1 2; have s1 := cell_of_blk hS.2 1; go_simp; rw [IntWalk.i64_in (p + 1 + q) (by omega)]))
    simp only [List.setIfInBounds_toArray, List.set_cons_succ, List.set_cons_zero]
    refine fin_take (v := ?_) rfl rfl rfl rfl S0 (fun w hS => ?_) ?_
    rotate_left
    (focus (have s0 := cell_of_blk hS.1 2; have s1 := cell_of_blk hS.2 1; go_simp; rfl))
    simp only [List.setIfInBounds_toArray, List.set_cons_succ, List.set_cons_zero]
    have t1 := cell_of_blk S0.2 2
    have y2 := free_of_blk S0.2 2
    refine fin_last rfl rfl rfl (fun K hK => ?_)
    go_simp
    refine hK _ _ ?_
    clear hK K
    have Z2 : ((W.setCell ⟨w.heap.size + 1 + 1, 1, none⟩ (.int .i64 (p))).setCell ⟨w.heap.size + 1 + 1, 2, none⟩ (.int .i64 (p + 1 + q))).drew.heap[w.heap.size + 1 + 1]? = some (.cells #[.int .i64 2, .int .i64 (p), .int .i64 (p + 1 + q), .bool (pd == 2)] 62) := heap_setCell_same (i := 2) _ S0.2
    have hF : Fr [w.heap.size + 1 + 1] W ((W.setCell ⟨w.heap.size + 1 + 1, 1, none⟩ (.int .i64 (p))).setCell ⟨w.heap.size + 1 + 1, 2, none⟩ (.int .i64 (p + 1 + q))).drew := ((Fr.setCell _ _ (by simp)).trans (Fr.setCell _ _ (by simp))).trans (Fr.drew _ _)
    have Z1 := hF.keep X1 (by simp)
    have HF2 : Fr [] w ((W.setCell ⟨w.heap.size + 1 + 1, 1, none⟩ (.int .i64 (p))).setCell ⟨w.heap.size + 1 + 1, 2, none⟩ (.int .i64 (p + 1 + q))).drew := HF.step hF (fun i hi => by simp at hi; exact .inr (by omega))
    have z0 := cell_of_blk Z2 0
    have z1 := cell_of_blk Z2 1
    have z2 := cell_of_blk Z2 2
    have z3 := cell_of_blk Z2 3
    have u0 := cell_of_blk Z1 0
    have u1 := cell_of_blk Z1 1
    have u2 := cell_of_blk Z1 2
    have u3 := cell_of_blk Z1 3
    have v0 := free_of_blk Z1 0
    have v1 := free_of_blk Z1 1
    have v2 := free_of_blk Z1 2
    have v3 := free_of_blk Z1 3
    clear S0 t1 y2
    clear b' c' x0 x1 y1 X0 X1 X2 HF hF
    generalize ((W.setCell ⟨w.heap.size + 1 + 1, 1, none⟩ (.int .i64 (p))).setCell ⟨w.heap.size + 1 + 1, 2, none⟩ (.int .i64 (p + 1 + q))).drew = W2 at *
    clear Z2
    have ZH := Lib.hid Z1
    clear Z1
    go_wp2_with fail
    obtain ⟨KS, FS⟩ := set4 ZH.out (.int .i64 2) (.int .i64 (p)) (.int .i64 (p + 1 + q)) (.bool (pd == 2))
    have FZ := HF2.step FS (fun i hi => by simp at hi; exact .inr (by omega))
    generalize (((W2.setCell ⟨w.heap.size + 1, 0, none⟩ (.int .i64 2)).setCell ⟨w.heap.size + 1, 1, none⟩ (.int .i64 (p))).setCell ⟨w.heap.size + 1, 2, none⟩ (.int .i64 (p + 1 + q))).setCell ⟨w.heap.size + 1, 3, none⟩ (.bool (pd == 2)) = W3 at *
    have k0 := cell_of_blk KS 0
    have k1 := cell_of_blk KS 1
    have k2 := cell_of_blk KS 2
    have k3 := cell_of_blk KS 3
    refine bodyPost_ret (by simp [results, Tryz.results15, go_sem, k0, k1, k2, k3]; try rfl) rfl ?_
    exact ⟨⟨2, p, p + 1 + q, pd == 2⟩, rfl, cd2_b _ (by omega) (by omega) (by omega), ⟨by constructor <;> simp only <;> omega, by constructor <;> simp only <;> omega, by constructor <;> simp only <;> omega⟩, FZ⟩
  · have p1 := Lib.hid fun w => pick26_c b 24 w hb (by omega) (by omega)
    have bp := pickI_bound b 24 (by omega)
    generalize pickI b 24 = p at *
    have p2 := Lib.hid fun w => pick26_c c (23) w hc (by omega) (by omega)
    have bq := pickI_bound c (23) (by omega)
    generalize pickI c (23) = q at *
    have S0 : (W.setCell ⟨w.heap.size + 1 + 1, 1, none⟩ (.int .i64 (3600 * p))).heap[w.heap.size]? = some (.cells #[.int .i64 a, .int .i64 b, .int .i64 c, .int .i64 d] 22) ∧ (W.setCell ⟨w.heap.size + 1 + 1, 1, none⟩ (.int .i64 (3600 * p))).heap[w.heap.size + 1 + 1]? = some (.cells #[.int .i64 3, .int .i64 (3600 * p), .int .i64 0, .bool (pd == 2)] 62) := ⟨(Fr.setCell (fp := [w.heap.size + 1 + 1]) _ _ (by simp)).keep (w := W) X0 (by simp; omega), heap_setCell_same (i := 1) _ X2⟩
    go_wp2_with fail
    refine (p1.out _).mono ?_
    rintro r w1 ⟨rfl, rfl⟩
    go_wp2_with fail
    refine reg_fin (fun W => W.heap[w.heap.size]? = some (.cells #[.int .i64 a, .int .i64 b, .int .i64 c, .int .i64 d] 22) ∧ W.heap[w.heap.size + 1 + 1]? = some (.cells #[.int .i64 3, .int .i64 (3600 * p), .int .i64 0, .bool (pd == 2)] 62)) 10 [0, 1, 2, 3, 4, 5, 6, 7, 8, 9, 10] (by kernel_rfl) (by kernel_rfl) (by kernel_rfl) rfl ?_
    refine fin_take (v := ?_) rfl rfl rfl rfl S0 (fun w hS => ?_) ?_
    rotate_left
    (focus (have s0 := cell_of_blk hS.1 2; have s1 := cell_of_blk hS.2 1; go_simp; rfl))
    simp only [List.setIfInBounds_toArray, List.set_cons_succ, List.set_cons_zero]
    refine fin_take (v := ?_) rfl rfl rfl rfl S0 (fun w hS => ?_) ?_
    rotate_left
    (focus (have s0 := cell_of_blk hS.1 2; have s1 := cell_of_blk hS.2 1; go_simp; rfl))
    simp only [List.setIfInBounds_toArray, List.set_cons_succ, List.set_cons_zero]
    refine fin_take (v := ?_) rfl rfl rfl rfl S0 (fun w hS => ?_) ?_
    rotate_left
    (focus (have s0 := cell_of_blk hS.1 2; have s1 := cell_of_blk hS.2 1; go_simp; rfl))
    simp only [List.setIfInBounds_toArray, List.set_cons_succ, List.set_cons_zero]
    refine fin_take (v := ?_) rfl rfl rfl rfl S0 (fun w hS => ?_) ?_
    rotate_left
    (focus (have s0 := cell_of_blk hS.1 2; have s1 := cell_of_blk hS.2 1; go_simp; rfl))
    simp only [List.setIfInBounds_toArray, List.set_cons_succ, List.set_cons_zero]
    refine fin_do rfl rfl rfl (fun K hK => ?_)
    go_simp
    refine (p2.out _).mono ?_
    rintro r w1 ⟨rfl, rfl⟩
    refine hK _ _ S0 ?_
    clear hK K
    try simp only [Act.put, List.setIfInBounds_toArray, List.set_cons_succ, List.set_cons_zero]
    refine fin_take (v := ?_) rfl rfl rfl rfl S0 (fun w hS => ?_) ?_
    rotate_left
    (focus (have s0 := cell_of_blk hS.1 2; have s1 := cell_of_blk hS.2 1; go_simp; rw [IntWalk.i64_in (1 + q) (by omega)]))
    simp only [List.setIfInBounds_toArray, List.set_cons_succ, List.set_cons_zero]
    refine fin_take (v := ?_) rfl rfl rfl rfl S0 (fun w hS => ?_) ?_
    rotate_left
    (focus (have s0 := cell_of_blk hS.1 2; have s1 := cell_of_blk hS.2 1; go_simp; rw [IntWalk.i64_in (3600 * (1 + q)) (by omega)]))
    simp only [List.setIfInBounds_toArray, List.set_cons_succ, List.set_cons_zero]
    refine fin_take (v := ?_) rfl rfl rfl rfl S0 (fun w hS => ?_) ?_
    rotate_left
    (focus (have s0 := cell_of_blk hS.1 2; have s1 := cell_of_blk hS.2 1; go_simp; rw [IntWalk.i64_in (3600 * p + 3600 * (1 + q)) (by omega)]))
    simp only [List.setIfInBounds_toArray, List.set_cons_succ, List.set_cons_zero]
    refine fin_take (v := ?_) rfl rfl rfl rfl S0 (fun w hS => ?_) ?_
    rotate_left
    (focus (have s0 := cell_of_blk hS.1 2; have s1 := cell_of_blk hS.2 1; go_simp; rw [Int.tmod_eq_emod_of_nonneg (show 0 ≤ 3600 * p + 3600 * (1 + q) by omega)]))
    simp only [List.setIfInBounds_toArray, List.set_cons_succ, List.set_cons_zero]
    refine fin_take (v := ?_) rfl rfl rfl rfl S0 (fun w hS => ?_) ?_
    rotate_left
    (focus (have s0 := cell_of_blk hS.1 2; have s1 := cell_of_blk hS.2 1; go_simp; rfl))
    simp only [List.setIfInBounds_toArray, List.set_cons_succ, List.set_cons_zero]
    have t1 := cell_of_blk S0.2 2
    have y2 := free_of_blk S0.2 2
    refine fin_last rfl rfl rfl (fun K hK => ?_)
    go_simp
    refine hK _ _ ?_
    clear hK K
    have Z2 : ((W.setCell ⟨w.heap.size + 1 + 1, 1, none⟩ (.int .i64 (3600 * p))).setCell ⟨w.heap.size + 1 + 1, 2, none⟩ (.int .i64 ((3600 * p + 3600 * (1 + q)) % 86400))).drew.heap[w.heap.size + 1 + 1]? = some (.cells #[.int .i64 3, .int .i64 (3600 * p), .int .i64 ((3600 * p + 3600 * (1 + q)) % 86400), .bool (pd == 2)] 62) := heap_setCell_same (i := 2) _ S0.2
    have hF : Fr [w.heap.size + 1 + 1] W ((W.setCell ⟨w.heap.size + 1 + 1, 1, none⟩ (.int .i64 (3600 * p))).setCell ⟨w.heap.size + 1 + 1, 2, none⟩ (.int .i64 ((3600 * p + 3600 * (1 + q)) % 86400))).drew := ((Fr.setCell _ _ (by simp)).trans (Fr.setCell _ _ (by simp))).trans (Fr.drew _ _)
    have Z1 := hF.keep X1 (by simp)
    have HF2 : Fr [] w ((W.setCell ⟨w.heap.size + 1 + 1, 1, none⟩ (.int .i64 (3600 * p))).setCell ⟨w.heap.size + 1 + 1, 2, none⟩ (.int .i64 ((3600 * p + 3600 * (1 + q)) % 86400))).drew := HF.step hF (fun i hi => by simp at hi; exact .inr (by omega))
    have z0 := cell_of_blk Z2 0
    have z1 := cell_of_blk Z2 1
    have z2 := cell_of_blk Z2 2
    have z3 := cell_of_blk Z2 3
    have u0 := cell_of_blk Z1 0
    have u1 := cell_of_blk Z1 1
    have u2 := cell_of_blk Z1 2
    have u3 := cell_of_blk Z1 3
    have v0 := free_of_blk Z1 0
    have v1 := free_of_blk Z1 1
    have v2 := free_of_blk Z1 2
    have v3 := free_of_blk Z1 3
    clear S0 t1 y2
    clear b' c' x0 x1 y1 X0 X1 X2 HF hF
    generalize ((W.setCell ⟨w.heap.size + 1 + 1, 1, none⟩ (.int .i64 (3600 * p))).setCell ⟨w.heap.size + 1 + 1, 2, none⟩ (.int .i64 ((3600 * p + 3600 * (1 + q)) % 86400))).drew = W2 at *
    clear Z2
    have ZH := Lib.hid Z1
    clear Z1
    go_wp2_with fail
    obtain ⟨KS, FS⟩ := set4 ZH.out (.int .i64 3) (.int .i64 (3600 * p)) (.int .i64 ((3600 * p + 3600 * (1 + q)) % 86400)) (.bool (pd == 2))
    have FZ := HF2.step FS (fun i hi => by simp at hi; exact .inr (by omega))
    generalize (((W2.setCell ⟨w.heap.size + 1, 0, none⟩ (.int .i64 3)).setCell ⟨w.heap.size + 1, 1, none⟩ (.int .i64 (3600 * p))).setCell ⟨w.heap.size + 1, 2, none⟩ (.int .i64 ((3600 * p + 3600 * (1 + q)) % 86400))).setCell ⟨w.heap.size + 1, 3, none⟩ (.bool (pd == 2)) = W3 at *
    have k0 := cell_of_blk KS 0
    have k1 := cell_of_blk KS 1
    have k2 := cell_of_blk KS 2
    have k3 := cell_of_blk KS 3
    refine bodyPost_ret (by simp [results, Tryz.results15, go_sem, k0, k1, k2, k3]; try rfl) rfl ?_
    exact ⟨⟨3, 3600 * p, (3600 * p + 3600 * (1 + q)) % 86400, pd == 2⟩, rfl, cd3_b _ (by omega) (by omega) (by omega) (by omega) (by omega), ⟨by constructor <;> simp only <;> omega, by constructor <;> simp only <;> omega, by constructor <;> simp only <;> omega⟩, FZ⟩
  · have p1 := Lib.hid fun w => pick26_c b 6 w hb (by omega) (by omega)
    have bp := pickI_bound b 6 (by omega)
    generalize pickI b 6 = p at *
    have p2 := Lib.hid fun w => pick26_c c (6 - p) w hc (by omega) (by omega)
    have bq := pickI_bound c (6 - p) (by omega)
    generalize pickI c (6 - p) = q at *
    have S0 : (W.setCell ⟨w.heap.size + 1 + 1, 1, none⟩ (.int .i64 (p))).heap[w.heap.size]? = some (.cells #[.int .i64 a, .int .i64 b, .int .i64 c, .int .i64 d] 22) ∧ (W.setCell ⟨w.heap.size + 1 + 1, 1, none⟩ (.int .i64 (p))).heap[w.heap.size + 1 + 1]? = some (.cells #[.int .i64 4, .int .i64 (p), .int .i64 0, .bool (pd == 2)] 62) := ⟨(Fr.setCell (fp := [w.heap.size + 1 + 1]) _ _ (by simp)).keep (w := W) X0 (by simp; omega), heap_setCell_same (i := 1) _ X2⟩
    go_wp2_with fail
    refine (p1.out _).mono ?_
    rintro r w1 ⟨rfl, rfl⟩
    go_wp2_with fail
    refine reg_fin (fun W => W.heap[w.heap.size]? = some (.cells #[.int .i64 a, .int .i64 b, .int .i64 c, .int .i64 d] 22) ∧ W.heap[w.heap.size + 1 + 1]? = some (.cells #[.int .i64 4, .int .i64 (p), .int .i64 0, .bool (pd == 2)] 62)) 10 [0, 1, 2, 3, 4, 5, 6, 7, 8, 9, 10] (by kernel_rfl) (by kernel_rfl) (by kernel_rfl) rfl ?_
    refine fin_take (v := ?_) rfl rfl rfl rfl S0 (fun w hS => ?_) ?_
    rotate_left
    (focus (have s0 := cell_of_blk hS.1 2; have s1 := cell_of_blk hS.2 1; go_simp; rfl))
    simp only [List.setIfInBounds_toArray, List.set_cons_succ, List.set_cons_zero]
    refine fin_take (v := ?_) rfl rfl rfl rfl S0 (fun w hS => ?_) ?_
    rotate_left
    (focus (have s0 := cell_of_blk hS.1 2; have s1 := cell_of_blk hS.2 1; go_simp; rfl))
    simp only [List.setIfInBounds_toArray, List.set_cons_succ, List.set_cons_zero]
    refine fin_take (v := ?_) rfl rfl rfl rfl S0 (fun w hS => ?_) ?_
    rotate_left
    (focus (have s0 := cell_of_blk hS.1 2; have s1 := cell_of_blk hS.2 1; go_simp; rfl))
    simp only [List.setIfInBounds_toArray, List.set_cons_succ, List.set_cons_zero]
    refine fin_take (v := ?_) rfl rfl rfl rfl S0 (fun w hS => ?_) ?_
    rotate_left
    (focus (have s0 := cell_of_blk hS.1 2; have s1 := cell_of_blk hS.2 1; go_simp; rfl))
    simp only [List.setIfInBounds_toArray, List.set_cons_succ, List.set_cons_zero]
    refine fin_take (v := ?_) rfl rfl rfl rfl S0 (fun w hS => ?_) ?_
    rotate_left
    (focus (have s0 := cell_of_blk hS.1 2; have s1 := cell_of_blk hS.2 1; go_simp; rfl))
    simp only [List.setIfInBounds_toArray, List.set_cons_succ, List.set_cons_zero]
    refine fin_take (v := ?_) rfl rfl rfl rfl S0 (fun w hS => ?_) ?_
    rotate_left
    (focus (have s0 := cell_of_blk hS.1 2; have s1 := cell_of_blk hS.2 1; go_simp; rfl))
    simp only [List.setIfInBounds_toArray, List.set_cons_succ, List.set_cons_zero]
    refine fin_take (v := ?_) rfl rfl rfl rfl S0 (fun w hS => ?_) ?_
    rotate_left
    (focus (have s0 := cell_of_blk hS.1 2; have s1 := cell_of_blk hS.2 1; go_simp; rw [IntWalk.i64_in (6 - p) (by omega)]))
    simp only [List.setIfInBounds_toArray, List.set_cons_succ, List.set_cons_zero]
    refine fin_do rfl rfl rfl (fun K hK => ?_)
    go_simp
    refine (p2.out _).mono ?_
    rintro r w1 ⟨rfl, rfl⟩
    refine hK _ _ S0 ?_
    clear hK K
    try simp only [Act.put, List.setIfInBounds_toArray, List.set_cons_succ, List.set_cons_zero]
    refine fin_take (v := ?_) rfl rfl rfl rfl S0 (fun w hS => ?_) ?_
    rotate_left
    (focus (have s0 := cell_of_blk hS.1 2; have s1 := cell_of_blk hS.2 1; go_simp; rw [IntWalk.i64_in (p + q) (by omega)]))
    simp only [List.setIfInBounds_toArray, List.set_cons_succ, List.set_cons_zero]
    refine fin_take (v := ?_) rfl rfl rfl rfl S0 (fun w hS => ?_) ?_
    rotate_left
    (focus (have s0 := cell_of_blk hS.1 2; have s1 := cell_of_blk hS.2 1; go_simp; rfl))
    simp only [List.setIfInBounds_toArray, List.set_cons_succ, List.set_cons_zero]
    have t1 := cell_of_blk S0.2 2
    have y2 := free_of_blk S0.2 2
    refine fin_last rfl rfl rfl (fun K hK => ?_)
    go_simp
    refine hK _ _ ?_
    clear hK K
    have Z2 : ((W.setCell ⟨w.heap.size + 1 + 1, 1, none⟩ (.int .i64 (p))).setCell ⟨w.heap.size + 1 + 1, 2, none⟩ (.int .i64 (p + q))).drew.heap[w.heap.size + 1 + 1]? = some (.cells #[.int .i64 4, .int .i64 (p), .int .i64 (p + q), .bool (pd == 2)] 62) := heap_setCell_same (i := 2) _ S0.2
    have hF : Fr [w.heap.size + 1 + 1] W ((W.setCell ⟨w.heap.size + 1 + 1, 1, none⟩ (.int .i64 (p))).setCell ⟨w.heap.size + 1 + 1, 2, none⟩ (.int .i64 (p + q))).drew := ((Fr.setCell _ _ (by simp)).trans (Fr.setCell _ _ (by simp))).trans (Fr.drew _ _)
    have Z1 := hF.keep X1 (by simp)
    have HF2 : Fr [] w ((W.setCell ⟨w.heap.size + 1 + 1, 1, none⟩ (.int .i64 (p))).setCell ⟨w.heap.size + 1 + 1, 2, none⟩ (.int .i64 (p + q))).drew := HF.step hF (fun i hi => by simp at hi; exact .inr (by omega))
    have z0 := cell_of_blk Z2 0
    have z1 := cell_of_blk Z2 1
    have z2 := cell_of_blk Z2 2
    have z3 := cell_of_blk Z2 3
    have u0 := cell_of_blk Z1 0
    have u1 := cell_of_blk Z1 1
    have u2 := cell_of_blk Z1 2
    have u3 := cell_of_blk Z1 3
    have v0 := free_of_blk Z1 0
    have v1 := free_of_blk Z1 1
    have v2 := free_of_blk Z1 2
    have v3 := free_of_blk Z1 3
    clear S0 t1 y2
    clear b' c' x0 x1 y1 X0 X1 X2 HF hF
    generalize ((W.setCell ⟨w.heap.size + 1 + 1, 1, none⟩ (.int .i64 (p))).setCell ⟨w.heap.size + 1 + 1, 2, none⟩ (.int .i64 (p + q))).drew = W2 at *
    clear Z2
    have ZH := Lib.hid Z1
    clear Z1
    go_wp2_with fail
    obtain ⟨KS, FS⟩ := set4 ZH.out (.int .i64 4) (.int .i64 (p)) (.int .i64 (p + q)) (.bool (pd == 2))
    have FZ := HF2.step FS (fun i hi => by simp at hi; exact .inr (by omega))
    generalize (((W2.setCell ⟨w.heap.size + 1, 0, none⟩ (.int .i64 4)).setCell ⟨w.heap.size + 1, 1, none⟩ (.int .i64 (p))).setCell ⟨w.heap.size + 1, 2, none⟩ (.int .i64 (p + q))).setCell ⟨w.heap.size + 1, 3, none⟩ (.bool (pd == 2)) = W3 at *
    have k0 := cell_of_blk KS 0
    have k1 := cell_of_blk KS 1
    have k2 := cell_of_blk KS 2
    have k3 := cell_of_blk KS 3
    refine bodyPost_ret (by simp [results, Tryz.results15, go_sem, k0, k1, k2, k3]; try rfl) rfl ?_
    exact ⟨⟨4, p, p + q, pd == 2⟩, rfl, cd4_b _ (by omega) (by omega) (by omega), ⟨by constructor <;> simp only <;> omega, by constructor <;> simp only <;> omega, by constructor <;> simp only <;> omega⟩, FZ⟩
  · have p1 := Lib.hid fun w => pick26_c b 8 w hb (by omega) (by omega)
    have bp := pickI_bound b 8 (by omega)
    generalize pickI b 8 = p at *
    go_wp2_with fail
    refine (p1.out _).mono ?_
    rintro r w1 ⟨rfl, rfl⟩
    have Z2 : (W.setCell ⟨w.heap.size + 1 + 1, 1, none⟩ (.int .i64 (p))).heap[w.heap.size + 1 + 1]? = some (.cells #[.int .i64 5, .int .i64 (p), .int .i64 0, .bool (pd == 2)] 62) := heap_setCell_same (i := 1) _ X2
    have hF : Fr [w.heap.size + 1 + 1] W (W.setCell ⟨w.heap.size + 1 + 1, 1, none⟩ (.int .i64 (p))) := Fr.setCell _ _ (by simp)
    have Z1 := hF.keep X1 (by simp)
    have HF2 : Fr [] w (W.setCell ⟨w.heap.size + 1 + 1, 1, none⟩ (.int .i64 (p))) := HF.step hF (fun i hi => by simp at hi; exact .inr (by omega))
    have z0 := cell_of_blk Z2 0
    have z1 := cell_of_blk Z2 1
    have z2 := cell_of_blk Z2 2
    have z3 := cell_of_blk Z2 3
    have u0 := cell_of_blk Z1 0
    have u1 := cell_of_blk Z1 1
    have u2 := cell_of_blk Z1 2
    have u3 := cell_of_blk Z1 3
    have v0 := free_of_blk Z1 0
    have v1 := free_of_blk Z1 1
    have v2 := free_of_blk Z1 2
    have v3 := free_of_blk Z1 3
    have ZH := Lib.hid Z1
    clear Z1 Z2 X0 X1 X2 HF hF
    go_wp2_with fail
    clear z0 z1 z2 z3 u0 u1 u2 u3 v0 v1 v2 v3 x0 x1 y1
    generalize (W.setCell ⟨w.heap.size + 1 + 1, 1, none⟩ (.int .i64 (p))) = W2 at *
    obtain ⟨KS, FS⟩ := set4 ZH.out (.int .i64 5) (.int .i64 (p)) (.int .i64 (0)) (.bool (pd == 2))
    have FZ := HF2.step FS (fun i hi => by simp at hi; exact .inr (by omega))
    generalize (((W2.setCell ⟨w.heap.size + 1, 0, none⟩ (.int .i64 5)).setCell ⟨w.heap.size + 1, 1, none⟩ (.int .i64 (p))).setCell ⟨w.heap.size + 1, 2, none⟩ (.int .i64 (0))).setCell ⟨w.heap.size + 1, 3, none⟩ (.bool (pd == 2)) = W3 at *
    have k0 := cell_of_blk KS 0
    have k1 := cell_of_blk KS 1
    have k2 := cell_of_blk KS 2
    have k3 := cell_of_blk KS 3
    refine bodyPost_ret (by simp [results, Tryz.results15, go_sem, k0, k1, k2, k3]; try rfl) rfl ?_
    exact ⟨⟨5, p, 0, pd == 2⟩, rfl, cd5_b _ (by omega) (by omega), ⟨by constructor <;> simp only <;> omega, by constructor <;> simp only <;> omega, by constructor <;> simp only <;> omega⟩, FZ⟩

end Go.Proofs.YtahfpadaoobkfaaGreatDoor
