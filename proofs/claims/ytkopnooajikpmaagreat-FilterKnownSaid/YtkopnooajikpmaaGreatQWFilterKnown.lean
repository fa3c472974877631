/-
  The walk of FilterKnown.
-/
import Derived.Test.YtkopnooajikpmaaGreatQFlKn
namespace Go.Proofs.YtkopnooajikpmaaGreat
open Go.ChangeShapes Go.WideShapes Go.ChangeAt Go.RowKit Go.Deep Go.Lib

theorem callC_bd (a b c d e : Int) : (0 ≤ (callC a b c d e).caller ∧ (callC a b c d e).caller < 10) ∧ 0 ≤ (callC a b c d e).at_ ∧ (callC a b c d e).at_ ≤ 169299 := by
  have b1 := pickI_bound a 10 (by omega)
  have b3 := pickI_bound c 100 (by omega)
  have b4 := pickI_bound (c.tdiv 100) 48 (by omega)
  simp only [callC]; omega

set_option maxRecDepth 1000000 in
set_option maxHeartbeats 4000000 in
theorem known_c (vx vm v1 v2 v3 : Value) (nx n1 n2 n3 : Nat) (xs ms is1 is2 is3 : List Int) (fb qa qb qc qd qe : Int) (later says other : Int) (w : World) (hx : NumAt w vx nx 12 xs) (hm : IntsAt w vm ms) (hmi : ∀ z, z ∈ ms → I64 z) (hfb : I64 fb) (h1 : NumAt w v1 n1 6 is1) (h2 : NumAt w v2 n2 3 is2) (h3 : NumAt w v3 n3 6 is3) (hqa : I64 qa) (hqb : I64 qb) (hqc : I64 qc) (hqd : I64 qd) (hqe : I64 qe) (hl1 : I64 later) (hl2 : I64 says) (hl3 : I64 other) :
    Calls Tryz.prog 6 #[vx, vm, .int .i64 fb, .agg #[v1, v2, v3], .agg #[.int .i64 qa, .int .i64 qb, .int .i64 qc, .int .i64 qd, .int .i64 qe], .int .i64 later, .int .i64 says, .int .i64 other] w fun e w' => e = .returned (.bool true) ∧ Below w.heap.size w w' := by
  obtain ⟨ax, px, rfl⟩ := hx.sl.val
  obtain ⟨am, pm, rfl⟩ := hm.val
  obtain ⟨a1, p1, rfl⟩ := h1.sl.val
  obtain ⟨a2, p2, rfl⟩ := h2.sl.val
  obtain ⟨a3, p3, rfl⟩ := h3.sl.val
  have HA := Lib.hid (allocs_at [.cells #[.slice a1 n1 p1, .slice a2 n2 p2, .slice a3 n3 p3] 25, .cells #[.int .i64 qa, .int .i64 qb, .int .i64 qc, .int .i64 qd, .int .i64 qe] 59] w)
  have FA : Hid (Fr [] w _) := Lib.hid (allocs_fr [.cells #[.slice a1 n1 p1, .slice a2 n2 p2, .slice a3 n3 p3] 25, .cells #[.int .i64 qa, .int .i64 qb, .int .i64 qc, .int .i64 qd, .int .i64 qe] 59] w)
  have HX := Lib.hid hx; have HM := Lib.hid hm; have HMI := Lib.hid hmi
  have H1 := Lib.hid h1; have H2 := Lib.hid h2; have H3 := Lib.hid h3
  have CQ := Lib.hid fun W => call26_c qa qb qc qd qe W hqa hqb hqc hqd hqe
  have CQO := Lib.hid (callC_ok qa qb qc qd qe)
  have CQB := Lib.hid (callC_b qa qb qc qd qe)
  have CQA := Lib.hid (callC_bd qa qb qc qd qe)
  obtain ⟨ca, cd, at_, lv, fw, hcq⟩ : ∃ ca cd at_ lv fw, callC qa qb qc qd qe = ⟨ca, cd, at_, lv, fw, false⟩ := ⟨_, _, _, _, _, rfl⟩
  rw [hcq] at CQ CQO CQB CQA
  clear hx hm hmi h1 h2 h3 hqa hqb hqc hqd hqe hcq
  go_enter Tryz.func6, Tryz.ntmps6
  go_wp2_with fail
  refine (sane26_c _).mono ?_
  rintro e w1 ⟨rfl, f1⟩
  have F1 := Lib.hid (FA.out.trans f1)
  have HB : Hid (∀ W, Fr [] w1 W → _) := Lib.hid fun W hf => And.intro (show W.heap[w.heap.size]? = some (.cells #[.slice a1 n1 p1, .slice a2 n2 p2, .slice a3 n3 p3] 25) from hf.keep (f1.keep (HA.out 0 (by simp)) (by simp)) (by simp)) (show W.heap[w.heap.size + 1]? = some (.cells #[.int .i64 qa, .int .i64 qb, .int .i64 qc, .int .i64 qd, .int .i64 qe] 59) from hf.keep (f1.keep (HA.out 1 (by simp)) (by simp)) (by simp))
  have CM := Lib.hid (made26_c _ _ nx xs ms fb w1 (HX.out.same F1.out) (HM.out.same F1.out) HMI.out hfb)
  clear f1
  go_wp2_with fail
  refine CM.out.mono ?_
  rintro e w2 ⟨f2, v, ys, dfl, rfl, ho, hok, hlen, hdf⟩
  obtain ⟨av, pv, rfl⟩ := (sl_of_row ho.row).val
  have LF : Hid (FlOwn w.heap.size (w2.alloc (.cells #[.slice av ys.length pv, .int .i64 dfl] 65)) (.slice av ys.length pv) ys ∧ RusOk ys ∧ ys.length ≤ 8 ∧ actB dfl = true) := Lib.hid ⟨(ho.older F1.out.size).same (Fr.alloc _ _ _), hok, hlen, hdf⟩
  have LB := Lib.hid (heap_alloc_new w2 (.cells #[.slice av ys.length pv, .int .i64 dfl] 65))
  have F2 := Lib.hid (f2.trans (Fr.alloc [] w2 (.cells #[.slice av ys.length pv, .int .i64 dfl] 65)))
  have B2 := HB.out _ F2.out
  have c0 := cell_of_blk B2.1 0; have c1 := cell_of_blk B2.1 1; have c2 := cell_of_blk B2.1 2
  have CR := Lib.hid (made_c _ _ _ n1 n2 n3 is1 is2 is3 _ (H1.out.same (F1.out.trans F2.out)) (H2.out.same (F1.out.trans F2.out)) (H3.out.same (F1.out.trans F2.out)))
  clear f2 ho hok hlen hdf CM B2
  go_wp2_with fail
  refine CR.out.mono ?_
  rintro e w3 ⟨f3, vc, vr, vf, zs, b, rfl, hmd, hro⟩
  clear c0 c1 c2 CR
  obtain ⟨ac, pc, rfl⟩ := (sl_of_row hro.cls).val
  obtain ⟨ar, pr, rfl⟩ := (sl_of_row hro.rps).val
  obtain ⟨af, pf, rfl⟩ := (sl_of_row hro.fas).val
  have F3 := Lib.hid (f3.trans (Fr.alloc [] w3 (.cells #[.slice ac zs.length pc, .slice ar b.rps.length pr, .slice af b.fas.length pf] 30)))
  have RO : Hid (RbOwn w.heap.size (w3.alloc (.cells #[.slice ac zs.length pc, .slice ar b.rps.length pr, .slice af b.fas.length pf] 30)) _ _ _ zs b ∧ MadeOk b) := Lib.hid ⟨(hro.older (by have := (F1.out.trans F2.out).size; omega)).same (Fr.alloc _ _ _), hmd⟩
  have RB := Lib.hid (heap_alloc_new w3 (.cells #[.slice ac zs.length pc, .slice ar b.rps.length pr, .slice af b.fas.length pf] 30))
  have B3 := HB.out _ (F2.out.trans F3.out)
  have c0 := cell_of_blk B3.2 0; have c1 := cell_of_blk B3.2 1; have c2 := cell_of_blk B3.2 2; have c3 := cell_of_blk B3.2 3; have c4 := cell_of_blk B3.2 4
  clear f3 hmd hro B3
  go_wp2_with fail
  refine (CQ.out _).mono ?_
  rintro e w4 ⟨rfl, f4⟩
  clear c0 c1 c2 c3 c4 CQ
  have L0 : Hid (LwS w w2.heap.size w3.heap.size w4.heap.size (.slice av ys.length pv) ys dfl (.slice ac zs.length pc) (.slice ar b.rps.length pr) (.slice af b.fas.length pf) zs b ⟨ca, cd, at_, lv, fw, false⟩ (w4.alloc (.cells #[.int .i64 ca, .int .i64 cd, .int .i64 at_, .int .i64 lv, .int .i64 fw, .bool false] 68))) := Lib.hid (by
    have fa := Fr.alloc [] w4 (.cells #[.int .i64 ca, .int .i64 cd, .int .i64 at_, .int .i64 lv, .int .i64 fw, .bool false] 68)
    have f34 := f4.trans fa
    have f24 := F3.out.trans f34
    exact ⟨(F1.out.trans F2.out).trans f24, f24.keep LB.out (by simp), f34.keep RB.out (by simp), heap_alloc_new _ _, LF.out.1.same f24, LF.out.2.1, LF.out.2.2.1, LF.out.2.2.2, RO.out.1.same f34, RO.out.2, CQO.out, CQB.out, rfl⟩)
  have F4 : Hid (Fr [] w1 (w4.alloc (.cells #[.int .i64 ca, .int .i64 cd, .int .i64 at_, .int .i64 lv, .int .i64 fw, .bool false] 68))) := Lib.hid (((F2.out.trans F3.out).trans f4).trans (Fr.alloc _ _ _))
  clear f4 LF LB RO RB F2 F3 F1 CQO CQB FA HX HM HMI H1 H2 H3
  go_upto_region 7 with fail
  obtain ⟨⟨g0, g1⟩, ⟨r0, r1, r2⟩, q0, q1, q2, q3, q4, q5⟩ := L0.out.cells
  simp only at q0 q1 q2 q3 q4 q5
  have CC := Lib.hid (copy_c _ _ _ zs b _ L0.out.rown L0.out.made.few)
  have C1 := Lib.hid fun W => lawpick26_c later 1000 W hl1 (by omega) (by omega)
  have C2 := Lib.hid fun W => lawpick26_c other 9 W hl3 (by omega) (by omega)
  have C3 := Lib.hid fun W => lawpick26_c says 8 W hl2 (by omega) (by omega)
  have b1 := pickI_bound later 1000 (by omega)
  have b2 := pickI_bound other 9 (by omega)
  have b3 := pickI_bound says 8 (by omega)
  have hcb := CQA.out
  obtain ⟨⟨hca1, hca2⟩, hat1, hat2⟩ := hcb
  generalize pickI later 1000 = pl at *
  generalize pickI other 9 = po at *
  generalize pickI says 8 = ps at *
  clear F4 HA HB hl1 hl2 hl3 CQA
  generalize w4.alloc (.cells #[.int .i64 ca, .int .i64 cd, .int .i64 at_, .int .i64 lv, .int .i64 fw, .bool false] 68) = W4 at *
  go_wp2_with fail
  clear g0 g1 r0 r1 r2 q0 q1 q2 q3 q4 q5
  refine CC.out.mono ?_
  rintro e w5 ⟨f5, oc, or_, of_, zs2, rfl, hown, hrows⟩
  obtain ⟨aoc, poc, rfl⟩ := (sl_of_row hown.cls).val
  obtain ⟨aor, por, rfl⟩ := (sl_of_row hown.rps).val
  obtain ⟨aof, pof, rfl⟩ := (sl_of_row hown.fas).val
  have BX := Lib.hid ((BxS.boxed f5 hown hrows).same (Fr.alloc [] _ (.cells #[.int .i64 0, .int .i64 10000001] 86)))
  have SA : Hid (((w5.alloc (.cells #[.slice aoc zs2.length poc, .slice aor b.rps.length por, .slice aof b.fas.length pof] 30)).alloc (.cells #[.int .i64 0, .int .i64 10000001] 86)).heap[w5.heap.size + 1]? = _) := Lib.hid (alloc2' w5 (.cells #[.slice aoc zs2.length poc, .slice aor b.rps.length por, .slice aof b.fas.length pof] 30) (.cells #[.int .i64 0, .int .i64 10000001] 86)).2
  clear f5 hown hrows CC
  go_upto_region 9 with fail
  have LW5 := Lib.hid (L0.out.same BX.out.fr)
  have hsz : ((w5.alloc (.cells #[.slice aoc zs2.length poc, .slice aor b.rps.length por, .slice aof b.fas.length pof] 30)).alloc (.cells #[.int .i64 0, .int .i64 10000001] 86)).heap.size = w5.heap.size + 1 + 1 := by simp
  generalize hW5 : (w5.alloc (.cells #[.slice aoc zs2.length poc, .slice aor b.rps.length por, .slice aof b.fas.length pof] 30)).alloc (.cells #[.int .i64 0, .int .i64 10000001] 86) = W5 at *
  clear hW5
  have S0 : W5.cell? ⟨w4.heap.size, 2, none⟩ = some (.int .i64 at_) := LW5.out.cells.2.2.2.2.1
  apply wp_one
  · refine reg_tree (fun W => W.cell? ⟨w4.heap.size, 2, none⟩ = some (.int .i64 at_)) 8 (.take 0 (.take 1 (.take 2 (.take 3 (.two 4 7 (.take 5 (.take 6 (.one 7 (.one 8 .nil)))) (.one 4 (.take 5 (.take 6 (.one 8 .nil))))))))) (by kernel_rfl) (by kernel_rfl) (by kernel_rfl) rfl ?_
    (refine tree_take (v := ?_) rfl rfl rfl S0 (fun w hS => ?_) ?_; rotate_left; (focus (go_simp; rfl)); simp only [List.setIfInBounds_toArray, List.set_cons_succ, List.set_cons_zero])
    (refine tree_take (v := ?_) rfl rfl rfl S0 (fun w hS => ?_) ?_; rotate_left; (focus (go_simp; rfl)); simp only [List.setIfInBounds_toArray, List.set_cons_succ, List.set_cons_zero])
    (refine tree_take (v := ?_) rfl rfl rfl S0 (fun w hS => ?_) ?_; rotate_left; (focus (go_simp; rw [IntWalk.i64_in (at_ + 1) (by omega)])); simp only [List.setIfInBounds_toArray, List.set_cons_succ, List.set_cons_zero])
    (refine tree_take (v := ?_) rfl rfl rfl S0 (fun w hS => ?_) ?_; rotate_left; (focus (go_simp; rfl)); simp only [List.setIfInBounds_toArray, List.set_cons_succ, List.set_cons_zero])
    refine ⟨?_, ?_⟩
    · refine tree_op rfl rfl (fun K hK => ?_)
      go_simp
      refine (C1.out _).mono ?_
      rintro e w00 ⟨rfl, rfl⟩
      refine hK _ _ S0 ?_
      clear hK K
      try simp only [Act.put, List.setIfInBounds_toArray, List.set_cons_succ, List.set_cons_zero]
      (refine tree_take (v := ?_) rfl rfl rfl S0 (fun w hS => ?_) ?_; rotate_left; (focus (go_simp; rw [IntWalk.i64_in (at_ + 1 + pl) (by omega)])); simp only [List.setIfInBounds_toArray, List.set_cons_succ, List.set_cons_zero])
      (refine tree_take (v := ?_) rfl rfl rfl S0 (fun w hS => ?_) ?_; rotate_left; (focus (go_simp; rfl)); simp only [List.setIfInBounds_toArray, List.set_cons_succ, List.set_cons_zero])

      refine tree_one rfl rfl (fun K hK => ?_)
      go_simp
      have S1 := (World.cell?_of_block ((Fr.alloc [] _ (.cells #[.int .i64 0, .int .i64 0] 86)).block w4.heap.size (World.block_lt_of_cell? _ _ S0) (by simp))).trans S0
      refine hK _ _ S1 ?_
      clear hK K
      try simp only [Act.put, List.setIfInBounds_toArray, List.set_cons_succ, List.set_cons_zero]
      refine tree_last rfl rfl (fun K hK => ?_)
      go_simp
      refine hK _ _ ?_
      clear hK K
      exact ⟨rfl, rfl, rfl⟩
    · refine tree_op rfl rfl (fun K hK => ?_)
      go_simp
      have S1 := (World.cell?_of_block ((Fr.alloc [] _ (.cells #[.int .i64 0, .int .i64 0] 86)).block w4.heap.size (World.block_lt_of_cell? _ _ S0) (by simp))).trans S0
      refine hK _ _ S1 ?_
      clear hK K
      try simp only [Act.put, List.setIfInBounds_toArray, List.set_cons_succ, List.set_cons_zero]
      refine tree_one rfl rfl (fun K hK => ?_)
      go_simp
      refine (C1.out _).mono ?_
      rintro e w00 ⟨rfl, rfl⟩
      refine hK _ _ S1 ?_
      clear hK K
      try simp only [Act.put, List.setIfInBounds_toArray, List.set_cons_succ, List.set_cons_zero]
      (refine tree_take (v := ?_) rfl rfl rfl S1 (fun w hS => ?_) ?_; rotate_left; (focus (go_simp; rw [IntWalk.i64_in (at_ + 1 + pl) (by omega)])); simp only [List.setIfInBounds_toArray, List.set_cons_succ, List.set_cons_zero])
      (refine tree_take (v := ?_) rfl rfl rfl S1 (fun w hS => ?_) ?_; rotate_left; (focus (go_simp; rfl)); simp only [List.setIfInBounds_toArray, List.set_cons_succ, List.set_cons_zero])

      refine tree_last rfl rfl (fun K hK => ?_)
      go_simp
      refine hK _ _ ?_
      clear hK K
      exact ⟨rfl, rfl, rfl⟩
  clear S0 LW5
  have f6 : Fr [] W5 (W5.alloc (.cells #[.int .i64 (at_ + 1 + pl), .int .i64 10000001] 86)).drew := (Fr.alloc _ _ _).trans (Fr.drew _ _)
  have hk6 : (W5.alloc (.cells #[.int .i64 (at_ + 1 + pl), .int .i64 10000001] 86)).drew.heap[w5.heap.size + 1 + 1]? = some (.cells #[.int .i64 (at_ + 1 + pl), .int .i64 10000001] 86) := by
    have := (Fr.drew [] _).keep (heap_alloc_new W5 (.cells #[.int .i64 (at_ + 1 + pl), .int .i64 10000001] 86)) (by simp)
    rw [hsz] at this
    exact this
  have KN := Lib.hid (⟨BX.out.same f6, f6.keep SA.out (by simp), hk6⟩ : KnS _ _ _ _ _ _ _ (w5.heap.size + 1) (at_ + 1 + pl) _)
  generalize (W5.alloc (.cells #[.int .i64 (at_ + 1 + pl), .int .i64 10000001] 86)).drew = W6 at *
  clear f6 hk6 BX SA hsz
  have hwb := who_b ⟨hca1, hca2⟩ b2
  have LW6 := Lib.hid (L0.out.same KN.out.bx.fr)
  have KC6 : Hid (KnC w5.heap.size (w5.heap.size + 1) w4.heap.size (.slice aoc zs2.length poc) (.slice aor b.rps.length por) (.slice aof b.fas.length pof) (at_ + 1 + pl) #[.int .i64 ca, .int .i64 cd, .int .i64 at_, .int .i64 lv, .int .i64 fw, .bool false] W6) := Lib.hid ⟨KN.out.bx.box, KN.out.sa, KN.out.sk, LW6.out.cbox⟩
  go_wp2_with fail
  refine reg_mix (Fr [] W6) [0, 1, 2, 3, 4, 5, 6, 7] (by kernel_rfl) (by kernel_rfl) (by kernel_rfl) rfl (Fr.drew _ _) ?_
  have FC : Fr [] W6 W6.drew := Fr.drew _ _
  generalize W6.drew = WC at FC ⊢
  (refine mix_take1 (v := ?_) rfl rfl rfl rfl (fun w hS => ?_) ?_; rotate_left; (focus (have hS := KC6.out.same hS; have s0 := cell_of_blk hS.cb 0; clear hS; go_simp; rfl)); simp only [List.setIfInBounds_toArray, List.set_cons_succ, List.set_cons_zero])
  (refine mix_take1 (v := ?_) rfl rfl rfl rfl (fun w hS => ?_) ?_; rotate_left; (focus (have hS := KC6.out.same hS; have s0 := cell_of_blk hS.cb 0; clear hS; go_simp; rfl)); simp only [List.setIfInBounds_toArray, List.set_cons_succ, List.set_cons_zero])
  (refine mix_take1 (v := ?_) rfl rfl rfl rfl (fun w hS => ?_) ?_; rotate_left; (focus (have hS := KC6.out.same hS; have s0 := cell_of_blk hS.cb 0; clear hS; go_simp; rw [IntWalk.i64_in (ca + 1) (by omega)])); simp only [List.setIfInBounds_toArray, List.set_cons_succ, List.set_cons_zero])
  (refine mix_take1 (v := ?_) rfl rfl rfl rfl (fun w hS => ?_) ?_; rotate_left; (focus (have hS := KC6.out.same hS; have s0 := cell_of_blk hS.cb 0; clear hS; go_simp; rfl)); simp only [List.setIfInBounds_toArray, List.set_cons_succ, List.set_cons_zero])
  refine mix_do rfl rfl rfl (fun K hK => ?_)
  go_simp
  refine (C2.out _).mono ?_
  rintro e w00 ⟨rfl, rfl⟩
  refine hK _ _ FC ?_
  clear hK K
  try simp only [Act.put, List.setIfInBounds_toArray, List.set_cons_succ, List.set_cons_zero]
  (refine mix_take1 (v := ?_) rfl rfl rfl rfl (fun w hS => ?_) ?_; rotate_left; (focus (have hS := KC6.out.same hS; have s0 := cell_of_blk hS.cb 0; clear hS; go_simp; rw [IntWalk.i64_in (ca + 1 + po) (by omega)])); simp only [List.setIfInBounds_toArray, List.set_cons_succ, List.set_cons_zero])
  (refine mix_take1 (v := ?_) rfl rfl rfl rfl (fun w hS => ?_) ?_; rotate_left; (focus (have hS := KC6.out.same hS; have s0 := cell_of_blk hS.cb 0; clear hS; go_simp; rw [Int.tmod_eq_emod_of_nonneg (by omega)])); simp only [List.setIfInBounds_toArray, List.set_cons_succ, List.set_cons_zero])
  (refine mix_take1 (v := ?_) rfl rfl rfl rfl (fun w hS => ?_) ?_; rotate_left; (focus (have hS := KC6.out.same hS; have s0 := cell_of_blk hS.cb 0; clear hS; go_simp; rfl)); simp only [List.setIfInBounds_toArray, List.set_cons_succ, List.set_cons_zero])
  refine mix_end ?_
  have KN7 := Lib.hid (KN.out.same FC)
  have KC7 := Lib.hid (KC6.out.same FC)
  clear KN KC6 FC
  go_wp2_with fail
  refine reg_fin (KnC w5.heap.size (w5.heap.size + 1) w4.heap.size (.slice aoc zs2.length poc) (.slice aor b.rps.length por) (.slice aof b.fas.length pof) (at_ + 1 + pl) #[.int .i64 ca, .int .i64 cd, .int .i64 at_, .int .i64 lv, .int .i64 fw, .bool false]) 18 [0, 1, 2, 3, 4, 6, 7, 9, 10, 12, 13, 5, 8, 11, 14, 15, 16, 17, 18] (by kernel_rfl) (by kernel_rfl) (by kernel_rfl) rfl ?_
  have Y1 := KC7.out.same (Fr.drew [] WC)
  have N1 := Lib.hid (KN7.out.same (Fr.drew [] WC))
  generalize WC.drew = WD at Y1 N1 ⊢
  clear KN7 KC7
  (refine fin_take (v := ?_) rfl rfl rfl rfl Y1 (fun w hS => ?_) ?_; rotate_left; (focus (have s0 := cell_of_blk hS.rb 2; have s1 := cell_of_blk hS.cb 0; have s2 := cell_of_blk hS.sa 0; have s3 := cell_of_blk hS.sa 1; have s4 := cell_of_blk hS.sk 0; have s5 := cell_of_blk hS.sk 1; go_simp; rfl)); simp only [List.setIfInBounds_toArray, List.set_cons_succ, List.set_cons_zero])
  (refine fin_take (v := ?_) rfl rfl rfl rfl Y1 (fun w hS => ?_) ?_; rotate_left; (focus (have s0 := cell_of_blk hS.rb 2; have s1 := cell_of_blk hS.cb 0; have s2 := cell_of_blk hS.sa 0; have s3 := cell_of_blk hS.sa 1; have s4 := cell_of_blk hS.sk 0; have s5 := cell_of_blk hS.sk 1; go_simp; rfl)); simp only [List.setIfInBounds_toArray, List.set_cons_succ, List.set_cons_zero])
  (refine fin_take (v := ?_) rfl rfl rfl rfl Y1 (fun w hS => ?_) ?_; rotate_left; (focus (have s0 := cell_of_blk hS.rb 2; have s1 := cell_of_blk hS.cb 0; have s2 := cell_of_blk hS.sa 0; have s3 := cell_of_blk hS.sa 1; have s4 := cell_of_blk hS.sk 0; have s5 := cell_of_blk hS.sk 1; go_simp; rfl)); simp only [List.setIfInBounds_toArray, List.set_cons_succ, List.set_cons_zero])
  (refine fin_take (v := ?_) rfl rfl rfl rfl Y1 (fun w hS => ?_) ?_; rotate_left; (focus (have s0 := cell_of_blk hS.rb 2; have s1 := cell_of_blk hS.cb 0; have s2 := cell_of_blk hS.sa 0; have s3 := cell_of_blk hS.sa 1; have s4 := cell_of_blk hS.sk 0; have s5 := cell_of_blk hS.sk 1; go_simp; rfl)); simp only [List.setIfInBounds_toArray, List.set_cons_succ, List.set_cons_zero])
  (refine fin_take (v := ?_) rfl rfl rfl rfl Y1 (fun w hS => ?_) ?_; rotate_left; (focus (have s0 := cell_of_blk hS.rb 2; have s1 := cell_of_blk hS.cb 0; have s2 := cell_of_blk hS.sa 0; have s3 := cell_of_blk hS.sa 1; have s4 := cell_of_blk hS.sk 0; have s5 := cell_of_blk hS.sk 1; go_simp; rfl)); simp only [List.setIfInBounds_toArray, List.set_cons_succ, List.set_cons_zero])
  (refine fin_take (v := ?_) rfl rfl rfl rfl Y1 (fun w hS => ?_) ?_; rotate_left; (focus (have s0 := cell_of_blk hS.rb 2; have s1 := cell_of_blk hS.cb 0; have s2 := cell_of_blk hS.sa 0; have s3 := cell_of_blk hS.sa 1; have s4 := cell_of_blk hS.sk 0; have s5 := cell_of_blk hS.sk 1; go_simp; rfl)); simp only [List.setIfInBounds_toArray, List.set_cons_succ, List.set_cons_zero])
  (refine fin_take (v := ?_) rfl rfl rfl rfl Y1 (fun w hS => ?_) ?_; rotate_left; (focus (have s0 := cell_of_blk hS.rb 2; have s1 := cell_of_blk hS.cb 0; have s2 := cell_of_blk hS.sa 0; have s3 := cell_of_blk hS.sa 1; have s4 := cell_of_blk hS.sk 0; have s5 := cell_of_blk hS.sk 1; go_simp; rfl)); simp only [List.setIfInBounds_toArray, List.set_cons_succ, List.set_cons_zero])
  (refine fin_take (v := ?_) rfl rfl rfl rfl Y1 (fun w hS => ?_) ?_; rotate_left; (focus (have s0 := cell_of_blk hS.rb 2; have s1 := cell_of_blk hS.cb 0; have s2 := cell_of_blk hS.sa 0; have s3 := cell_of_blk hS.sa 1; have s4 := cell_of_blk hS.sk 0; have s5 := cell_of_blk hS.sk 1; go_simp; rfl)); simp only [List.setIfInBounds_toArray, List.set_cons_succ, List.set_cons_zero])
  (refine fin_take (v := ?_) rfl rfl rfl rfl Y1 (fun w hS => ?_) ?_; rotate_left; (focus (have s0 := cell_of_blk hS.rb 2; have s1 := cell_of_blk hS.cb 0; have s2 := cell_of_blk hS.sa 0; have s3 := cell_of_blk hS.sa 1; have s4 := cell_of_blk hS.sk 0; have s5 := cell_of_blk hS.sk 1; go_simp; rfl)); simp only [List.setIfInBounds_toArray, List.set_cons_succ, List.set_cons_zero])
  (refine fin_take (v := ?_) rfl rfl rfl rfl Y1 (fun w hS => ?_) ?_; rotate_left; (focus (have s0 := cell_of_blk hS.rb 2; have s1 := cell_of_blk hS.cb 0; have s2 := cell_of_blk hS.sa 0; have s3 := cell_of_blk hS.sa 1; have s4 := cell_of_blk hS.sk 0; have s5 := cell_of_blk hS.sk 1; go_simp; rfl)); simp only [List.setIfInBounds_toArray, List.set_cons_succ, List.set_cons_zero])
  (refine fin_take (v := ?_) rfl rfl rfl rfl Y1 (fun w hS => ?_) ?_; rotate_left; (focus (have s0 := cell_of_blk hS.rb 2; have s1 := cell_of_blk hS.cb 0; have s2 := cell_of_blk hS.sa 0; have s3 := cell_of_blk hS.sa 1; have s4 := cell_of_blk hS.sk 0; have s5 := cell_of_blk hS.sk 1; go_simp; rfl)); simp only [List.setIfInBounds_toArray, List.set_cons_succ, List.set_cons_zero])
  refine fin_do rfl rfl rfl (fun K hK => ?_)
  go_simp
  refine (C3.out _).mono ?_
  rintro e w00 ⟨rfl, rfl⟩
  refine hK _ _ Y1 ?_
  clear hK K
  try simp only [Act.put, List.setIfInBounds_toArray, List.set_cons_succ, List.set_cons_zero]
  (refine fin_take (v := ?_) rfl rfl rfl rfl Y1 (fun w hS => ?_) ?_; rotate_left; (focus (have s0 := cell_of_blk hS.rb 2; have s1 := cell_of_blk hS.cb 0; have s2 := cell_of_blk hS.sa 0; have s3 := cell_of_blk hS.sa 1; have s4 := cell_of_blk hS.sk 0; have s5 := cell_of_blk hS.sk 1; go_simp; rfl)); simp only [List.setIfInBounds_toArray, List.set_cons_succ, List.set_cons_zero])
  refine fin_do rfl rfl rfl (fun K hK => ?_)
  go_simp
  refine (C3.out _).mono ?_
  rintro e w00 ⟨rfl, rfl⟩
  refine hK _ _ Y1 ?_
  clear hK K
  try simp only [Act.put, List.setIfInBounds_toArray, List.set_cons_succ, List.set_cons_zero]
  (refine fin_take (v := ?_) rfl rfl rfl rfl Y1 (fun w hS => ?_) ?_; rotate_left; (focus (have s0 := cell_of_blk hS.rb 2; have s1 := cell_of_blk hS.cb 0; have s2 := cell_of_blk hS.sa 0; have s3 := cell_of_blk hS.sa 1; have s4 := cell_of_blk hS.sk 0; have s5 := cell_of_blk hS.sk 1; go_simp; rfl)); simp only [List.setIfInBounds_toArray, List.set_cons_succ, List.set_cons_zero])
  refine fin_do rfl rfl rfl (fun K hK => ?_)
  go_simp
  have FA := Fr.alloc [] WD (.cells #[.int .i64 ca, .int .i64 ps, .int .i64 0, .int .i64 10000001, .int .i64 (at_ + 1 + pl), .int .i64 10000001, .int .i64 ((ca + 1 + po) % 10), .int .i64 ps, .int .i64 0, .int .i64 10000001, .int .i64 0, .int .i64 10000001] 88)
  have HSr := srcAt_newN WD #[.int .i64 ca, .int .i64 ps, .int .i64 0, .int .i64 10000001, .int .i64 (at_ + 1 + pl), .int .i64 10000001, .int .i64 ((ca + 1 + po) % 10), .int .i64 ps, .int .i64 0, .int .i64 10000001, .int .i64 0, .int .i64 10000001] 88 2 2
  have Y2 := Y1.same FA
  have N2 := Lib.hid (N1.out.same FA)
  refine hK _ _ Y2 ?_
  clear hK K
  try simp only [Act.put, List.setIfInBounds_toArray, List.set_cons_succ, List.set_cons_zero]
  generalize WD.alloc (.cells #[.int .i64 ca, .int .i64 ps, .int .i64 0, .int .i64 10000001, .int .i64 (at_ + 1 + pl), .int .i64 10000001, .int .i64 ((ca + 1 + po) % 10), .int .i64 ps, .int .i64 0, .int .i64 10000001, .int .i64 0, .int .i64 10000001] 88) = WE at *
  generalize WD.heap.size = nE at *
  refine fin_do (o := ⟨some 73, _, _, _, _, _⟩) rfl rfl rfl (fun K hK => ?_)
  refine wp_append_src (.tmp 58) (.tmp 72) 28 88 _ 6 48 rfl Tryz.underlying28 infoFa rfl (by decide) (.slice aof b.fas.length pof) b.fas.length _ rfl N2.out.bx.own.fas (.slice (some ⟨nE, 0, none⟩) 2 2) 2 (([knFa ca ps (at_ + 1 + pl) 10000001, knFa ((ca + 1 + po) % 10) ps 0 10000001] : List Fa).flatMap faC) rfl HSr rfl (faC_one _) (by have := LW6.out.made.nf; omega) (by have := LW6.out.made.nf; omega) ?_
  intro ga cap W7 r7 f7 o7
  have Y3 := Y2.row N2.out.bx.own.fas f7 (by decide) (by decide) (by decide)
  refine hK _ _ Y3 ?_
  clear hK K
  try simp only [Act.put, List.setIfInBounds_toArray, List.set_cons_succ, List.set_cons_zero]
  (refine fin_take (v := ?_) rfl rfl rfl rfl Y3 (fun w hS => ?_) ?_; rotate_left; (focus (go_simp; rfl)); simp only [List.setIfInBounds_toArray, List.set_cons_succ, List.set_cons_zero])
  have t0 : W7.cell? ⟨w5.heap.size, 2, none⟩ = some (.slice aof b.fas.length pof) := cell_of_blk Y3.rb 2
  have t2 := free_of_blk Y3.rb 2
  refine fin_last (o := ⟨none, _, _, _, _, _⟩) rfl rfl rfl (fun K hK => ?_)
  go_simp
  try go_upon
  try go_simp
  refine hK _ _ ?_
  clear hK K
  have N8 := Lib.hid (N2.out.putFa (rs := [knFa ca ps (at_ + 1 + pl) 10000001, knFa ((ca + 1 + po) % 10) ps 0 10000001]) r7 (by simp) (by rw [List.flatMap_append]) f7 o7)
  clear t0 t2 Y1 Y2 Y3 N1 N2 FA HSr r7 f7 o7
  generalize W7.setCell ⟨w5.heap.size, 2, none⟩ (.slice ga (b.fas.length + 2) cap) = W8 at *
  have LW8 := Lib.hid (L0.out.same N8.out.bx.fr)
  have KC8 : Hid (KnC w5.heap.size (w5.heap.size + 1) w4.heap.size (.slice aoc zs2.length poc) (.slice aor b.rps.length por) (.slice ga (b.fas.length + 2) cap) (at_ + 1 + pl) #[.int .i64 ca, .int .i64 cd, .int .i64 at_, .int .i64 lv, .int .i64 fw, .bool false] W8) := Lib.hid ⟨N8.out.bx.box, N8.out.sa, N8.out.sk, LW8.out.cbox⟩
  go_wp2_with fail
  refine reg_fin (KnC w5.heap.size (w5.heap.size + 1) w4.heap.size (.slice aoc zs2.length poc) (.slice aor b.rps.length por) (.slice ga (b.fas.length + 2) cap) (at_ + 1 + pl) #[.int .i64 ca, .int .i64 cd, .int .i64 at_, .int .i64 lv, .int .i64 fw, .bool false]) 11 [0, 1, 2, 3, 4, 5, 6, 7, 8, 9, 10, 11] (by kernel_rfl) (by kernel_rfl) (by kernel_rfl) rfl ?_
  have Y1 := KC8.out.same (Fr.drew [] W8)
  have N1 := Lib.hid (N8.out.same (Fr.drew [] W8))
  generalize W8.drew = WD at Y1 N1 ⊢
  clear N8 KC8
  (refine fin_take (v := ?_) rfl rfl rfl rfl Y1 (fun w hS => ?_) ?_; rotate_left; (focus (have s0 := cell_of_blk hS.rb 0; have s1 := cell_of_blk hS.cb 0; have s2 := cell_of_blk hS.sa 0; have s3 := cell_of_blk hS.sa 1; have s4 := cell_of_blk hS.sk 0; have s5 := cell_of_blk hS.sk 1; go_simp; rfl)); simp only [List.setIfInBounds_toArray, List.set_cons_succ, List.set_cons_zero])
  (refine fin_take (v := ?_) rfl rfl rfl rfl Y1 (fun w hS => ?_) ?_; rotate_left; (focus (have s0 := cell_of_blk hS.rb 0; have s1 := cell_of_blk hS.cb 0; have s2 := cell_of_blk hS.sa 0; have s3 := cell_of_blk hS.sa 1; have s4 := cell_of_blk hS.sk 0; have s5 := cell_of_blk hS.sk 1; go_simp; rfl)); simp only [List.setIfInBounds_toArray, List.set_cons_succ, List.set_cons_zero])
  (refine fin_take (v := ?_) rfl rfl rfl rfl Y1 (fun w hS => ?_) ?_; rotate_left; (focus (have s0 := cell_of_blk hS.rb 0; have s1 := cell_of_blk hS.cb 0; have s2 := cell_of_blk hS.sa 0; have s3 := cell_of_blk hS.sa 1; have s4 := cell_of_blk hS.sk 0; have s5 := cell_of_blk hS.sk 1; go_simp; rfl)); simp only [List.setIfInBounds_toArray, List.set_cons_succ, List.set_cons_zero])
  (refine fin_take (v := ?_) rfl rfl rfl rfl Y1 (fun w hS => ?_) ?_; rotate_left; (focus (have s0 := cell_of_blk hS.rb 0; have s1 := cell_of_blk hS.cb 0; have s2 := cell_of_blk hS.sa 0; have s3 := cell_of_blk hS.sa 1; have s4 := cell_of_blk hS.sk 0; have s5 := cell_of_blk hS.sk 1; go_simp; rfl)); simp only [List.setIfInBounds_toArray, List.set_cons_succ, List.set_cons_zero])
  (refine fin_take (v := ?_) rfl rfl rfl rfl Y1 (fun w hS => ?_) ?_; rotate_left; (focus (have s0 := cell_of_blk hS.rb 0; have s1 := cell_of_blk hS.cb 0; have s2 := cell_of_blk hS.sa 0; have s3 := cell_of_blk hS.sa 1; have s4 := cell_of_blk hS.sk 0; have s5 := cell_of_blk hS.sk 1; go_simp; rfl)); simp only [List.setIfInBounds_toArray, List.set_cons_succ, List.set_cons_zero])
  (refine fin_take (v := ?_) rfl rfl rfl rfl Y1 (fun w hS => ?_) ?_; rotate_left; (focus (have s0 := cell_of_blk hS.rb 0; have s1 := cell_of_blk hS.cb 0; have s2 := cell_of_blk hS.sa 0; have s3 := cell_of_blk hS.sa 1; have s4 := cell_of_blk hS.sk 0; have s5 := cell_of_blk hS.sk 1; go_simp; rfl)); simp only [List.setIfInBounds_toArray, List.set_cons_succ, List.set_cons_zero])
  refine fin_do rfl rfl rfl (fun K hK => ?_)
  go_simp
  refine (C3.out _).mono ?_
  rintro e w00 ⟨rfl, rfl⟩
  refine hK _ _ Y1 ?_
  clear hK K
  try simp only [Act.put, List.setIfInBounds_toArray, List.set_cons_succ, List.set_cons_zero]
  (refine fin_take (v := ?_) rfl rfl rfl rfl Y1 (fun w hS => ?_) ?_; rotate_left; (focus (have s0 := cell_of_blk hS.rb 0; have s1 := cell_of_blk hS.cb 0; have s2 := cell_of_blk hS.sa 0; have s3 := cell_of_blk hS.sa 1; have s4 := cell_of_blk hS.sk 0; have s5 := cell_of_blk hS.sk 1; go_simp; rfl)); simp only [List.setIfInBounds_toArray, List.set_cons_succ, List.set_cons_zero])
  refine fin_do rfl rfl rfl (fun K hK => ?_)
  go_simp
  have FA := Fr.alloc [] WD (.cells #[.int .i64 (at_ + 1 + pl), .int .i64 0, .int .i64 10000001, .slice none 0 0, .slice none 0 0, .int .i64 ps] 90)
  have HSr := srcAt_newN WD #[.int .i64 (at_ + 1 + pl), .int .i64 0, .int .i64 10000001, .slice none 0 0, .slice none 0 0, .int .i64 ps] 90 1 1
  have Y2 := Y1.same FA
  have N2 := Lib.hid (N1.out.same FA)
  refine hK _ _ Y2 ?_
  clear hK K
  try simp only [Act.put, List.setIfInBounds_toArray, List.set_cons_succ, List.set_cons_zero]
  generalize WD.alloc (.cells #[.int .i64 (at_ + 1 + pl), .int .i64 0, .int .i64 10000001, .slice none 0 0, .slice none 0 0, .int .i64 ps] 90) = WE at *
  generalize WD.heap.size = nE at *
  have HZL : Hid (zs2.length = b.cls.length) := Lib.hid (by rw [N2.out.bx.own.eq, List.length_map])
  refine fin_do (o := ⟨some 84, _, _, _, _, _⟩) rfl rfl rfl (fun K hK => ?_)
  refine wp_append_src (.tmp 76) (.tmp 83) 26 90 _ 6 80 rfl Tryz.underlying26 infoCl rfl (by decide) (.slice aoc zs2.length poc) zs2.length _ rfl N2.out.bx.own.cls (.slice (some ⟨nE, 0, none⟩) 1 1) 1 (clC ⟨knCl (at_ + 1 + pl) ps, .slice none 0 0, .slice none 0 0⟩) rfl HSr rfl (by simp [clC, knCl, Value.oneCell']) (by have := LW8.out.made.nc; have := HZL.out; omega) (by have := LW8.out.made.nc; have := HZL.out; omega) ?_
  intro gb cab W9 r7 f7 o7
  have Y3 := Y2.row N2.out.bx.own.cls f7 (by decide) (by decide) (by decide)
  refine hK _ _ Y3 ?_
  clear hK K
  try simp only [Act.put, List.setIfInBounds_toArray, List.set_cons_succ, List.set_cons_zero]
  (refine fin_take (v := ?_) rfl rfl rfl rfl Y3 (fun w hS => ?_) ?_; rotate_left; (focus (go_simp; rfl)); simp only [List.setIfInBounds_toArray, List.set_cons_succ, List.set_cons_zero])
  have t0 : W9.cell? ⟨w5.heap.size, 0, none⟩ = some (.slice aoc zs2.length poc) := cell_of_blk Y3.rb 0
  have t2 := free_of_blk Y3.rb 0
  refine fin_last (o := ⟨none, _, _, _, _, _⟩) rfl rfl rfl (fun K hK => ?_)
  go_simp
  try go_upon
  try go_simp
  refine hK _ _ ?_
  clear hK K
  have N9 := Lib.hid (N2.out.putCl (x := knCl (at_ + 1 + pl) ps) rfl rfl r7 rfl rfl f7 o7)
  clear t0 t2 Y1 Y2 Y3 N1 N2 FA HSr r7 f7 o7 HZL
  generalize W9.setCell ⟨w5.heap.size, 0, none⟩ (.slice gb (zs2.length + 1) cab) = WA at *
  have LA := Lib.hid (L0.out.same N9.out.bx.fr)
  clear LW6 LW8 C1 C2 C3
  have MK := Lib.hid L0.out.made
  have GV : Hid (validB (knRb b ca ((ca + 1 + po) % 10) ps (at_ + 1 + pl)) = true) := Lib.hid (knRb_valid MK.out ⟨hca1, by omega⟩ hwb.1 b3 ⟨by omega, by omega⟩)
  have GO := Lib.hid (knRb_ok (ca := ca) (who := (ca + 1 + po) % 10) (s := ps) (kf := at_ + 1 + pl) MK.out ⟨hca1, by omega⟩ hwb.1 b3 ⟨by omega, by omega⟩)
  have GG : Hid (goodF (flOf ys dfl) (knRb b ca ((ca + 1 + po) % 10) ps (at_ + 1 + pl)) ⟨ca, cd, at_, lv, fw, false⟩ = true) := Lib.hid (by
    unfold goodF
    rw [L0.out.ok.flB (by have := L0.out.len; omega) L0.out.adfl, GV.out, L0.out.cb]
    rfl)
  obtain ⟨da, dr, F1, P1, F2, P2, e1, e2, e3, e4, e5⟩ := kn_plain L0.out.good GG.out (fun x => knRb_past (c := ⟨ca, cd, at_, lv, fw, false⟩) x hwb.2 (by show at_ < at_ + 1 + pl; omega)) rfl (by simpa using L0.out.len)
  have N10 : Hid (∀ W, Fr [] WA W → KnS W4 w5.heap.size (.slice gb (zs2.length + 1) cab) (.slice aor b.rps.length por) (.slice ga (b.fas.length + 2) cap) _ (knRb b ca ((ca + 1 + po) % 10) ps (at_ + 1 + pl)) (w5.heap.size + 1) (at_ + 1 + pl) W) := Lib.hid fun W hf => N9.out.same hf
  have E2 := Lib.hid e2; have E3 := Lib.hid e3
  have CD := Lib.hid (kn_dec LA.out.flAt LA.out.rbAt LA.out.cok LA.out.good e1)
  simp only at CD
  clear e1 e2 e3 L0 N9
  obtain ⟨⟨g0, g1⟩, ⟨r0, r1, r2⟩, q0, q1, q2, q3, q4, q5⟩ := LA.out.cells
  simp only at q0 q1 q2 q3 q4 q5
  go_wp2_with fail
  clear g0 g1 r0 r1 r2 q0 q1 q2 q3 q4 q5
  refine CD.out.mono ?_
  rintro e w10 ⟨f10, aF1, pF1, aP1, pP1, zp1, rfl, _⟩
  have FX := f10.trans (Fr.alloc [] w10 (.cells #[.int .i64 da, .int .i64 dr, .slice aF1 F1.length pF1, .slice aP1 P1.length pP1] 62))
  have D1 := Lib.hid (heap_alloc_new w10 (.cells #[.int .i64 da, .int .i64 dr, .slice aF1 F1.length pF1, .slice aP1 P1.length pP1] 62))
  have LB := Lib.hid (LA.out.same FX)
  have NB := Lib.hid (N10.out _ FX)
  have HFX := Lib.hid FX
  have CD2 := Lib.hid (kn_dec LB.out.flAt (NB.out.bx.own.at_ GO.out) LB.out.cok GG.out E2.out)
  simp only at CD2
  have m0 := cell_of_blk NB.out.bx.box 0; have m1 := cell_of_blk NB.out.bx.box 1; have m2 := cell_of_blk NB.out.bx.box 2
  clear f10 FX CD LA
  obtain ⟨⟨g0, g1⟩, ⟨r0, r1, r2⟩, q0, q1, q2, q3, q4, q5⟩ := LB.out.cells
  simp only at q0 q1 q2 q3 q4 q5
  clear r0 r1 r2
  go_wp2_with fail
  clear g0 g1 q0 q1 q2 q3 q4 q5 m0 m1 m2
  refine CD2.out.mono ?_
  rintro e w11 ⟨f11, aF2, pF2, aP2, pP2, zp2, rfl, hd2⟩
  have fa := Fr.alloc [] w11 (.cells #[.int .i64 da, .int .i64 dr, .slice aF2 F2.length pF2, .slice aP2 P2.length pP2] 62)
  have FX := f11.trans fa
  have D2 := Lib.hid (heap_alloc_new w11 (.cells #[.int .i64 da, .int .i64 dr, .slice aF2 F2.length pF2, .slice aP2 P2.length pP2] 62))
  have D1b := Lib.hid (FX.keep D1.out (by simp))
  have LC := Lib.hid (LB.out.same FX)
  have NC := Lib.hid (NB.out.same FX)
  have HD2 := Lib.hid (hd2.same fa)
  have CV := Lib.hid (valid_c _ _ _ _ _ _ (NC.out.bx.own.at_ GO.out))
  rw [GV.out] at CV
  unfold rbV at CV
  have m0 := cell_of_blk NC.out.bx.box 0; have m1 := cell_of_blk NC.out.bx.box 1; have m2 := cell_of_blk NC.out.bx.box 2
  clear f11 fa FX CD2 LB NB hd2 D1
  go_wp2_with fail
  clear m0 m1 m2
  refine CV.out.mono ?_
  rintro e w12 ⟨rfl, f12⟩
  have LD := Lib.hid (LC.out.same f12)
  have ND := Lib.hid (NC.out.same f12)
  have B1 := f12.keep D1b.out (by simp)
  have B2 := f12.keep D2.out (by simp)
  have HD3 := Lib.hid (HD2.out.same f12)
  have CK := Lib.hid (kn_chk LD.out.flAt (ND.out.bx.own.at_ GO.out) LD.out.cok GG.out (sl_of_row HD3.out.fails) HD3.out.own.at_ HD3.out.eq ⟨e4, e5⟩ E3.out)
  simp only at CK
  have m0 := cell_of_blk ND.out.bx.box 0; have m1 := cell_of_blk ND.out.bx.box 1; have m2 := cell_of_blk ND.out.bx.box 2
  have u0 := cell_of_blk B1 0; have u1 := cell_of_blk B1 1
  have v0 := cell_of_blk B2 0; have v1 := cell_of_blk B2 1; have v2 := cell_of_blk B2 2; have v3 := cell_of_blk B2 3
  clear f12 LC NC HD2 D1b D2 CV B1 B2
  obtain ⟨⟨g0, g1⟩, ⟨r0, r1, r2⟩, q0, q1, q2, q3, q4, q5⟩ := LD.out.cells
  simp only at q0 q1 q2 q3 q4 q5
  clear r0 r1 r2
  go_wp2_with fail
  clear g0 g1 q0 q1 q2 q3 q4 q5 m0 m1 m2 u0 u1 v0 v1 v2 v3
  refine CK.out.mono ?_
  rintro e w13 ⟨rfl, f13⟩
  go_wp2_with fail
  go_ret
  exact ⟨rfl, (LD.out.fr.trans f13).below⟩

set_option maxRecDepth 100000 in
theorem walk_FilterKnown {H : Type} {enc : TypeId × Value → H} {base : Nat} (W : World) {v0 v1 v2 v3 v4 v5 v6 v7 : Value} {d0 d1 d2 d3 d4 d5 d6 d7 : DataW H} {p0 p1 p2 p3 p4 p5 p6 p7 : List MemPlace} (k0 : Value.okWide Tryz.prog W .any base 58 v0) (h0 : DataW.Trod enc Tryz.prog W 0 (fun _ => true) true 58 v0 d0 p0) (k1 : Value.okWide Tryz.prog W .any base 48 v1) (h1 : DataW.Trod enc Tryz.prog W 0 (fun _ => true) true 48 v1 d1 p1) (k2 : Value.okWide Tryz.prog W .any base 3 v2) (h2 : DataW.Trod enc Tryz.prog W 0 (fun _ => true) true 3 v2 d2 p2) (k3 : Value.okWide Tryz.prog W .any base 25 v3) (h3 : DataW.Trod enc Tryz.prog W 0 (fun _ => true) true 25 v3 d3 p3) (k4 : Value.okWide Tryz.prog W .any base 59 v4) (h4 : DataW.Trod enc Tryz.prog W 0 (fun _ => true) true 59 v4 d4 p4) (k5 : Value.okWide Tryz.prog W .any base 3 v5) (h5 : DataW.Trod enc Tryz.prog W 0 (fun _ => true) true 3 v5 d5 p5) (k6 : Value.okWide Tryz.prog W .any base 3 v6) (h6 : DataW.Trod enc Tryz.prog W 0 (fun _ => true) true 3 v6 d6 p6) (k7 : Value.okWide Tryz.prog W .any base 3 v7) (h7 : DataW.Trod enc Tryz.prog W 0 (fun _ => true) true 3 v7 d7 p7) :
    Calls Tryz.prog 6 #[v0, v1, v2, v3, v4, v5, v6, v7] W fun e W' => e = .returned (.bool true) ∧ Below W.heap.size W W' := by
  obtain ⟨nx, xs, a0⟩ := open_x3s k0 h0
  obtain ⟨ms, a1, i1⟩ := open_ints k1 h1
  obtain ⟨fb, rfl, j1, j2⟩ := open_i64 Tryz.underlying3 k2 h2
  obtain ⟨_, _, _, n1, n2, n3, is1, is2, is3, rfl, b1, b2, b3⟩ := open_numbers k3 h3
  obtain ⟨qa, qb, qc, qd, qe, rfl, g1, g2, g3, g4, g5⟩ := open_x5 k4 h4
  obtain ⟨x, rfl, u1, u2⟩ := open_i64 Tryz.underlying3 k5 h5
  obtain ⟨y, rfl, s1, s2⟩ := open_i64 Tryz.underlying3 k6 h6
  obtain ⟨z, rfl, t1, t2⟩ := open_i64 Tryz.underlying3 k7 h7
  exact known_c _ _ _ _ _ nx n1 n2 n3 xs ms is1 is2 is3 fb qa qb qc qd qe x y z W a0 a1 i1 ⟨j1, j2⟩ b1 b2 b3 g1 g2 g3 g4 g5 ⟨u1, u2⟩ ⟨s1, s2⟩ ⟨t1, t2⟩

end Go.Proofs.YtkopnooajikpmaaGreat
