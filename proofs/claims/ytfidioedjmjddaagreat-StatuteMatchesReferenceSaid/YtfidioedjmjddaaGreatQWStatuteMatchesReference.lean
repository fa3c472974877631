/-
  The walk of StatuteMatchesReference.
-/
import Derived.Test.YtfidioedjmjddaaGreatQRg11
import Derived.Test.YtfidioedjmjddaaGreatQRgF
import Derived.Test.YtfidioedjmjddaaGreatQRgO
import Derived.Test.YtfidioedjmjddaaGreatQRgJ
namespace Go.Proofs.YtfidioedjmjddaaGreat
open Go.ChangeShapes Go.WideShapes Go.ChangeAt Go.RowKit Go.Deep Go.Lib

theorem MadeOk.rb {c : Rb} (h : MadeOk c) : RbOk c := h.ok

set_option maxRecDepth 1000000 in
set_option maxHeartbeats 4000000 in
theorem matches_c (v1 v2 v3 vc vr vf vl : Value) (n1 n2 n3 : Nat) (is1 is2 is3 : List Int) (ys0 : List ClV) (cr : Rb) (qa qb qc qd how n at_ o0 o1 o2 o3 : Int) (lz : List Fd) (w : World) (h1 : NumAt w v1 n1 6 is1) (h2 : NumAt w v2 n2 3 is2) (h3 : NumAt w v3 n3 6 is3) (hr : RbAt w vc vr vf ys0 cr)
    (ha : I64 qa) (hb : I64 qb) (hc : I64 qc) (hd : I64 qd) (i1 : I64 how) (i2 : I64 n) (i3 : I64 at_) (hz : Sl w vl lz.length (lz.flatMap fdC)) :
    Calls Tryz.prog 3 #[.agg #[v1, v2, v3], .agg #[vc, vr, vf], .agg #[.int .i64 qa, .int .i64 qb, .int .i64 qc, .int .i64 qd], .agg #[.int .i64 o0, .int .i64 o1, .int .i64 o2, .int .i64 o3], .int .i64 how, .int .i64 n, .int .i64 at_, vl] w fun e w' => e = .returned (.bool true) ∧ Below w.heap.size w w' := by
  obtain ⟨az, pz, rfl⟩ := hz.val
  have hzl := hz.len
  obtain ⟨m, hm⟩ : ∃ m, min lz.length 8 = m := ⟨_, rfl⟩
  have hm1 : m ≤ lz.length := by omega
  have hpz := hz.cap
  have hm2 : m ≤ pz := by omega
  have hmi : min (lz.length : Int) 8 = (m : Int) := by omega
  have hmi2 : (if (8 : Int) < (lz.length : Int) then 8 else (lz.length : Int)) = (m : Int) := by split <;> omega
  clear hm
  have HZ := Lib.hid (hz.rows hm1)
  clear hz
  obtain ⟨a1, p1, rfl⟩ := h1.sl.val
  obtain ⟨a2, p2, rfl⟩ := h2.sl.val
  obtain ⟨a3, p3, rfl⟩ := h3.sl.val
  obtain ⟨xc, pc, rfl⟩ := hr.cls.sl.val
  obtain ⟨xr, pr, rfl⟩ := hr.rps.val
  obtain ⟨xf, pf, rfl⟩ := hr.fas.val
  have HA := Lib.hid (allocs_at [.cells #[.slice a1 n1 p1, .slice a2 n2 p2, .slice a3 n3 p3] 25, .cells #[.slice xc ys0.length pc, .slice xr cr.rps.length pr, .slice xf cr.fas.length pf] 30, .cells #[.int .i64 qa, .int .i64 qb, .int .i64 qc, .int .i64 qd] 31, .cells #[.int .i64 o0, .int .i64 o1, .int .i64 o2, .int .i64 o3] 33] w)
  have FA : Hid (Fr [] w _) := Lib.hid (allocs_fr [.cells #[.slice a1 n1 p1, .slice a2 n2 p2, .slice a3 n3 p3] 25, .cells #[.slice xc ys0.length pc, .slice xr cr.rps.length pr, .slice xf cr.fas.length pf] 30, .cells #[.int .i64 qa, .int .i64 qb, .int .i64 qc, .int .i64 qd] 31, .cells #[.int .i64 o0, .int .i64 o1, .int .i64 o2, .int .i64 o3] 33] w)
  have H1 := Lib.hid h1; have H2 := Lib.hid h2; have H3 := Lib.hid h3; have HRW := Lib.hid hr
  have CQ := Lib.hid fun W => ask_c qa qb qc qd W ha hb hc hd
  generalize pickI qa 3 = x0 at *
  generalize pickI qb 8 = x1 at *
  generalize pickI qc 100 = x2 at *
  generalize pickI qd 100 = x3 at *
  clear h1 h2 h3 hr ha hb hc hd
  go_enter Tryz.func3, Tryz.ntmps3
  go_wp2_with fail
  refine (sane8_c _).mono ?_
  rintro e w1 ⟨rfl, f1⟩
  have B0 : w1.heap[w.heap.size]? = _ := f1.keep (HA.out 0 (by simp)) (by simp)
  have HB1 := Lib.hid (show w1.heap[w.heap.size + 1]? = _ from f1.keep (HA.out 1 (by simp)) (by simp))
  have HB2 := Lib.hid (show w1.heap[w.heap.size + 1 + 1]? = _ from f1.keep (HA.out 2 (by simp)) (by simp))
  have HB3 := Lib.hid (show w1.heap[w.heap.size + 1 + 1 + 1]? = _ from f1.keep (HA.out 3 (by simp)) (by simp))
  have F1 := Lib.hid (FA.out.trans f1)
  clear f1 HA FA
  have c0 := cell_of_blk B0 0; have c1 := cell_of_blk B0 1; have c2 := cell_of_blk B0 2
  have CM := Lib.hid (made_c _ _ _ n1 n2 n3 is1 is2 is3 w1 (H1.out.same F1.out) (H2.out.same F1.out) (H3.out.same F1.out))
  clear B0 H1 H2 H3
  go_wp2_with fail
  refine CM.out.mono ?_
  rintro e w2 ⟨f2, vc2, vr2, vf2, ys, c, rfl, hm, ho⟩
  clear c0 c1 c2 CM hmi hmi2
  obtain ⟨bc, qc_, rfl⟩ := (sl_of_row ho.cls).val
  obtain ⟨br, qr, rfl⟩ := (sl_of_row ho.rps).val
  obtain ⟨bf, qf, rfl⟩ := (sl_of_row ho.fas).val
  have HM := Lib.hid hm; have HO0 := Lib.hid ho
  have F2 := Lib.hid f2
  clear f2 hm ho
  go_wp2_with fail
  have hb18 := heap_alloc_new w2 (.cells #[.slice bc ys.length qc_, .slice br c.rps.length qr, .slice bf c.fas.length qf] 30)
  have f3 := F2.out.trans (Fr.alloc [] w2 (.cells #[.slice bc ys.length qc_, .slice br c.rps.length qr, .slice bf c.fas.length qf] 30))
  have HO := Lib.hid (HO0.out.same (Fr.alloc [] w2 (.cells #[.slice bc ys.length qc_, .slice br c.rps.length qr, .slice bf c.fas.length qf] 30)))
  generalize w2.alloc (.cells #[.slice bc ys.length qc_, .slice br c.rps.length qr, .slice bf c.fas.length qf] 30) = W3 at *
  have F3 := Lib.hid (F1.out.trans f3)
  have HC1 := Lib.hid (f3.keep HB1.out (by simp)); have HC2 := Lib.hid (f3.keep HB2.out (by simp)); have HC3 := Lib.hid (f3.keep HB3.out (by simp))
  have r0 := cell_of_blk hb18 0; have r1 := cell_of_blk hb18 1; have r2 := cell_of_blk hb18 2
  have s0 := cell_of_blk HC1.out 0; have s1 := cell_of_blk HC1.out 1; have s2 := cell_of_blk HC1.out 2
  have CB := Lib.hid fun (W : World) (hf : Fr [] W3 W) => bent8_c _ _ _ ys c how n at_ W (HO.out.same hf) HM.out.few HM.out.ok i1 i2 i3
  have CF := Lib.hid fun (W : World) (hf : Fr [] W3 W) => few_c _ _ _ ys0 cr W (HRW.out.same (F3.out.trans hf))
  clear hb18 f3 F2 F1 HO0 HB1 HB2 HB3
  refine reg_mix (Fr [] W3) [0, 1, 2, 3, 4, 6, 10, 5, 7, 8, 9] (by kernel_rfl) (by kernel_rfl) (by kernel_rfl) rfl (Fr.drew _ _) ?_
  have FC : Fr [] W3 W3.drew := Fr.drew _ _
  generalize W3.drew = WC at FC ⊢
  iterate 7 (refine mix_take1 (v := ?_) rfl rfl rfl rfl (fun w hS => ?_) ?_; rotate_left; (focus (have r0' := hS.cel r0 (by simp); have s0' := hS.cel s0 (by simp); have r1' := hS.cel r1 (by simp); have s1' := hS.cel s1 (by simp); have r2' := hS.cel r2 (by simp); have s2' := hS.cel s2 (by simp); clear hS; go_simp; rfl)); simp only [List.setIfInBounds_toArray, List.set_cons_succ, List.set_cons_zero])
  refine mix_do rfl rfl rfl (fun K hK => ?_)
  go_simp
  refine (CB.out _ FC).mono ?_
  rintro e wb ⟨fb, vb1, vb2, vb3, ysb, cb, rfl, hbt⟩
  obtain ⟨ab1, pb1, rfl⟩ := hbt.cls.sl.val
  obtain ⟨ab2, pb2, rfl⟩ := hbt.rps.val
  obtain ⟨ab3, pb3, rfl⟩ := hbt.fas.val
  have FCb := FC.trans fb
  refine hK _ _ FCb ?_
  clear hK K
  try simp only [Act.put, List.setIfInBounds_toArray, List.set_cons_succ, List.set_cons_zero]
  refine mix_do rfl rfl rfl (fun K hK => ?_)
  go_simp
  refine (CF.out _ FCb).mono ?_
  rintro e wf ⟨ff, vf1, vf2, vf3, ysf, cf, rfl, hft⟩
  obtain ⟨af1, pf1, rfl⟩ := hft.cls.sl.val
  obtain ⟨af2, pf2, rfl⟩ := hft.rps.val
  obtain ⟨af3, pf3, rfl⟩ := hft.fas.val
  have FCf := FCb.trans ff
  refine hK _ _ FCf ?_
  clear hK K
  try simp only [Act.put, List.setIfInBounds_toArray, List.set_cons_succ, List.set_cons_zero]
  refine mix_do rfl rfl rfl (fun K hK => ?_)
  go_simp
  have hBL := heap_alloc_new wf (.cells #[.slice bc ys.length qc_, .slice br c.rps.length qr, .slice bf c.fas.length qf, .slice ab1 ysb.length pb1, .slice ab2 cb.rps.length pb2, .slice ab3 cb.fas.length pb3, .slice af1 ysf.length pf1, .slice af2 cf.rps.length pf2, .slice af3 cf.fas.length pf3] 30)
  have fl := Fr.alloc [] wf (.cells #[.slice bc ys.length qc_, .slice br c.rps.length qr, .slice bf c.fas.length qf, .slice ab1 ysb.length pb1, .slice ab2 cb.rps.length pb2, .slice ab3 cb.fas.length pb3, .slice af1 ysf.length pf1, .slice af2 cf.rps.length pf2, .slice af3 cf.fas.length pf3] 30)
  refine hK _ _ (FCf.trans fl) ?_
  clear hK K
  try simp only [Act.put, List.setIfInBounds_toArray, List.set_cons_succ, List.set_cons_zero]
  (refine mix_take1 (v := ?_) rfl rfl rfl rfl (fun w hS => ?_) ?_; rotate_left; (focus (have r0' := hS.cel r0 (by simp); have s0' := hS.cel s0 (by simp); have r1' := hS.cel r1 (by simp); have s1' := hS.cel s1 (by simp); have r2' := hS.cel r2 (by simp); have s2' := hS.cel s2 (by simp); clear hS; go_simp; rfl)); simp only [List.setIfInBounds_toArray, List.set_cons_succ, List.set_cons_zero])
  refine mix_end ?_

  generalize wf.alloc (.cells #[.slice bc ys.length qc_, .slice br c.rps.length qr, .slice bf c.fas.length qf, .slice ab1 ysb.length pb1, .slice ab2 cb.rps.length pb2, .slice ab3 cb.fas.length pb3, .slice af1 ysf.length pf1, .slice af2 cf.rps.length pf2, .slice af3 cf.fas.length pf3] 30) = W8 at *
  generalize wf.heap.size = bl at *
  have F8 := Lib.hid (F3.out.trans (FCf.trans fl))
  have HC5 := Lib.hid ((FCf.trans fl).keep HC2.out (by simp)); have HC6 := Lib.hid ((FCf.trans fl).keep HC3.out (by simp))
  have HK : Hid (∀ k, k < 3 → ∃ xc nc pc xr nr pr xf nf pf ys c, W8.cell? ⟨bl, k * 3, none⟩ = some (.slice xc nc pc) ∧ W8.cell? ⟨bl, k * 3 + 1, none⟩ = some (.slice xr nr pr) ∧ W8.cell? ⟨bl, k * 3 + 2, none⟩ = some (.slice xf nf pf) ∧ RbAt W8 (.slice xc nc pc) (.slice xr nr pr) (.slice xf nf pf) ys c) := Lib.hid (by
    intro k hk
    rw [cell_of_blk hBL, cell_of_blk hBL, cell_of_blk hBL]
    match k, hk with
    | 0, _ => exact ⟨bc, _, qc_, br, _, qr, bf, _, qf, ys, c, rfl, rfl, rfl, ((HO.out.same FCf).same fl).at_ HM.out.ok⟩
    | 1, _ => exact ⟨ab1, _, pb1, ab2, _, pb2, ab3, _, pb3, ysb, cb, rfl, rfl, rfl, (hbt.same ff).same fl⟩
    | 2, _ => exact ⟨af1, _, pf1, af2, _, pf2, af3, _, pf3, ysf, cf, rfl, rfl, rfl, hft.same fl⟩)
  have HZ8 := Lib.hid (HZ.out.same F8.out)
  clear hBL fl FCf FCb FC ff fb hbt hft HO HM HC1 HC2 HC3 F3 HZ HRW CB CF r0 r1 r2 s0 s1 s2
  go_wp2_with fail
  go_loopw [60] (fun i wr => ∃ k : Nat, k ≤ 3 ∧ i = .int .i64 k ∧ Hid (Fr [] W8 wr)) (fun i _ => 3 - (intOf i).toNat)
  case atStart => exact ⟨0, by omega, rfl, Lib.hid (Fr.refl _ _)⟩
  case round =>
    obtain ⟨k1, hk1, rfl, FR1⟩ := hrel
    by_cases hlt1 : k1 < 3
    · skip
      obtain ⟨yc, nc, qc1, yr, nr, qr1, yf, nf, qf1, ys1, c1, u0, u1, u2, hrb⟩ := HK.out k1 hlt1
      have d0 := FR1.out.cel u0 (by simp); have d1 := FR1.out.cel u1 (by simp); have d2 := FR1.out.cel u2 (by simp)
      have HRB := Lib.hid (hrb.same FR1.out)
      clear u0 u1 u2 hrb
      go_wp2_with fail
      have hb20 := heap_alloc_new wr (.cells #[.slice yc nc qc1, .slice yr nr qr1, .slice yf nf qf1] 30)
      have fa := Fr.alloc [] wr (.cells #[.slice yc nc qc1, .slice yr nr qr1, .slice yf nf qf1] 30)
      generalize wr.alloc (.cells #[.slice yc nc qc1, .slice yr nr qr1, .slice yf nf qf1] 30) = WA at *
      generalize wr.heap.size = b20 at *
      have FA1 := Lib.hid (FR1.out.trans fa); have RA := Lib.hid (HRB.out.same fa)
      have e0 := cell_of_blk hb20 0; have e1 := cell_of_blk hb20 1; have e2 := cell_of_blk hb20 2
      have HB20 := Lib.hid hb20
      have CV := Lib.hid fun (W : World) (hf : Fr [] WA W) => valid_c _ _ _ ys1 c1 W (RA.out.same hf)
      have CV2 := Lib.hid fun (W : World) (hf : Fr [] WA W) => rvalid_c _ _ _ ys1 c1 W (RA.out.same hf)
      generalize validB c1 = bv at CV CV2
      clear fa hb20 d0 d1 d2 HRB
      refine reg_mix (Fr [] WA) [0, 2, 1, 3, 4] (by kernel_rfl) (by kernel_rfl) (by kernel_rfl) rfl (Fr.drew _ _) ?_
      have FC : Fr [] WA WA.drew := Fr.drew _ _
      generalize WA.drew = WC at FC ⊢
      iterate 2 (refine mix_take1 (v := ?_) rfl rfl rfl rfl (fun w hS => ?_) ?_; rotate_left; (focus (have e0' := hS.cel e0 (by simp); have e1' := hS.cel e1 (by simp); have e2' := hS.cel e2 (by simp); clear hS; go_simp; rfl)); simp only [List.setIfInBounds_toArray, List.set_cons_succ, List.set_cons_zero])
      refine mix_do rfl rfl rfl (fun K hK => ?_)
      go_simp
      refine (CV.out _ FC).mono ?_
      rintro e wq ⟨rfl, fq⟩
      have FC := FC.trans fq
      clear fq
      refine hK _ _ FC ?_
      clear hK K
      try simp only [Act.put, List.setIfInBounds_toArray, List.set_cons_succ, List.set_cons_zero]
      refine mix_do rfl rfl rfl (fun K hK => ?_)
      go_simp
      refine (CV2.out _ FC).mono ?_
      rintro e wq ⟨rfl, fq⟩
      have FC := FC.trans fq
      clear fq
      refine hK _ _ FC ?_
      clear hK K
      try simp only [Act.put, List.setIfInBounds_toArray, List.set_cons_succ, List.set_cons_zero]
      refine mix_take1 (v := .bool false) rfl rfl rfl rfl (fun w hS => ?_) ?_
      focus (clear hS; go_simp; try simp)
      simp only [List.setIfInBounds_toArray, List.set_cons_succ, List.set_cons_zero]
      refine mix_end ?_

      have FV := Lib.hid (FA1.out.trans FC); have HBV := Lib.hid (FC.keep HB20.out (by simp)); have RV := Lib.hid (RA.out.same FC)
      clear FC CV CV2 e0 e1 e2 HB20 RA FA1
      generalize wq = WV at *
      go_wp2_with fail
      have q0 := cell_of_blk (FV.out.keep HC5.out (by simp)) 0; have q1 := cell_of_blk (FV.out.keep HC5.out (by simp)) 1; have q2 := cell_of_blk (FV.out.keep HC5.out (by simp)) 2; have q3 := cell_of_blk (FV.out.keep HC5.out (by simp)) 3
      have z0 := cell_of_blk (FV.out.keep HC6.out (by simp)) 0; have z1 := cell_of_blk (FV.out.keep HC6.out (by simp)) 1; have z2 := cell_of_blk (FV.out.keep HC6.out (by simp)) 2; have z3 := cell_of_blk (FV.out.keep HC6.out (by simp)) 3
      refine reg_mix (Fr [] WV) [0, 2, 5, 1, 3, 4] (by kernel_rfl) (by kernel_rfl) (by kernel_rfl) rfl (Fr.drew _ _) ?_
      have FC : Fr [] WV WV.drew := Fr.drew _ _
      generalize WV.drew = WC at FC ⊢
      iterate 3 (refine mix_take1 (v := ?_) rfl rfl rfl rfl (fun w hS => ?_) ?_; rotate_left; (focus (have q0' := hS.cel q0 (by simp); have z0' := hS.cel z0 (by simp); have q1' := hS.cel q1 (by simp); have z1' := hS.cel z1 (by simp); have q2' := hS.cel q2 (by simp); have z2' := hS.cel z2 (by simp); have q3' := hS.cel q3 (by simp); have z3' := hS.cel z3 (by simp); clear hS; go_simp; rfl)); simp only [List.setIfInBounds_toArray, List.set_cons_succ, List.set_cons_zero])
      refine mix_do rfl rfl rfl (fun K hK => ?_)
      go_simp
      refine (CQ.out _).mono ?_
      rintro e wq ⟨rfl, fq⟩
      have FC := FC.trans fq
      clear fq
      refine hK _ _ FC ?_
      clear hK K
      try simp only [Act.put, List.setIfInBounds_toArray, List.set_cons_succ, List.set_cons_zero]
      refine mix_do rfl rfl rfl (fun K hK => ?_)
      go_simp
      have hBQ := heap_alloc_new wq (.cells #[.int .i64 x0, .int .i64 x1, .int .i64 x2, .int .i64 x3, .int .i64 o0, .int .i64 o1, .int .i64 o2, .int .i64 o3] 33)
      have fl := Fr.alloc [] wq (.cells #[.int .i64 x0, .int .i64 x1, .int .i64 x2, .int .i64 x3, .int .i64 o0, .int .i64 o1, .int .i64 o2, .int .i64 o3] 33)
      refine hK _ _ (FC.trans fl) ?_
      clear hK K
      try simp only [Act.put, List.setIfInBounds_toArray, List.set_cons_succ, List.set_cons_zero]
      (refine mix_take1 (v := ?_) rfl rfl rfl rfl (fun w hS => ?_) ?_; rotate_left; (focus (have q0' := hS.cel q0 (by simp); have z0' := hS.cel z0 (by simp); have q1' := hS.cel q1 (by simp); have z1' := hS.cel z1 (by simp); have q2' := hS.cel q2 (by simp); have z2' := hS.cel z2 (by simp); have q3' := hS.cel q3 (by simp); have z3' := hS.cel z3 (by simp); clear hS; go_simp; rfl)); simp only [List.setIfInBounds_toArray, List.set_cons_succ, List.set_cons_zero])
      refine mix_end ?_

      generalize wq.alloc (.cells #[.int .i64 x0, .int .i64 x1, .int .i64 x2, .int .i64 x3, .int .i64 o0, .int .i64 o1, .int .i64 o2, .int .i64 o3] 33) = WQ at *
      generalize wq.heap.size = bq at *
      have FQ := Lib.hid (FV.out.trans (FC.trans fl)); have HBW := Lib.hid ((FC.trans fl).keep HBV.out (by simp)); have RQ := Lib.hid ((RV.out.same FC).same fl)
      have HKQ : Hid (∀ k, k < 2 → ∃ y0 y1 y2 y3 : Int, WQ.cell? ⟨bq, k * 4, none⟩ = some (.int .i64 y0) ∧ WQ.cell? ⟨bq, k * 4 + 1, none⟩ = some (.int .i64 y1) ∧ WQ.cell? ⟨bq, k * 4 + 2, none⟩ = some (.int .i64 y2) ∧ WQ.cell? ⟨bq, k * 4 + 3, none⟩ = some (.int .i64 y3)) := Lib.hid (by
        intro k hk
        rw [cell_of_blk hBQ, cell_of_blk hBQ, cell_of_blk hBQ, cell_of_blk hBQ]
        match k, hk with
        | 0, _ => exact ⟨x0, x1, x2, x3, rfl, rfl, rfl, rfl⟩
        | 1, _ => exact ⟨o0, o1, o2, o3, rfl, rfl, rfl, rfl⟩)
      clear FC fl hBQ FV HBV RV q0 q1 q2 q3 z0 z1 z2 z3
      obtain ⟨wo, hwo⟩ : ∃ W : World, W = wr := ⟨_, rfl⟩
      subst hwo
      go_wp2_with fail
      go_loopw [74] (fun i wr => ∃ k : Nat, k ≤ 2 ∧ i = .int .i64 k ∧ Hid (Fr [] WQ wr)) (fun i _ => 2 - (intOf i).toNat)
      case atStart => exact ⟨0, by omega, rfl, Lib.hid (Fr.refl _ _)⟩
      case round =>
        obtain ⟨k2, hk2, rfl, FR2⟩ := hrel
        by_cases hlt2 : k2 < 2
        · skip
          obtain ⟨y0, y1, y2, y3, u0, u1, u2, u3⟩ := HKQ.out k2 hlt2
          have d0 := FR2.out.cel u0 (by simp); have d1 := FR2.out.cel u1 (by simp); have d2 := FR2.out.cel u2 (by simp); have d3 := FR2.out.cel u3 (by simp)
          clear u0 u1 u2 u3
          go_upto_region 12 with fail
          have hb22 := heap_alloc_new wr (.cells #[.int .i64 y0, .int .i64 y1, .int .i64 y2, .int .i64 y3] 33)
          have fa := FR2.out.trans (Fr.alloc [] wr (.cells #[.int .i64 y0, .int .i64 y1, .int .i64 y2, .int .i64 y3] 33))
          generalize wr.alloc (.cells #[.int .i64 y0, .int .i64 y1, .int .i64 y2, .int .i64 y3] 33) = WB at *
          generalize wr.heap.size = b22 at *
          have M0 : Hid (MS WQ b20 b22 (.slice yc nc qc1) (.slice yr nr qr1) (.slice yf nf qf1) ys1 c1 y0 y1 y2 y3 WB) := Lib.hid ⟨fa, fa.keep HBW.out (by simp), hb22, RQ.out.same fa⟩
          clear d0 d1 d2 d3 fa hb22
          obtain ⟨A, eA⟩ : ∃ A, ansA c1 ⟨y0, y1, y2, y3⟩ = A := ⟨_, rfl⟩
          obtain ⟨F, eF⟩ : ∃ F, ansF c1 ⟨y0, y1, y2, y3⟩ = F := ⟨_, rfl⟩
          obtain ⟨C, eC⟩ : ∃ C, ansC c1 ⟨y0, y1, y2, y3⟩ = C := ⟨_, rfl⟩
          have HE := ans_cases c1 ⟨y0, y1, y2, y3⟩
          obtain ⟨E, eE⟩ : ∃ E, ansE c1 ⟨y0, y1, y2, y3⟩ = E := ⟨_, rfl⟩
          obtain ⟨L, eL⟩ : ∃ L, ansL c1 ⟨y0, y1, y2, y3⟩ = L := ⟨_, rfl⟩
          rw [eE, eL] at HE
          have EA := Lib.hid eA; have EF := Lib.hid eF; have EC := Lib.hid eC; have EE := Lib.hid eE; have EL := Lib.hid eL
          clear eA eF eC eE eL
          rcases HE with HE | HE
          · as_aux_lemma =>
            obtain ⟨rfl, hL20⟩ := HE
            obtain ⟨⟨g0, g1, g2⟩, g3, g4, g5, g6⟩ := M0.out.cells
            have CD := Lib.hid (jdecide_c M0.out.at_ A 0 L EA.out EE.out EL.out)
            unfold rbV qnV at CD
            simp only at CD
            go_wp2_with fail
            refine CD.out.mono ?_
            rintro e w1 ⟨aP, pP, rfl, f1, hP⟩
            have M1 := Lib.hid (M0.out.same f1)
            have P1 := Lib.hid hP
            clear f1 hP
            clear g0 g1 g2 g3 g4 g5 g6 CD M0
            obtain ⟨⟨g0, g1, g2⟩, g3, g4, g5, g6⟩ := M1.out.cells
            have CA := Lib.hid (janswer_c M1.out.at_ A 0 EA.out EE.out)
            unfold rbV qnV at CA
            simp only at CA
            go_wp2_with fail
            refine CA.out.mono ?_
            rintro e w2 ⟨rfl, f2⟩
            have M2 := Lib.hid (M1.out.same f2)
            have P2 := Lib.hid (P1.out.same f2)
            clear f2 P1
            clear g0 g1 g2 g3 g4 g5 g6 CA M1
            obtain ⟨⟨g0, g1, g2⟩, g3, g4, g5, g6⟩ := M2.out.cells
            have CS := Lib.hid (japplies_c M2.out.at_ 0 F C EE.out EF.out EC.out)
            unfold rbV qnV at CS
            simp only at CS
            go_wp2_with fail
            refine CS.out.mono ?_
            rintro e w3 ⟨aF, pF, aC, pC, rfl, f3, hF, hC⟩
            have M3 := Lib.hid (M2.out.same f3)
            have P3 := Lib.hid (P2.out.same f3)
            have F3 := Lib.hid hF; have C3 := Lib.hid hC
            clear f3 P2 hF hC
            clear g0 g1 g2 g3 g4 g5 g6 CS M2
            obtain ⟨⟨g0, g1, g2⟩, g3, g4, g5, g6⟩ := M3.out.cells
            have CT := Lib.hid (jrapplies_c M3.out.at_ 0 F C EE.out EF.out EC.out)
            unfold rbV qnV at CT
            simp only at CT
            go_wp2_with fail
            refine CT.out.mono ?_
            rintro e w4 ⟨aG, pG, aD, pD, rfl, f4, hG, hD⟩
            have M4 := Lib.hid (M3.out.same f4)
            have P4 := Lib.hid (P3.out.same f4); have F4 := Lib.hid (F3.out.same f4); have C4 := Lib.hid (C3.out.same f4)
            have G4 := Lib.hid hG; have D4 := Lib.hid hD
            clear f4 P3 F3 C3 hG hD
            clear g0 g1 g2 g3 g4 g5 g6 CT M3
            have K1 := Lib.hid fun (W : World) => asks_c ⟨y0, y1, y2, y3⟩ W
            have K2 := Lib.hid fun (W : World) => rasks_c ⟨y0, y1, y2, y3⟩ W
            generalize asksB ⟨y0, y1, y2, y3⟩ = bk at K1 K2
            have I1 := Lib.hid fun (W : World) (hf : Fr [] w4 W) => jints_c (F4.out.same hf) (G4.out.same hf)
            have I2 := Lib.hid fun (W : World) (hf : Fr [] w4 W) => jints_c (C4.out.same hf) (D4.out.same hf)
            unfold qnV at K1 K2
            simp only at K1 K2
            go_wp2_with fail
            obtain ⟨⟨g0, g1, g2⟩, g3, g4, g5, g6⟩ := M4.out.cells
            refine reg_mix (Fr [] w4) [0, 2, 1, 3, 4, 5, 6, 7, 8, 9, 10, 11, 12, 13, 14, 15, 16, 17, 18, 19, 20, 21, 22, 23, 24, 25, 26, 27, 28, 29, 30, 31, 32, 33, 34, 35, 36, 37, 38, 39, 40] (by kernel_rfl) (by kernel_rfl) (by kernel_rfl) rfl (Fr.drew _ _) ?_
            have FC : Fr [] w4 w4.drew := Fr.drew _ _
            generalize w4.drew = WC at FC ⊢
            iterate 2 (refine mix_take1 (v := ?_) rfl rfl rfl rfl (fun w hS => ?_) ?_; rotate_left; (focus (have g3' := hS.cel g3 (by simp); have g4' := hS.cel g4 (by simp); have g5' := hS.cel g5 (by simp); have g6' := hS.cel g6 (by simp); clear hS; go_simp; rfl)); simp only [List.setIfInBounds_toArray, List.set_cons_succ, List.set_cons_zero])
            refine mix_do rfl rfl rfl (fun K hK => ?_)
            go_simp
            refine (K1.out _).mono ?_
            rintro e wq ⟨rfl, fq⟩
            have FC := FC.trans fq
            clear fq
            refine hK _ _ FC ?_
            clear hK K
            try simp only [Act.put, List.setIfInBounds_toArray, List.set_cons_succ, List.set_cons_zero]
            refine mix_do rfl rfl rfl (fun K hK => ?_)
            go_simp
            refine (K2.out _).mono ?_
            rintro e wq ⟨rfl, fq⟩
            have FC := FC.trans fq
            clear fq
            refine hK _ _ FC ?_
            clear hK K
            try simp only [Act.put, List.setIfInBounds_toArray, List.set_cons_succ, List.set_cons_zero]
            refine mix_take1 (v := .bool false) rfl rfl rfl rfl (fun w hS => ?_) ?_
            focus (clear hS; go_simp; try simp)
            simp only [List.setIfInBounds_toArray, List.set_cons_succ, List.set_cons_zero]
            (refine mix_take1 (v := ?_) rfl rfl rfl rfl (fun w hS => ?_) ?_; rotate_left; (focus (clear hS; go_simp; rfl)); simp only [List.setIfInBounds_toArray, List.set_cons_succ, List.set_cons_zero])
            iterate 2 (refine mix_takeg (v := ?_) rfl rfl rfl rfl rfl rfl (fun w hS => ?_) ?_; rotate_left; (focus (clear hS; go_simp; rfl)); simp only [List.setIfInBounds_toArray, List.set_cons_succ, List.set_cons_zero])
            refine mix_takeg (v := .bool false) rfl rfl rfl rfl rfl rfl (fun w hS => ?_) ?_
            focus (clear hS; go_simp; try simp)
            simp only [List.setIfInBounds_toArray, List.set_cons_succ, List.set_cons_zero]
            iterate 2 (refine mix_take1 (v := ?_) rfl rfl rfl rfl (fun w hS => ?_) ?_; rotate_left; (focus (clear hS; go_simp; rfl)); simp only [List.setIfInBounds_toArray, List.set_cons_succ, List.set_cons_zero])
            iterate 2 (refine mix_takeg (v := ?_) rfl rfl rfl rfl rfl rfl (fun w hS => ?_) ?_; rotate_left; (focus (clear hS; go_simp; rfl)); simp only [List.setIfInBounds_toArray, List.set_cons_succ, List.set_cons_zero])
            refine mix_takeg (v := .bool false) rfl rfl rfl rfl rfl rfl (fun w hS => ?_) ?_
            focus (clear hS; go_simp; try simp)
            simp only [List.setIfInBounds_toArray, List.set_cons_succ, List.set_cons_zero]
            iterate 2 (refine mix_take1 (v := ?_) rfl rfl rfl rfl (fun w hS => ?_) ?_; rotate_left; (focus (clear hS; go_simp; rfl)); simp only [List.setIfInBounds_toArray, List.set_cons_succ, List.set_cons_zero])
            iterate 3 (refine mix_takeg (v := ?_) rfl rfl rfl rfl rfl rfl (fun w hS => ?_) ?_; rotate_left; (focus (clear hS; go_simp; rfl)); simp only [List.setIfInBounds_toArray, List.set_cons_succ, List.set_cons_zero])
            iterate 3 (refine mix_skipT rfl rfl rfl rfl rfl FC ?_; simp only [List.setIfInBounds_toArray, List.set_cons_succ, List.set_cons_zero])
            (refine mix_takeg (v := ?_) rfl rfl rfl rfl rfl rfl (fun w hS => ?_) ?_; rotate_left; (focus (clear hS; go_simp; rfl)); simp only [List.setIfInBounds_toArray, List.set_cons_succ, List.set_cons_zero])
            iterate 2 (refine mix_take1 (v := ?_) rfl rfl rfl rfl (fun w hS => ?_) ?_; rotate_left; (focus (clear hS; go_simp; rfl)); simp only [List.setIfInBounds_toArray, List.set_cons_succ, List.set_cons_zero])
            iterate 2 (refine mix_takeg (v := ?_) rfl rfl rfl rfl rfl rfl (fun w hS => ?_) ?_; rotate_left; (focus (clear hS; go_simp; rfl)); simp only [List.setIfInBounds_toArray, List.set_cons_succ, List.set_cons_zero])
            refine mix_takeg (v := .bool false) rfl rfl rfl rfl rfl rfl (fun w hS => ?_) ?_
            focus (clear hS; go_simp; try simp)
            simp only [List.setIfInBounds_toArray, List.set_cons_succ, List.set_cons_zero]
            iterate 2 (refine mix_take1 (v := ?_) rfl rfl rfl rfl (fun w hS => ?_) ?_; rotate_left; (focus (clear hS; go_simp; rfl)); simp only [List.setIfInBounds_toArray, List.set_cons_succ, List.set_cons_zero])
            iterate 2 (refine mix_takeg (v := ?_) rfl rfl rfl rfl rfl rfl (fun w hS => ?_) ?_; rotate_left; (focus (clear hS; go_simp; rfl)); simp only [List.setIfInBounds_toArray, List.set_cons_succ, List.set_cons_zero])
            refine mix_dog rfl rfl rfl rfl rfl (fun K hK => ?_)
            go_simp
            refine (I1.out _ FC).mono ?_
            rintro e wq ⟨rfl, fq⟩
            have FC := FC.trans fq
            clear fq
            refine hK _ _ FC ?_
            clear hK K
            try simp only [Act.put, List.setIfInBounds_toArray, List.set_cons_succ, List.set_cons_zero]
            (refine mix_takeg (v := ?_) rfl rfl rfl rfl rfl rfl (fun w hS => ?_) ?_; rotate_left; (focus (clear hS; go_simp; rfl)); simp only [List.setIfInBounds_toArray, List.set_cons_succ, List.set_cons_zero])
            iterate 2 (refine mix_take1 (v := ?_) rfl rfl rfl rfl (fun w hS => ?_) ?_; rotate_left; (focus (clear hS; go_simp; rfl)); simp only [List.setIfInBounds_toArray, List.set_cons_succ, List.set_cons_zero])
            iterate 2 (refine mix_takeg (v := ?_) rfl rfl rfl rfl rfl rfl (fun w hS => ?_) ?_; rotate_left; (focus (clear hS; go_simp; rfl)); simp only [List.setIfInBounds_toArray, List.set_cons_succ, List.set_cons_zero])
            refine mix_dog rfl rfl rfl rfl rfl (fun K hK => ?_)
            go_simp
            refine (I2.out _ FC).mono ?_
            rintro e wq ⟨rfl, fq⟩
            have FC := FC.trans fq
            clear fq
            refine hK _ _ FC ?_
            clear hK K
            try simp only [Act.put, List.setIfInBounds_toArray, List.set_cons_succ, List.set_cons_zero]
            (refine mix_takeg (v := ?_) rfl rfl rfl rfl rfl rfl (fun w hS => ?_) ?_; rotate_left; (focus (clear hS; go_simp; rfl)); simp only [List.setIfInBounds_toArray, List.set_cons_succ, List.set_cons_zero])
            (refine mix_take1 (v := ?_) rfl rfl rfl rfl (fun w hS => ?_) ?_; rotate_left; (focus (clear hS; go_simp; rfl)); simp only [List.setIfInBounds_toArray, List.set_cons_succ, List.set_cons_zero])
            refine mix_end ?_

            have M5 := Lib.hid (M4.out.same FC); have P5 := Lib.hid (P4.out.same FC)
            clear FC I1 I2 K1 K2 g0 g1 g2 g3 g4 g5 g6 M4 P4 F4 G4 C4 D4
            generalize wq = w5 at *
            have CP := Lib.hid (bent_c _ L how n at_ w5 P5.out.src (by first | omega | simp) i1 i3)
            go_wp2_with fail
            refine CP.out.mono ?_
            rintro e w6 ⟨f6, v6, l6, rfl, hF6, hl6⟩
            obtain ⟨a6, p6, rfl⟩ := hF6.sl.val
            have M6 := Lib.hid (M5.out.same f6); have P6 := Lib.hid (P5.out.same f6); have S6 := Lib.hid hF6
            clear f6 hF6 M5 P5 CP hl6
            go_upto_block 4 with fail
            have hBF := heap_alloc_new w6 (.cells #[.slice aP L.length pP, .slice a6 l6.length p6, .slice az m pz] 34)
            have fl := Fr.alloc [] w6 (.cells #[.slice aP L.length pP, .slice a6 l6.length p6, .slice az m pz] 34)
            generalize w6.alloc (.cells #[.slice aP L.length pP, .slice a6 l6.length p6, .slice az m pz] 34) = WF at *
            generalize w6.heap.size = bfl at *
            have MF := Lib.hid (M6.out.same fl)
            have HKF : Hid (∀ k, k < 3 → ∃ zv zl zn zp, WF.cell? ⟨bfl, k, none⟩ = some (.slice zv zn zp) ∧ Sl WF (.slice zv zn zp) zl.length (List.flatMap fdC zl)) := Lib.hid (by
              intro k hk
              rw [cell_of_blk hBF]
              match k, hk with
              | 0, _ => exact ⟨aP, L, _, pP, rfl, (P6.out.same fl).sl⟩
              | 1, _ => exact ⟨a6, l6, _, p6, rfl, (S6.out.same fl).sl⟩
              | 2, _ => exact ⟨az, lz.take m, _, pz, rfl, HZ8.out.same (FQ.out.trans MF.out.fr)⟩)
            clear hBF fl M6 P6 S6
            obtain ⟨wo2, hwo⟩ : ∃ W : World, W = wr := ⟨_, rfl⟩
            subst hwo
            go_wp2_with fail
            go_loopw [155] (fun i wr => ∃ k : Nat, k ≤ 3 ∧ i = .int .i64 k ∧ Hid (Fr [] WF wr)) (fun i _ => 3 - (intOf i).toNat)
            case atStart => exact ⟨0, by omega, rfl, Lib.hid (Fr.refl _ _)⟩
            case round =>
              obtain ⟨k3, hk3, rfl, FR3⟩ := hrel
              by_cases hlt3 : k3 < 3
              · skip
                obtain ⟨zv, zl, zn, zp, u0, hzs⟩ := HKF.out k3 hlt3
                have d0 := FR3.out.cel u0 (by simp)
                have S0 := Lib.hid (hzs.same FR3.out); have M0 := Lib.hid (MF.out.same FR3.out)
                clear u0 hzs
                obtain ⟨U, eU⟩ : ∃ U, useE c1 ⟨y0, y1, y2, y3⟩ zl = U := ⟨_, rfl⟩
                obtain ⟨X, eX⟩ : ∃ X, useS c1 ⟨y0, y1, y2, y3⟩ zl = X := ⟨_, rfl⟩
                obtain ⟨Y, eY⟩ : ∃ Y, useT c1 ⟨y0, y1, y2, y3⟩ zl = Y := ⟨_, rfl⟩
                have EU := Lib.hid eU; have EX := Lib.hid eX; have EY := Lib.hid eY
                clear eU eX eY
                obtain ⟨⟨g0, g1, g2⟩, g3, g4, g5, g6⟩ := M0.out.cells
                have CU := Lib.hid (juses_c M0.out.at_ S0.out U X Y EU.out EX.out EY.out)
                unfold rbV qnV at CU
                simp only at CU
                go_wp2_with fail
                refine CU.out.mono ?_
                rintro e w1 ⟨aF, pF, aC, pC, rfl, f1, hF, hC⟩
                have M1 := Lib.hid (M0.out.same f1)
                have S1 := Lib.hid (S0.out.same f1); have F1 := Lib.hid hF; have C1 := Lib.hid hC
                have R1 := Lib.hid (FR3.out.trans f1)
                clear f1 hF hC S0 d0
                clear g0 g1 g2 g3 g4 g5 g6 CU M0
                obtain ⟨⟨g0, g1, g2⟩, g3, g4, g5, g6⟩ := M1.out.cells
                have CW := Lib.hid (jruses_c M1.out.at_ S1.out U X Y EU.out EX.out EY.out)
                unfold rbV qnV at CW
                simp only at CW
                go_wp2_with fail
                refine CW.out.mono ?_
                rintro e w2 ⟨aG, pG, aD, pD, rfl, f2, hG, hD⟩
                have M2 := Lib.hid (M1.out.same f2)
                have S2 := Lib.hid (S1.out.same f2); have F2 := Lib.hid (F1.out.same f2); have C2 := Lib.hid (C1.out.same f2); have G2 := Lib.hid hG; have D2 := Lib.hid hD
                have R2 := Lib.hid (R1.out.trans f2)
                clear f2 hG hD S1 F1 C1 R1
                clear g0 g1 g2 g3 g4 g5 g6 CW M1
                have I1 := Lib.hid fun (W : World) (hf : Fr [] w2 W) => jints_c (F2.out.same hf) (G2.out.same hf)
                have I2 := Lib.hid fun (W : World) (hf : Fr [] w2 W) => jints_c (C2.out.same hf) (D2.out.same hf)
                have T1 := Lib.hid fun (W : World) (hf : Fr [] w2 W) => check_c _ _ _ _ ys1 c1 ⟨y0, y1, y2, y3⟩ true zl W (M2.out.at_.same hf) (S2.out.same hf)
                have T2 := Lib.hid fun (W : World) (hf : Fr [] w2 W) => rcheck_c _ _ _ _ ys1 c1 ⟨y0, y1, y2, y3⟩ true zl W (M2.out.at_.same hf) (S2.out.same hf)
                have T3 := Lib.hid fun (W : World) (hf : Fr [] w2 W) => check_c _ _ _ _ ys1 c1 ⟨y0, y1, y2, y3⟩ false zl W (M2.out.at_.same hf) (S2.out.same hf)
                have T4 := Lib.hid fun (W : World) (hf : Fr [] w2 W) => rcheck_c _ _ _ _ ys1 c1 ⟨y0, y1, y2, y3⟩ false zl W (M2.out.at_.same hf) (S2.out.same hf)
                generalize checkB c1 ⟨y0, y1, y2, y3⟩ true zl = t1 at T1 T2
                generalize checkB c1 ⟨y0, y1, y2, y3⟩ false zl = t2 at T3 T4
                unfold rbV qnV at T1 T2 T3 T4
                simp only at T1 T2 T3 T4
                go_wp2_with fail
                obtain ⟨⟨g0, g1, g2⟩, g3, g4, g5, g6⟩ := M2.out.cells
                refine reg_mix (Fr [] w2) [0, 1, 2, 3, 4, 5, 6, 7, 8, 9, 10, 11, 12, 13, 14, 15, 16, 17, 18, 20, 21, 22, 19, 23, 24, 25, 26, 27, 28, 29, 31, 32, 33, 30, 34, 35, 36] (by kernel_rfl) (by kernel_rfl) (by kernel_rfl) rfl (Fr.drew _ _) ?_
                have FC : Fr [] w2 w2.drew := Fr.drew _ _
                generalize w2.drew = WC at FC ⊢
                iterate 2 (refine mix_take1 (v := ?_) rfl rfl rfl rfl (fun w hS => ?_) ?_; rotate_left; (focus (clear hS; go_simp; rfl)); simp only [List.setIfInBounds_toArray, List.set_cons_succ, List.set_cons_zero])
                refine mix_take1 (v := .bool false) rfl rfl rfl rfl (fun w hS => ?_) ?_
                focus (clear hS; go_simp; try simp)
                simp only [List.setIfInBounds_toArray, List.set_cons_succ, List.set_cons_zero]
                (refine mix_take1 (v := ?_) rfl rfl rfl rfl (fun w hS => ?_) ?_; rotate_left; (focus (clear hS; go_simp; rfl)); simp only [List.setIfInBounds_toArray, List.set_cons_succ, List.set_cons_zero])
                iterate 2 (refine mix_takeg (v := ?_) rfl rfl rfl rfl rfl rfl (fun w hS => ?_) ?_; rotate_left; (focus (clear hS; go_simp; rfl)); simp only [List.setIfInBounds_toArray, List.set_cons_succ, List.set_cons_zero])
                refine mix_dog rfl rfl rfl rfl rfl (fun K hK => ?_)
                go_simp
                refine (I1.out _ FC).mono ?_
                rintro e wq ⟨rfl, fq⟩
                have FC := FC.trans fq
                clear fq
                refine hK _ _ FC ?_
                clear hK K
                try simp only [Act.put, List.setIfInBounds_toArray, List.set_cons_succ, List.set_cons_zero]
                (refine mix_takeg (v := ?_) rfl rfl rfl rfl rfl rfl (fun w hS => ?_) ?_; rotate_left; (focus (clear hS; go_simp; rfl)); simp only [List.setIfInBounds_toArray, List.set_cons_succ, List.set_cons_zero])
                iterate 2 (refine mix_take1 (v := ?_) rfl rfl rfl rfl (fun w hS => ?_) ?_; rotate_left; (focus (clear hS; go_simp; rfl)); simp only [List.setIfInBounds_toArray, List.set_cons_succ, List.set_cons_zero])
                iterate 2 (refine mix_takeg (v := ?_) rfl rfl rfl rfl rfl rfl (fun w hS => ?_) ?_; rotate_left; (focus (clear hS; go_simp; rfl)); simp only [List.setIfInBounds_toArray, List.set_cons_succ, List.set_cons_zero])
                refine mix_dog rfl rfl rfl rfl rfl (fun K hK => ?_)
                go_simp
                refine (I2.out _ FC).mono ?_
                rintro e wq ⟨rfl, fq⟩
                have FC := FC.trans fq
                clear fq
                refine hK _ _ FC ?_
                clear hK K
                try simp only [Act.put, List.setIfInBounds_toArray, List.set_cons_succ, List.set_cons_zero]
                (refine mix_takeg (v := ?_) rfl rfl rfl rfl rfl rfl (fun w hS => ?_) ?_; rotate_left; (focus (clear hS; go_simp; rfl)); simp only [List.setIfInBounds_toArray, List.set_cons_succ, List.set_cons_zero])
                iterate 2 (refine mix_take1 (v := ?_) rfl rfl rfl rfl (fun w hS => ?_) ?_; rotate_left; (focus (clear hS; go_simp; rfl)); simp only [List.setIfInBounds_toArray, List.set_cons_succ, List.set_cons_zero])
                iterate 6 (refine mix_takeg (v := ?_) rfl rfl rfl rfl rfl rfl (fun w hS => ?_) ?_; rotate_left; (focus (have g0' := hS.cel g0 (by simp); have g1' := hS.cel g1 (by simp); have g2' := hS.cel g2 (by simp); have g3' := hS.cel g3 (by simp); have g4' := hS.cel g4 (by simp); have g5' := hS.cel g5 (by simp); have g6' := hS.cel g6 (by simp); clear hS; go_simp; rfl)); simp only [List.setIfInBounds_toArray, List.set_cons_succ, List.set_cons_zero])
                refine mix_dog rfl rfl rfl rfl rfl (fun K hK => ?_)
                go_simp
                refine (T1.out _ FC).mono ?_
                rintro e wq ⟨rfl, fq⟩
                have FC := FC.trans fq
                clear fq
                refine hK _ _ FC ?_
                clear hK K
                try simp only [Act.put, List.setIfInBounds_toArray, List.set_cons_succ, List.set_cons_zero]
                refine mix_dog rfl rfl rfl rfl rfl (fun K hK => ?_)
                go_simp
                refine (T2.out _ FC).mono ?_
                rintro e wq ⟨rfl, fq⟩
                have FC := FC.trans fq
                clear fq
                refine hK _ _ FC ?_
                clear hK K
                try simp only [Act.put, List.setIfInBounds_toArray, List.set_cons_succ, List.set_cons_zero]
                refine mix_takeg (v := .bool false) rfl rfl rfl rfl rfl rfl (fun w hS => ?_) ?_
                focus (clear hS; go_simp; try simp)
                simp only [List.setIfInBounds_toArray, List.set_cons_succ, List.set_cons_zero]
                iterate 2 (refine mix_take1 (v := ?_) rfl rfl rfl rfl (fun w hS => ?_) ?_; rotate_left; (focus (clear hS; go_simp; rfl)); simp only [List.setIfInBounds_toArray, List.set_cons_succ, List.set_cons_zero])
                iterate 6 (refine mix_takeg (v := ?_) rfl rfl rfl rfl rfl rfl (fun w hS => ?_) ?_; rotate_left; (focus (have g0' := hS.cel g0 (by simp); have g1' := hS.cel g1 (by simp); have g2' := hS.cel g2 (by simp); have g3' := hS.cel g3 (by simp); have g4' := hS.cel g4 (by simp); have g5' := hS.cel g5 (by simp); have g6' := hS.cel g6 (by simp); clear hS; go_simp; rfl)); simp only [List.setIfInBounds_toArray, List.set_cons_succ, List.set_cons_zero])
                refine mix_dog rfl rfl rfl rfl rfl (fun K hK => ?_)
                go_simp
                refine (T3.out _ FC).mono ?_
                rintro e wq ⟨rfl, fq⟩
                have FC := FC.trans fq
                clear fq
                refine hK _ _ FC ?_
                clear hK K
                try simp only [Act.put, List.setIfInBounds_toArray, List.set_cons_succ, List.set_cons_zero]
                refine mix_dog rfl rfl rfl rfl rfl (fun K hK => ?_)
                go_simp
                refine (T4.out _ FC).mono ?_
                rintro e wq ⟨rfl, fq⟩
                have FC := FC.trans fq
                clear fq
                refine hK _ _ FC ?_
                clear hK K
                try simp only [Act.put, List.setIfInBounds_toArray, List.set_cons_succ, List.set_cons_zero]
                refine mix_takeg (v := .bool false) rfl rfl rfl rfl rfl rfl (fun w hS => ?_) ?_
                focus (clear hS; go_simp; try simp)
                simp only [List.setIfInBounds_toArray, List.set_cons_succ, List.set_cons_zero]
                (refine mix_take1 (v := ?_) rfl rfl rfl rfl (fun w hS => ?_) ?_; rotate_left; (focus (clear hS; go_simp; rfl)); simp only [List.setIfInBounds_toArray, List.set_cons_succ, List.set_cons_zero])
                refine mix_end ?_

                have FN3 := Lib.hid (R2.out.trans FC)
                clear FC I1 I2 T1 T2 T3 T4 g0 g1 g2 g3 g4 g5 g6
                go_wp2_with fail
                go_roundw
                case rel => exact ⟨k3 + 1, by omega, by go_num, FN3⟩
                case measure => simp [intOf]; omega
              · obtain rfl : k3 = 3 := by omega
                have FN2 := Lib.hid (MF.out.fr.trans FR3.out)
                go_wp2_with fail
                go_roundw
                case rel => exact ⟨k2 + 1, by omega, by go_num, FN2⟩
                case measure => simp [intOf]; omega
          · as_aux_lemma =>
            obtain ⟨rfl, rfl⟩ := HE
            obtain ⟨⟨g0, g1, g2⟩, g3, g4, g5, g6⟩ := M0.out.cells
            have CD := Lib.hid (jdecide_c M0.out.at_ A 80 [] EA.out EE.out EL.out)
            unfold rbV qnV at CD
            simp only [List.length_nil] at CD
            go_wp2_with fail
            refine CD.out.mono ?_
            rintro e w1 ⟨aP, pP, rfl, f1, hP⟩
            have M1 := Lib.hid (M0.out.same f1)
            have P1 := Lib.hid hP
            clear f1 hP
            clear g0 g1 g2 g3 g4 g5 g6 CD M0
            obtain ⟨⟨g0, g1, g2⟩, g3, g4, g5, g6⟩ := M1.out.cells
            have CA := Lib.hid (janswer_c M1.out.at_ A 80 EA.out EE.out)
            unfold rbV qnV at CA
            simp only at CA
            go_wp2_with fail
            refine CA.out.mono ?_
            rintro e w2 ⟨rfl, f2⟩
            have M2 := Lib.hid (M1.out.same f2)
            have P2 := Lib.hid (P1.out.same f2)
            clear f2 P1
            clear g0 g1 g2 g3 g4 g5 g6 CA M1
            obtain ⟨⟨g0, g1, g2⟩, g3, g4, g5, g6⟩ := M2.out.cells
            have CS := Lib.hid (japplies_c M2.out.at_ 80 F C EE.out EF.out EC.out)
            unfold rbV qnV at CS
            simp only at CS
            go_wp2_with fail
            refine CS.out.mono ?_
            rintro e w3 ⟨aF, pF, aC, pC, rfl, f3, hF, hC⟩
            have M3 := Lib.hid (M2.out.same f3)
            have P3 := Lib.hid (P2.out.same f3)
            have F3 := Lib.hid hF; have C3 := Lib.hid hC
            clear f3 P2 hF hC
            clear g0 g1 g2 g3 g4 g5 g6 CS M2
            obtain ⟨⟨g0, g1, g2⟩, g3, g4, g5, g6⟩ := M3.out.cells
            have CT := Lib.hid (jrapplies_c M3.out.at_ 80 F C EE.out EF.out EC.out)
            unfold rbV qnV at CT
            simp only at CT
            go_wp2_with fail
            refine CT.out.mono ?_
            rintro e w4 ⟨aG, pG, aD, pD, rfl, f4, hG, hD⟩
            have M4 := Lib.hid (M3.out.same f4)
            have P4 := Lib.hid (P3.out.same f4); have F4 := Lib.hid (F3.out.same f4); have C4 := Lib.hid (C3.out.same f4)
            have G4 := Lib.hid hG; have D4 := Lib.hid hD
            clear f4 P3 F3 C3 hG hD
            clear g0 g1 g2 g3 g4 g5 g6 CT M3
            have K1 := Lib.hid fun (W : World) => asks_c ⟨y0, y1, y2, y3⟩ W
            have K2 := Lib.hid fun (W : World) => rasks_c ⟨y0, y1, y2, y3⟩ W
            generalize asksB ⟨y0, y1, y2, y3⟩ = bk at K1 K2
            have I1 := Lib.hid fun (W : World) (hf : Fr [] w4 W) => jints_c (F4.out.same hf) (G4.out.same hf)
            have I2 := Lib.hid fun (W : World) (hf : Fr [] w4 W) => jints_c (C4.out.same hf) (D4.out.same hf)
            unfold qnV at K1 K2
            simp only at K1 K2
            go_wp2_with fail
            obtain ⟨⟨g0, g1, g2⟩, g3, g4, g5, g6⟩ := M4.out.cells
            refine reg_mix (Fr [] w4) [0, 2, 1, 3, 4, 5, 6, 7, 8, 9, 10, 11, 12, 13, 14, 15, 16, 17, 18, 19, 20, 21, 22, 23, 24, 25, 26, 27, 28, 29, 30, 31, 32, 33, 34, 35, 36, 37, 38, 39, 40] (by kernel_rfl) (by kernel_rfl) (by kernel_rfl) rfl (Fr.drew _ _) ?_
            have FC : Fr [] w4 w4.drew := Fr.drew _ _
            generalize w4.drew = WC at FC ⊢
            iterate 2 (refine mix_take1 (v := ?_) rfl rfl rfl rfl (fun w hS => ?_) ?_; rotate_left; (focus (have g3' := hS.cel g3 (by simp); have g4' := hS.cel g4 (by simp); have g5' := hS.cel g5 (by simp); have g6' := hS.cel g6 (by simp); clear hS; go_simp; rfl)); simp only [List.setIfInBounds_toArray, List.set_cons_succ, List.set_cons_zero])
            refine mix_do rfl rfl rfl (fun K hK => ?_)
            go_simp
            refine (K1.out _).mono ?_
            rintro e wq ⟨rfl, fq⟩
            have FC := FC.trans fq
            clear fq
            refine hK _ _ FC ?_
            clear hK K
            try simp only [Act.put, List.setIfInBounds_toArray, List.set_cons_succ, List.set_cons_zero]
            refine mix_do rfl rfl rfl (fun K hK => ?_)
            go_simp
            refine (K2.out _).mono ?_
            rintro e wq ⟨rfl, fq⟩
            have FC := FC.trans fq
            clear fq
            refine hK _ _ FC ?_
            clear hK K
            try simp only [Act.put, List.setIfInBounds_toArray, List.set_cons_succ, List.set_cons_zero]
            refine mix_take1 (v := .bool false) rfl rfl rfl rfl (fun w hS => ?_) ?_
            focus (clear hS; go_simp; try simp)
            simp only [List.setIfInBounds_toArray, List.set_cons_succ, List.set_cons_zero]
            (refine mix_take1 (v := ?_) rfl rfl rfl rfl (fun w hS => ?_) ?_; rotate_left; (focus (clear hS; go_simp; rfl)); simp only [List.setIfInBounds_toArray, List.set_cons_succ, List.set_cons_zero])
            iterate 2 (refine mix_takeg (v := ?_) rfl rfl rfl rfl rfl rfl (fun w hS => ?_) ?_; rotate_left; (focus (clear hS; go_simp; rfl)); simp only [List.setIfInBounds_toArray, List.set_cons_succ, List.set_cons_zero])
            refine mix_takeg (v := .bool false) rfl rfl rfl rfl rfl rfl (fun w hS => ?_) ?_
            focus (clear hS; go_simp; try simp)
            simp only [List.setIfInBounds_toArray, List.set_cons_succ, List.set_cons_zero]
            iterate 2 (refine mix_take1 (v := ?_) rfl rfl rfl rfl (fun w hS => ?_) ?_; rotate_left; (focus (clear hS; go_simp; rfl)); simp only [List.setIfInBounds_toArray, List.set_cons_succ, List.set_cons_zero])
            iterate 2 (refine mix_takeg (v := ?_) rfl rfl rfl rfl rfl rfl (fun w hS => ?_) ?_; rotate_left; (focus (clear hS; go_simp; rfl)); simp only [List.setIfInBounds_toArray, List.set_cons_succ, List.set_cons_zero])
            refine mix_takeg (v := .bool false) rfl rfl rfl rfl rfl rfl (fun w hS => ?_) ?_
            focus (clear hS; go_simp; try simp)
            simp only [List.setIfInBounds_toArray, List.set_cons_succ, List.set_cons_zero]
            iterate 2 (refine mix_take1 (v := ?_) rfl rfl rfl rfl (fun w hS => ?_) ?_; rotate_left; (focus (clear hS; go_simp; rfl)); simp only [List.setIfInBounds_toArray, List.set_cons_succ, List.set_cons_zero])
            iterate 3 (refine mix_takeg (v := ?_) rfl rfl rfl rfl rfl rfl (fun w hS => ?_) ?_; rotate_left; (focus (clear hS; go_simp; rfl)); simp only [List.setIfInBounds_toArray, List.set_cons_succ, List.set_cons_zero])
            iterate 3 (refine mix_takeg (v := ?_) rfl rfl rfl rfl rfl rfl (fun w hS => ?_) ?_; rotate_left; (focus (clear hS; go_simp; rfl)); simp only [List.setIfInBounds_toArray, List.set_cons_succ, List.set_cons_zero])
            (refine mix_takeg (v := ?_) rfl rfl rfl rfl rfl rfl (fun w hS => ?_) ?_; rotate_left; (focus (clear hS; go_simp; rfl)); simp only [List.setIfInBounds_toArray, List.set_cons_succ, List.set_cons_zero])
            iterate 2 (refine mix_take1 (v := ?_) rfl rfl rfl rfl (fun w hS => ?_) ?_; rotate_left; (focus (clear hS; go_simp; rfl)); simp only [List.setIfInBounds_toArray, List.set_cons_succ, List.set_cons_zero])
            iterate 2 (refine mix_takeg (v := ?_) rfl rfl rfl rfl rfl rfl (fun w hS => ?_) ?_; rotate_left; (focus (clear hS; go_simp; rfl)); simp only [List.setIfInBounds_toArray, List.set_cons_succ, List.set_cons_zero])
            refine mix_takeg (v := .bool false) rfl rfl rfl rfl rfl rfl (fun w hS => ?_) ?_
            focus (clear hS; go_simp; try simp)
            simp only [List.setIfInBounds_toArray, List.set_cons_succ, List.set_cons_zero]
            iterate 2 (refine mix_take1 (v := ?_) rfl rfl rfl rfl (fun w hS => ?_) ?_; rotate_left; (focus (clear hS; go_simp; rfl)); simp only [List.setIfInBounds_toArray, List.set_cons_succ, List.set_cons_zero])
            iterate 2 (refine mix_takeg (v := ?_) rfl rfl rfl rfl rfl rfl (fun w hS => ?_) ?_; rotate_left; (focus (clear hS; go_simp; rfl)); simp only [List.setIfInBounds_toArray, List.set_cons_succ, List.set_cons_zero])
            refine mix_dog rfl rfl rfl rfl rfl (fun K hK => ?_)
            go_simp
            refine (I1.out _ FC).mono ?_
            rintro e wq ⟨rfl, fq⟩
            have FC := FC.trans fq
            clear fq
            refine hK _ _ FC ?_
            clear hK K
            try simp only [Act.put, List.setIfInBounds_toArray, List.set_cons_succ, List.set_cons_zero]
            (refine mix_takeg (v := ?_) rfl rfl rfl rfl rfl rfl (fun w hS => ?_) ?_; rotate_left; (focus (clear hS; go_simp; rfl)); simp only [List.setIfInBounds_toArray, List.set_cons_succ, List.set_cons_zero])
            iterate 2 (refine mix_take1 (v := ?_) rfl rfl rfl rfl (fun w hS => ?_) ?_; rotate_left; (focus (clear hS; go_simp; rfl)); simp only [List.setIfInBounds_toArray, List.set_cons_succ, List.set_cons_zero])
            iterate 2 (refine mix_takeg (v := ?_) rfl rfl rfl rfl rfl rfl (fun w hS => ?_) ?_; rotate_left; (focus (clear hS; go_simp; rfl)); simp only [List.setIfInBounds_toArray, List.set_cons_succ, List.set_cons_zero])
            refine mix_dog rfl rfl rfl rfl rfl (fun K hK => ?_)
            go_simp
            refine (I2.out _ FC).mono ?_
            rintro e wq ⟨rfl, fq⟩
            have FC := FC.trans fq
            clear fq
            refine hK _ _ FC ?_
            clear hK K
            try simp only [Act.put, List.setIfInBounds_toArray, List.set_cons_succ, List.set_cons_zero]
            (refine mix_takeg (v := ?_) rfl rfl rfl rfl rfl rfl (fun w hS => ?_) ?_; rotate_left; (focus (clear hS; go_simp; rfl)); simp only [List.setIfInBounds_toArray, List.set_cons_succ, List.set_cons_zero])
            (refine mix_take1 (v := ?_) rfl rfl rfl rfl (fun w hS => ?_) ?_; rotate_left; (focus (clear hS; go_simp; rfl)); simp only [List.setIfInBounds_toArray, List.set_cons_succ, List.set_cons_zero])
            refine mix_end ?_

            have M5 := Lib.hid (M4.out.same FC); have P5 := Lib.hid (P4.out.same FC)
            clear FC I1 I2 K1 K2 g0 g1 g2 g3 g4 g5 g6 M4 P4 F4 G4 C4 D4
            generalize wq = w5 at *
            have CP := Lib.hid (bent_c _ [] how n at_ w5 P5.out.src (by first | omega | simp) i1 i3)
            go_wp2_with fail
            refine CP.out.mono ?_
            rintro e w6 ⟨f6, v6, l6, rfl, hF6, hl6⟩
            obtain ⟨a6, p6, rfl⟩ := hF6.sl.val
            have M6 := Lib.hid (M5.out.same f6); have P6 := Lib.hid (P5.out.same f6); have S6 := Lib.hid hF6
            clear f6 hF6 M5 P5 CP hl6
            go_upto_block 4 with fail
            have hBF := heap_alloc_new w6 (.cells #[.slice aP 0 pP, .slice a6 l6.length p6, .slice az m pz] 34)
            have fl := Fr.alloc [] w6 (.cells #[.slice aP 0 pP, .slice a6 l6.length p6, .slice az m pz] 34)
            generalize w6.alloc (.cells #[.slice aP 0 pP, .slice a6 l6.length p6, .slice az m pz] 34) = WF at *
            generalize w6.heap.size = bfl at *
            have MF := Lib.hid (M6.out.same fl)
            have HKF : Hid (∀ k, k < 3 → ∃ zv zl zn zp, WF.cell? ⟨bfl, k, none⟩ = some (.slice zv zn zp) ∧ Sl WF (.slice zv zn zp) zl.length (List.flatMap fdC zl)) := Lib.hid (by
              intro k hk
              rw [cell_of_blk hBF]
              match k, hk with
              | 0, _ => exact ⟨aP, [], _, pP, rfl, (P6.out.same fl).sl⟩
              | 1, _ => exact ⟨a6, l6, _, p6, rfl, (S6.out.same fl).sl⟩
              | 2, _ => exact ⟨az, lz.take m, _, pz, rfl, HZ8.out.same (FQ.out.trans MF.out.fr)⟩)
            clear hBF fl M6 P6 S6
            obtain ⟨wo2, hwo⟩ : ∃ W : World, W = wr := ⟨_, rfl⟩
            subst hwo
            go_wp2_with fail
            go_loopw [155] (fun i wr => ∃ k : Nat, k ≤ 3 ∧ i = .int .i64 k ∧ Hid (Fr [] WF wr)) (fun i _ => 3 - (intOf i).toNat)
            case atStart => exact ⟨0, by omega, rfl, Lib.hid (Fr.refl _ _)⟩
            case round =>
              obtain ⟨k3, hk3, rfl, FR3⟩ := hrel
              by_cases hlt3 : k3 < 3
              · skip
                obtain ⟨zv, zl, zn, zp, u0, hzs⟩ := HKF.out k3 hlt3
                have d0 := FR3.out.cel u0 (by simp)
                have S0 := Lib.hid (hzs.same FR3.out); have M0 := Lib.hid (MF.out.same FR3.out)
                clear u0 hzs
                obtain ⟨U, eU⟩ : ∃ U, useE c1 ⟨y0, y1, y2, y3⟩ zl = U := ⟨_, rfl⟩
                obtain ⟨X, eX⟩ : ∃ X, useS c1 ⟨y0, y1, y2, y3⟩ zl = X := ⟨_, rfl⟩
                obtain ⟨Y, eY⟩ : ∃ Y, useT c1 ⟨y0, y1, y2, y3⟩ zl = Y := ⟨_, rfl⟩
                have EU := Lib.hid eU; have EX := Lib.hid eX; have EY := Lib.hid eY
                clear eU eX eY
                obtain ⟨⟨g0, g1, g2⟩, g3, g4, g5, g6⟩ := M0.out.cells
                have CU := Lib.hid (juses_c M0.out.at_ S0.out U X Y EU.out EX.out EY.out)
                unfold rbV qnV at CU
                simp only at CU
                go_wp2_with fail
                refine CU.out.mono ?_
                rintro e w1 ⟨aF, pF, aC, pC, rfl, f1, hF, hC⟩
                have M1 := Lib.hid (M0.out.same f1)
                have S1 := Lib.hid (S0.out.same f1); have F1 := Lib.hid hF; have C1 := Lib.hid hC
                have R1 := Lib.hid (FR3.out.trans f1)
                clear f1 hF hC S0 d0
                clear g0 g1 g2 g3 g4 g5 g6 CU M0
                obtain ⟨⟨g0, g1, g2⟩, g3, g4, g5, g6⟩ := M1.out.cells
                have CW := Lib.hid (jruses_c M1.out.at_ S1.out U X Y EU.out EX.out EY.out)
                unfold rbV qnV at CW
                simp only at CW
                go_wp2_with fail
                refine CW.out.mono ?_
                rintro e w2 ⟨aG, pG, aD, pD, rfl, f2, hG, hD⟩
                have M2 := Lib.hid (M1.out.same f2)
                have S2 := Lib.hid (S1.out.same f2); have F2 := Lib.hid (F1.out.same f2); have C2 := Lib.hid (C1.out.same f2); have G2 := Lib.hid hG; have D2 := Lib.hid hD
                have R2 := Lib.hid (R1.out.trans f2)
                clear f2 hG hD S1 F1 C1 R1
                clear g0 g1 g2 g3 g4 g5 g6 CW M1
                have I1 := Lib.hid fun (W : World) (hf : Fr [] w2 W) => jints_c (F2.out.same hf) (G2.out.same hf)
                have I2 := Lib.hid fun (W : World) (hf : Fr [] w2 W) => jints_c (C2.out.same hf) (D2.out.same hf)
                have T1 := Lib.hid fun (W : World) (hf : Fr [] w2 W) => check_c _ _ _ _ ys1 c1 ⟨y0, y1, y2, y3⟩ true zl W (M2.out.at_.same hf) (S2.out.same hf)
                have T2 := Lib.hid fun (W : World) (hf : Fr [] w2 W) => rcheck_c _ _ _ _ ys1 c1 ⟨y0, y1, y2, y3⟩ true zl W (M2.out.at_.same hf) (S2.out.same hf)
                have T3 := Lib.hid fun (W : World) (hf : Fr [] w2 W) => check_c _ _ _ _ ys1 c1 ⟨y0, y1, y2, y3⟩ false zl W (M2.out.at_.same hf) (S2.out.same hf)
                have T4 := Lib.hid fun (W : World) (hf : Fr [] w2 W) => rcheck_c _ _ _ _ ys1 c1 ⟨y0, y1, y2, y3⟩ false zl W (M2.out.at_.same hf) (S2.out.same hf)
                generalize checkB c1 ⟨y0, y1, y2, y3⟩ true zl = t1 at T1 T2
                generalize checkB c1 ⟨y0, y1, y2, y3⟩ false zl = t2 at T3 T4
                unfold rbV qnV at T1 T2 T3 T4
                simp only at T1 T2 T3 T4
                go_wp2_with fail
                obtain ⟨⟨g0, g1, g2⟩, g3, g4, g5, g6⟩ := M2.out.cells
                refine reg_mix (Fr [] w2) [0, 1, 2, 3, 4, 5, 6, 7, 8, 9, 10, 11, 12, 13, 14, 15, 16, 17, 18, 20, 21, 22, 19, 23, 24, 25, 26, 27, 28, 29, 31, 32, 33, 30, 34, 35, 36] (by kernel_rfl) (by kernel_rfl) (by kernel_rfl) rfl (Fr.drew _ _) ?_
                have FC : Fr [] w2 w2.drew := Fr.drew _ _
                generalize w2.drew = WC at FC ⊢
                iterate 2 (refine mix_take1 (v := ?_) rfl rfl rfl rfl (fun w hS => ?_) ?_; rotate_left; (focus (clear hS; go_simp; rfl)); simp only [List.setIfInBounds_toArray, List.set_cons_succ, List.set_cons_zero])
                refine mix_take1 (v := .bool false) rfl rfl rfl rfl (fun w hS => ?_) ?_
                focus (clear hS; go_simp; try simp)
                simp only [List.setIfInBounds_toArray, List.set_cons_succ, List.set_cons_zero]
                (refine mix_take1 (v := ?_) rfl rfl rfl rfl (fun w hS => ?_) ?_; rotate_left; (focus (clear hS; go_simp; rfl)); simp only [List.setIfInBounds_toArray, List.set_cons_succ, List.set_cons_zero])
                iterate 2 (refine mix_takeg (v := ?_) rfl rfl rfl rfl rfl rfl (fun w hS => ?_) ?_; rotate_left; (focus (clear hS; go_simp; rfl)); simp only [List.setIfInBounds_toArray, List.set_cons_succ, List.set_cons_zero])
                refine mix_dog rfl rfl rfl rfl rfl (fun K hK => ?_)
                go_simp
                refine (I1.out _ FC).mono ?_
                rintro e wq ⟨rfl, fq⟩
                have FC := FC.trans fq
                clear fq
                refine hK _ _ FC ?_
                clear hK K
                try simp only [Act.put, List.setIfInBounds_toArray, List.set_cons_succ, List.set_cons_zero]
                (refine mix_takeg (v := ?_) rfl rfl rfl rfl rfl rfl (fun w hS => ?_) ?_; rotate_left; (focus (clear hS; go_simp; rfl)); simp only [List.setIfInBounds_toArray, List.set_cons_succ, List.set_cons_zero])
                iterate 2 (refine mix_take1 (v := ?_) rfl rfl rfl rfl (fun w hS => ?_) ?_; rotate_left; (focus (clear hS; go_simp; rfl)); simp only [List.setIfInBounds_toArray, List.set_cons_succ, List.set_cons_zero])
                iterate 2 (refine mix_takeg (v := ?_) rfl rfl rfl rfl rfl rfl (fun w hS => ?_) ?_; rotate_left; (focus (clear hS; go_simp; rfl)); simp only [List.setIfInBounds_toArray, List.set_cons_succ, List.set_cons_zero])
                refine mix_dog rfl rfl rfl rfl rfl (fun K hK => ?_)
                go_simp
                refine (I2.out _ FC).mono ?_
                rintro e wq ⟨rfl, fq⟩
                have FC := FC.trans fq
                clear fq
                refine hK _ _ FC ?_
                clear hK K
                try simp only [Act.put, List.setIfInBounds_toArray, List.set_cons_succ, List.set_cons_zero]
                (refine mix_takeg (v := ?_) rfl rfl rfl rfl rfl rfl (fun w hS => ?_) ?_; rotate_left; (focus (clear hS; go_simp; rfl)); simp only [List.setIfInBounds_toArray, List.set_cons_succ, List.set_cons_zero])
                iterate 2 (refine mix_take1 (v := ?_) rfl rfl rfl rfl (fun w hS => ?_) ?_; rotate_left; (focus (clear hS; go_simp; rfl)); simp only [List.setIfInBounds_toArray, List.set_cons_succ, List.set_cons_zero])
                iterate 6 (refine mix_takeg (v := ?_) rfl rfl rfl rfl rfl rfl (fun w hS => ?_) ?_; rotate_left; (focus (have g0' := hS.cel g0 (by simp); have g1' := hS.cel g1 (by simp); have g2' := hS.cel g2 (by simp); have g3' := hS.cel g3 (by simp); have g4' := hS.cel g4 (by simp); have g5' := hS.cel g5 (by simp); have g6' := hS.cel g6 (by simp); clear hS; go_simp; rfl)); simp only [List.setIfInBounds_toArray, List.set_cons_succ, List.set_cons_zero])
                refine mix_dog rfl rfl rfl rfl rfl (fun K hK => ?_)
                go_simp
                refine (T1.out _ FC).mono ?_
                rintro e wq ⟨rfl, fq⟩
                have FC := FC.trans fq
                clear fq
                refine hK _ _ FC ?_
                clear hK K
                try simp only [Act.put, List.setIfInBounds_toArray, List.set_cons_succ, List.set_cons_zero]
                refine mix_dog rfl rfl rfl rfl rfl (fun K hK => ?_)
                go_simp
                refine (T2.out _ FC).mono ?_
                rintro e wq ⟨rfl, fq⟩
                have FC := FC.trans fq
                clear fq
                refine hK _ _ FC ?_
                clear hK K
                try simp only [Act.put, List.setIfInBounds_toArray, List.set_cons_succ, List.set_cons_zero]
                refine mix_takeg (v := .bool false) rfl rfl rfl rfl rfl rfl (fun w hS => ?_) ?_
                focus (clear hS; go_simp; try simp)
                simp only [List.setIfInBounds_toArray, List.set_cons_succ, List.set_cons_zero]
                iterate 2 (refine mix_take1 (v := ?_) rfl rfl rfl rfl (fun w hS => ?_) ?_; rotate_left; (focus (clear hS; go_simp; rfl)); simp only [List.setIfInBounds_toArray, List.set_cons_succ, List.set_cons_zero])
                iterate 6 (refine mix_takeg (v := ?_) rfl rfl rfl rfl rfl rfl (fun w hS => ?_) ?_; rotate_left; (focus (have g0' := hS.cel g0 (by simp); have g1' := hS.cel g1 (by simp); have g2' := hS.cel g2 (by simp); have g3' := hS.cel g3 (by simp); have g4' := hS.cel g4 (by simp); have g5' := hS.cel g5 (by simp); have g6' := hS.cel g6 (by simp); clear hS; go_simp; rfl)); simp only [List.setIfInBounds_toArray, List.set_cons_succ, List.set_cons_zero])
                refine mix_dog rfl rfl rfl rfl rfl (fun K hK => ?_)
                go_simp
                refine (T3.out _ FC).mono ?_
                rintro e wq ⟨rfl, fq⟩
                have FC := FC.trans fq
                clear fq
                refine hK _ _ FC ?_
                clear hK K
                try simp only [Act.put, List.setIfInBounds_toArray, List.set_cons_succ, List.set_cons_zero]
                refine mix_dog rfl rfl rfl rfl rfl (fun K hK => ?_)
                go_simp
                refine (T4.out _ FC).mono ?_
                rintro e wq ⟨rfl, fq⟩
                have FC := FC.trans fq
                clear fq
                refine hK _ _ FC ?_
                clear hK K
                try simp only [Act.put, List.setIfInBounds_toArray, List.set_cons_succ, List.set_cons_zero]
                refine mix_takeg (v := .bool false) rfl rfl rfl rfl rfl rfl (fun w hS => ?_) ?_
                focus (clear hS; go_simp; try simp)
                simp only [List.setIfInBounds_toArray, List.set_cons_succ, List.set_cons_zero]
                (refine mix_take1 (v := ?_) rfl rfl rfl rfl (fun w hS => ?_) ?_; rotate_left; (focus (clear hS; go_simp; rfl)); simp only [List.setIfInBounds_toArray, List.set_cons_succ, List.set_cons_zero])
                refine mix_end ?_

                have FN3 := Lib.hid (R2.out.trans FC)
                clear FC I1 I2 T1 T2 T3 T4 g0 g1 g2 g3 g4 g5 g6
                go_wp2_with fail
                go_roundw
                case rel => exact ⟨k3 + 1, by omega, by go_num, FN3⟩
                case measure => simp [intOf]; omega
              · obtain rfl : k3 = 3 := by omega
                have FN2 := Lib.hid (MF.out.fr.trans FR3.out)
                go_wp2_with fail
                go_roundw
                case rel => exact ⟨k2 + 1, by omega, by go_num, FN2⟩
                case measure => simp [intOf]; omega
        · obtain rfl : k2 = 2 := by omega
          have FN1 := Lib.hid (FQ.out.trans FR2.out)
          go_wp2_with fail
          go_roundw
          case rel => exact ⟨k1 + 1, by omega, by go_num, FN1⟩
          case measure => simp [intOf]; omega
    · obtain rfl : k1 = 3 := by omega
      go_wp2_with fail
      go_ret
      exact ⟨rfl, (F8.out.trans FR1.out).below⟩

set_option maxRecDepth 100000 in
theorem open_fds9 {H : Type} {enc : TypeId × Value → H} {W : World} {base : Nat} {v : Value} {d : DataW H} {p : List MemPlace} (k : Value.okWide Tryz.prog W .any base 34 v) (h : DataW.Trod enc Tryz.prog W 0 (fun _ => true) true 34 v d p) :
    ∃ l : List Fd, Sl W v l.length (l.flatMap fdC) := by
  obtain ⟨a, len, cap, rfl⟩ := okWide_slice Tryz.underlying34 k
  obtain ⟨fuel, hf⟩ := h
  exact fds_of_trod (by simpa [Value.cells] using hf)

set_option maxRecDepth 100000 in
theorem walk_StatuteMatchesReference {H : Type} {enc : TypeId × Value → H} {base : Nat} (W : World) {v0 v1 v2 v3 v4 v5 v6 v7 : Value} {d0 d1 d2 d3 d4 d5 d6 d7 : DataW H} {p0 p1 p2 p3 p4 p5 p6 p7 : List MemPlace} (k0 : Value.okWide Tryz.prog W .any base 25 v0) (h0 : DataW.Trod enc Tryz.prog W 0 (fun _ => true) true 25 v0 d0 p0)
    (k1 : Value.okWide Tryz.prog W .any base 30 v1) (h1 : DataW.Trod enc Tryz.prog W 0 (fun _ => true) true 30 v1 d1 p1) (k2 : Value.okWide Tryz.prog W .any base 31 v2) (h2 : DataW.Trod enc Tryz.prog W 0 (fun _ => true) true 31 v2 d2 p2)
    (k3 : Value.okWide Tryz.prog W .any base 33 v3) (h3 : DataW.Trod enc Tryz.prog W 0 (fun _ => true) true 33 v3 d3 p3) (k4 : Value.okWide Tryz.prog W .any base 3 v4) (h4 : DataW.Trod enc Tryz.prog W 0 (fun _ => true) true 3 v4 d4 p4)
    (k5 : Value.okWide Tryz.prog W .any base 3 v5) (h5 : DataW.Trod enc Tryz.prog W 0 (fun _ => true) true 3 v5 d5 p5) (k6 : Value.okWide Tryz.prog W .any base 3 v6) (h6 : DataW.Trod enc Tryz.prog W 0 (fun _ => true) true 3 v6 d6 p6)
    (k7 : Value.okWide Tryz.prog W .any base 34 v7) (h7 : DataW.Trod enc Tryz.prog W 0 (fun _ => true) true 34 v7 d7 p7) :
    Calls Tryz.prog 3 #[v0, v1, v2, v3, v4, v5, v6, v7] W fun e W' => e = .returned (.bool true) ∧ Below W.heap.size W W' := by
  obtain ⟨_, _, _, n1, n2, n3, is1, is2, is3, rfl, a1, a2, a3⟩ := open_numbers k0 h0
  obtain ⟨_, _, _, ys0, cr, rfl, hr⟩ := open_rb k1 h1
  obtain ⟨a, b, c, d, rfl, ha, hb, hc, hd⟩ := open_i4 k2 h2
  obtain ⟨⟨o0, o1, o2, o3⟩, rfl, _⟩ := open_qn k3 h3
  obtain ⟨x, rfl, hx⟩ := open_i64 Tryz.underlying3 k4 h4
  obtain ⟨y, rfl, hy⟩ := open_i64 Tryz.underlying3 k5 h5
  obtain ⟨z, rfl, hz⟩ := open_i64 Tryz.underlying3 k6 h6
  obtain ⟨l, hl⟩ := open_fds9 k7 h7
  exact matches_c _ _ _ _ _ _ _ n1 n2 n3 is1 is2 is3 ys0 cr a b c d x y z o0 o1 o2 o3 l W a1 a2 a3 hr ha hb hc hd hx hy hz hl

end Go.Proofs.YtfidioedjmjddaaGreat
