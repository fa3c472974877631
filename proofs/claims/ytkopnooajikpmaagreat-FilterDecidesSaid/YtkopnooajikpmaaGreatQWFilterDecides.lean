/-
  The walk of FilterDecides.
-/
import Derived.Test.YtkopnooajikpmaaGreatQFlDe
namespace Go.Proofs.YtkopnooajikpmaaGreat
open Go.ChangeShapes Go.WideShapes Go.ChangeAt Go.RowKit Go.Deep Go.Lib

set_option maxRecDepth 1000000 in
set_option maxHeartbeats 4000000 in
theorem decides_c (vx vm v1 v2 v3 : Value) (nx n1 n2 n3 : Nat) (xs ms is1 is2 is3 : List Int) (fb qa qb qc qd qe : Int) (ba bb bc oa orr : Int) (vO vQ : Value) (oF : List Int) (oz : List PrV) (w : World) (hx : NumAt w vx nx 12 xs) (hm : IntsAt w vm ms) (hmi : ∀ z, z ∈ ms → I64 z) (hfb : I64 fb) (h1 : NumAt w v1 n1 6 is1) (h2 : NumAt w v2 n2 3 is2) (h3 : NumAt w v3 n3 6 is3) (hqa : I64 qa) (hqb : I64 qb) (hqc : I64 qc) (hqd : I64 qd) (hqe : I64 qe) (hba : I64 ba) (hbb : I64 bb) (hbc : I64 bc) (hoF : IntsAt w vO oF) (hoz : PrAt w vQ oz) :
    Calls Tryz.prog 4 #[vx, vm, .int .i64 fb, .agg #[v1, v2, v3], .agg #[.int .i64 qa, .int .i64 qb, .int .i64 qc, .int .i64 qd, .int .i64 qe], .agg #[.int .i64 ba, .int .i64 bb, .int .i64 bc], .agg #[.int .i64 oa, .int .i64 orr, vO, vQ]] w fun e w' => e = .returned (.bool true) ∧ Below w.heap.size w w' := by
  obtain ⟨aO, pO, rfl⟩ := hoF.val
  obtain ⟨aQ, pQ, rfl⟩ := hoz.sl.val
  have HOF := Lib.hid hoF; have HOZ := Lib.hid hoz
  clear hoF hoz

  obtain ⟨ax, px, rfl⟩ := hx.sl.val
  obtain ⟨am, pm, rfl⟩ := hm.val
  obtain ⟨a1, p1, rfl⟩ := h1.sl.val
  obtain ⟨a2, p2, rfl⟩ := h2.sl.val
  obtain ⟨a3, p3, rfl⟩ := h3.sl.val
  have HA := Lib.hid (allocs_at [.cells #[.slice a1 n1 p1, .slice a2 n2 p2, .slice a3 n3 p3] 25, .cells #[.int .i64 qa, .int .i64 qb, .int .i64 qc, .int .i64 qd, .int .i64 qe] 59, .cells #[.int .i64 ba, .int .i64 bb, .int .i64 bc] 60, .cells #[.int .i64 oa, .int .i64 orr, .slice aO oF.length pO, .slice aQ oz.length pQ] 62] w)
  have FA : Hid (Fr [] w _) := Lib.hid (allocs_fr [.cells #[.slice a1 n1 p1, .slice a2 n2 p2, .slice a3 n3 p3] 25, .cells #[.int .i64 qa, .int .i64 qb, .int .i64 qc, .int .i64 qd, .int .i64 qe] 59, .cells #[.int .i64 ba, .int .i64 bb, .int .i64 bc] 60, .cells #[.int .i64 oa, .int .i64 orr, .slice aO oF.length pO, .slice aQ oz.length pQ] 62] w)
  have HX := Lib.hid hx; have HM := Lib.hid hm; have HMI := Lib.hid hmi
  have H1 := Lib.hid h1; have H2 := Lib.hid h2; have H3 := Lib.hid h3
  have CQ := Lib.hid fun W => call26_c qa qb qc qd qe W hqa hqb hqc hqd hqe
  have CQO := Lib.hid (callC_ok qa qb qc qd qe)
  have CQB := Lib.hid (callC_b qa qb qc qd qe)
  obtain ⟨ca, cd, at_, lv, fw, hcq⟩ : ∃ ca cd at_ lv fw, callC qa qb qc qd qe = ⟨ca, cd, at_, lv, fw, false⟩ := ⟨_, _, _, _, _, rfl⟩
  rw [hcq] at CQ CQO CQB
  clear hx hm hmi h1 h2 h3 hqa hqb hqc hqd hqe hcq
  go_enter Tryz.func4, Tryz.ntmps4
  go_wp2_with fail
  refine (sane26_c _).mono ?_
  rintro e w1 ⟨rfl, f1⟩
  have F1 := Lib.hid (FA.out.trans f1)
  have HB : Hid (∀ W, Fr [] w1 W → _) := Lib.hid fun W hf => And.intro (show W.heap[w.heap.size]? = some (.cells #[.slice a1 n1 p1, .slice a2 n2 p2, .slice a3 n3 p3] 25) from hf.keep (f1.keep (HA.out 0 (by simp)) (by simp)) (by simp)) (show W.heap[w.heap.size + 1]? = some (.cells #[.int .i64 qa, .int .i64 qb, .int .i64 qc, .int .i64 qd, .int .i64 qe] 59) from hf.keep (f1.keep (HA.out 1 (by simp)) (by simp)) (by simp))
  have HO : Hid (∀ W, Fr [] w1 W → (W.heap[w.heap.size + 1 + 1]? = some (.cells #[.int .i64 ba, .int .i64 bb, .int .i64 bc] 60) ∧ W.heap[w.heap.size + 1 + 1 + 1]? = some (.cells #[.int .i64 oa, .int .i64 orr, .slice aO oF.length pO, .slice aQ oz.length pQ] 62))) := Lib.hid fun W hf => And.intro (hf.keep (f1.keep (HA.out 2 (by simp)) (by simp)) (by simp)) (hf.keep (f1.keep (HA.out 3 (by simp)) (by simp)) (by simp))
  have hsz : w.heap.size + 1 + 1 + 1 < w1.heap.size := blk_lt (HO.out _ (Fr.refl _ _)).2
  have HW1 := Lib.hid F1.out
  have CM := Lib.hid (made26_c _ _ nx xs ms fb w1 (HX.out.same F1.out) (HM.out.same F1.out) HMI.out hfb)
  clear f1
  go_wp2_with fail
  refine CM.out.mono ?_
  rintro e w2 ⟨f2, v, ys, dfl, rfl, ho, hok, hlen, hdf⟩
  obtain ⟨av, pv, rfl⟩ := (sl_of_row ho.row).val
  have LF : Hid (FlOwn w.heap.size (w2.alloc (.cells #[.slice av ys.length pv, .int .i64 dfl] 65)) (.slice av ys.length pv) ys ∧ RusOk ys ∧ ys.length ≤ 8 ∧ actB dfl = true) := Lib.hid ⟨(ho.older F1.out.size).same (Fr.alloc _ _ _), hok, hlen, hdf⟩
  have LB := Lib.hid (heap_alloc_new w2 (.cells #[.slice av ys.length pv, .int .i64 dfl] 65))
  have F2 := Lib.hid (f2.trans (Fr.alloc [] w2 (.cells #[.slice av ys.length pv, .int .i64 dfl] 65)))
  have B2 := HB.out _ F2.out
  have c0 := cell_of_blk B2.1 0; have c1 := cell_of_blk B2.1 1; have c2 := cell_of_blk B2.1 2
  have CR := Lib.hid (made_c _ _ _ n1 n2 n3 is1 is2 is3 _ (H1.out.same (F1.out.trans F2.out)) (H2.out.same (F1.out.trans F2.out)) (H3.out.same (F1.out.trans F2.out)))
  clear f2 ho hok hlen hdf CM B2
  go_wp2_with fail
  refine CR.out.mono ?_
  rintro e w3 ⟨f3, vc, vr, vf, zs, b, rfl, hmd, hro⟩
  clear c0 c1 c2 CR
  obtain ⟨ac, pc, rfl⟩ := (sl_of_row hro.cls).val
  obtain ⟨ar, pr, rfl⟩ := (sl_of_row hro.rps).val
  obtain ⟨af, pf, rfl⟩ := (sl_of_row hro.fas).val
  have F3 := Lib.hid (f3.trans (Fr.alloc [] w3 (.cells #[.slice ac zs.length pc, .slice ar b.rps.length pr, .slice af b.fas.length pf] 30)))
  have RO : Hid (RbOwn w.heap.size (w3.alloc (.cells #[.slice ac zs.length pc, .slice ar b.rps.length pr, .slice af b.fas.length pf] 30)) _ _ _ zs b ∧ MadeOk b) := Lib.hid ⟨(hro.older (by have := (F1.out.trans F2.out).size; omega)).same (Fr.alloc _ _ _), hmd⟩
  have RO4 : Hid (RbOwn (w.heap.size + 1 + 1 + 1 + 1) _ _ _ _ zs b) := Lib.hid ((hro.older (by have := F2.out.size; omega)).same (Fr.alloc [] w3 (.cells #[.slice ac zs.length pc, .slice ar b.rps.length pr, .slice af b.fas.length pf] 30)))
  have RB := Lib.hid (heap_alloc_new w3 (.cells #[.slice ac zs.length pc, .slice ar b.rps.length pr, .slice af b.fas.length pf] 30))
  have B3 := HB.out _ (F2.out.trans F3.out)
  have c0 := cell_of_blk B3.2 0; have c1 := cell_of_blk B3.2 1; have c2 := cell_of_blk B3.2 2; have c3 := cell_of_blk B3.2 3; have c4 := cell_of_blk B3.2 4
  clear f3 hmd hro B3
  go_wp2_with fail
  refine (CQ.out _).mono ?_
  rintro e w4 ⟨rfl, f4⟩
  clear c0 c1 c2 c3 c4 CQ
  have L0 : Hid (LwS w w2.heap.size w3.heap.size w4.heap.size (.slice av ys.length pv) ys dfl (.slice ac zs.length pc) (.slice ar b.rps.length pr) (.slice af b.fas.length pf) zs b ⟨ca, cd, at_, lv, fw, false⟩ (w4.alloc (.cells #[.int .i64 ca, .int .i64 cd, .int .i64 at_, .int .i64 lv, .int .i64 fw, .bool false] 68))) := Lib.hid (by
    have fa := Fr.alloc [] w4 (.cells #[.int .i64 ca, .int .i64 cd, .int .i64 at_, .int .i64 lv, .int .i64 fw, .bool false] 68)
    have f34 := f4.trans fa
    have f24 := F3.out.trans f34
    exact ⟨(F1.out.trans F2.out).trans f24, f24.keep LB.out (by simp), f34.keep RB.out (by simp), heap_alloc_new _ _, LF.out.1.same f24, LF.out.2.1, LF.out.2.2.1, LF.out.2.2.2, RO.out.1.same f34, RO.out.2, CQO.out, CQB.out, rfl⟩)
  have F4 : Hid (Fr [] w1 (w4.alloc (.cells #[.int .i64 ca, .int .i64 cd, .int .i64 at_, .int .i64 lv, .int .i64 fw, .bool false] 68))) := Lib.hid (((F2.out.trans F3.out).trans f4).trans (Fr.alloc _ _ _))
  have RO5 := Lib.hid ((RO4.out.same f4).same (Fr.alloc [] w4 (.cells #[.int .i64 ca, .int .i64 cd, .int .i64 at_, .int .i64 lv, .int .i64 fw, .bool false] 68)))
  clear RO4
  clear f4 LF LB RO RB F2 F3 F1 CQO CQB FA HX HM HMI H1 H2 H3
  clear HA HB
  obtain ⟨⟨g0, g1⟩, ⟨r0, r1, r2⟩, q0, q1, q2, q3, q4, q5⟩ := L0.out.cells
  simp only at q0 q1 q2 q3 q4 q5
  obtain ⟨da, dr, F, P, hdd⟩ : ∃ da dr F P, decF (flOf ys dfl) b ⟨ca, cd, at_, lv, fw, false⟩ = ⟨da, dr, F, P⟩ := ⟨_, _, _, _, rfl⟩
  have hdq := decF_eq L0.out.good (c := ⟨ca, cd, at_, lv, fw, false⟩) rfl
  have hln := decF_len L0.out.good (c := ⟨ca, cd, at_, lv, fw, false⟩) rfl (by simpa using L0.out.len)
  have hea := decF_each L0.out.good (c := ⟨ca, cd, at_, lv, fw, false⟩) rfl
  rw [hdd] at hdq hln hea
  have EQ : Hid (da = actOf b ⟨ca, cd, at_, lv, fw, false⟩ (flOf ys dfl) ∧ dr = ruleOf b ⟨ca, cd, at_, lv, fw, false⟩ (flOf ys dfl) ∧ checkF (flOf ys dfl) b ⟨ca, cd, at_, lv, fw, false⟩ ⟨da, dr, F, P⟩ = true) := Lib.hid ⟨hdq.1, hdq.2.1, hdq.2.2.1⟩
  have EA : Hid (∀ p, p ∈ P → p.length ≤ 20) := Lib.hid hea
  obtain ⟨hF8, hP32⟩ : F.length ≤ 8 ∧ P.length ≤ 32 := hln
  have CD := Lib.hid (kn_dec L0.out.flAt L0.out.rbAt L0.out.cok L0.out.good hdd)
  simp only at CD
  clear hdq hea hdd
  go_wp2_with fail
  clear g0 g1 r0 r1 r2 q0 q1 q2 q3 q4 q5
  refine CD.out.mono ?_
  rintro e w5 ⟨f5, aF, pF, aP, pP, zp, rfl, hd⟩
  have hs5 : w.heap.size + 1 + 1 + 1 < w5.heap.size := by have := (F4.out.trans f5).size; omega
  have f5' := f5.trans (Fr.alloc [] w5 (.cells #[.int .i64 da, .int .i64 dr, .slice aF F.length pF, .slice aP P.length pP] 62))
  have L5 := Lib.hid (L0.out.same f5')
  have R5 := Lib.hid (RO5.out.same f5')
  have D5 := Lib.hid (hd.same (Fr.alloc [] w5 (.cells #[.int .i64 da, .int .i64 dr, .slice aF F.length pF, .slice aP P.length pP] 62)))
  have B5 := Lib.hid (heap_alloc_new w5 (.cells #[.int .i64 da, .int .i64 dr, .slice aF F.length pF, .slice aP P.length pP] 62))
  have F5 : Hid (Fr [] w1 _) := Lib.hid (F4.out.trans f5')
  obtain ⟨⟨g0, g1⟩, ⟨r0, r1, r2⟩, q0, q1, q2, q3, q4, q5⟩ := L5.out.cells
  simp only at q0 q1 q2 q3 q4 q5
  have d0 := cell_of_blk B5.out 0; have d1 := cell_of_blk B5.out 1; have d2 := cell_of_blk B5.out 2; have d3 := cell_of_blk B5.out 3
  have CK := Lib.hid (kn_chk L5.out.flAt L5.out.rbAt L5.out.cok L5.out.good (sl_of_row D5.out.fails) D5.out.own.at_ D5.out.eq ⟨show F.length ≤ 100 by omega, show P.length ≤ 100 by omega⟩ EQ.out.2.2)
  simp only at CK
  have HP5 : Hid (P.length = zp.length) := Lib.hid (by have := congrArg List.length D5.out.eq; simpa using this.symm)
  clear f5 f5' hd CD L0 RO5 F4
  go_wp2_with fail
  clear g0 g1 r0 r1 r2 q0 q1 q2 q3 q4 q5
  refine CK.out.mono ?_
  rintro e w6 ⟨rfl, f6⟩
  have L6 := Lib.hid (L5.out.same f6)
  have R6 := Lib.hid (R5.out.same f6)
  have D6 := Lib.hid (D5.out.same f6)
  have B6 := Lib.hid (f6.keep B5.out (by simp))
  have O6 := Lib.hid (HO.out _ (F5.out.trans f6))
  have W6 : Hid (Fr [] w w6) := Lib.hid (L6.out.fr)
  clear d0 d1 d2 d3 f6 CK L5 R5 D5 B5 F5 HO
  have o2 := cell_of_blk O6.out.2 2; have o3 := cell_of_blk O6.out.2 3
  have u2 := free_of_blk O6.out.2 2; have u3 := free_of_blk O6.out.2 3
  obtain ⟨mF, hmF⟩ : ∃ m, min oF.length 20 = m := ⟨_, rfl⟩
  obtain ⟨mP, hmP⟩ : ∃ m, min oz.length 20 = m := ⟨_, rfl⟩
  have hF1 : mF ≤ oF.length := by omega
  have hP1 : mP ≤ oz.length := by omega
  have hF2 : mF ≤ pO := by
    obtain ⟨_, _, hv, h1, _⟩ := HOF.out
    cases hv; omega
  have hP2 : mP ≤ pQ := by
    obtain ⟨_, _, hv, h1, _⟩ := HOZ.out.sl
    cases hv; omega
  have hiF : min (oF.length : Int) 20 = (mF : Int) := by omega
  have hiF2 : (if (20 : Int) < (oF.length : Int) then 20 else (oF.length : Int)) = (mF : Int) := by split <;> omega
  have hiP : min (oz.length : Int) 20 = (mP : Int) := by omega
  have hiP2 : (if (20 : Int) < (oz.length : Int) then 20 else (oz.length : Int)) = (mP : Int) := by split <;> omega
  have hm20 : mF ≤ 20 ∧ mP ≤ 20 := by omega
  clear hmF hmP
  go_upto_region 12 with fail
  clear hiF hiF2 hiP hiP2 o2 o3 u2 u3 hF2 hP2
  have s67 : Fr [w.heap.size + 1 + 1 + 1] w6 ((w6.setCell ⟨w.heap.size + 1 + 1 + 1, 2, none⟩ (.slice aO mF pO)).setCell ⟨w.heap.size + 1 + 1 + 1, 3, none⟩ (.slice aQ mP pQ)) := (Fr.setCell _ _ (by simp)).trans (Fr.setCell _ _ (by simp))
  have KO : Hid (((w6.setCell ⟨w.heap.size + 1 + 1 + 1, 2, none⟩ (.slice aO mF pO)).setCell ⟨w.heap.size + 1 + 1 + 1, 3, none⟩ (.slice aQ mP pQ)).heap[w.heap.size + 1 + 1 + 1]? = some (.cells #[.int .i64 oa, .int .i64 orr, .slice aO mF pO, .slice aQ mP pQ] 62 (0, 0))) := Lib.hid (heap_setCell_same (i := 3) (.slice aQ mP pQ) (heap_setCell_same (i := 2) (.slice aO mF pO) O6.out.2))
  have L7 := Lib.hid (L6.out.box O6.out.2 (by omega) R6.out s67)
  have D7 := Lib.hid (D6.out.box O6.out.2 s67)
  have B7 := Lib.hid (s67.keep B6.out (by simp; omega))
  have X7 := Lib.hid (s67.keep O6.out.1 (by simp))
  have W7F : Hid (Fr [] w _) := Lib.hid (W6.out.step s67 (fun i hi => by simp at hi; exact .inr (by omega)))
  generalize (w6.setCell ⟨w.heap.size + 1 + 1 + 1, 2, none⟩ (.slice aO mF pO)).setCell ⟨w.heap.size + 1 + 1 + 1, 3, none⟩ (.slice aQ mP pQ) = w7 at *
  have HF7 := Lib.hid (ints_cut (HOF.out.same W7F.out) mF hF1)
  have HP7 := Lib.hid (pr_cut (HOZ.out.same W7F.out) mP hP1)
  clear s67 L6 D6 B6 O6 W6 R6 HOF HOZ
  have k0 := cell_of_blk KO.out 0; have k1 := cell_of_blk KO.out 1; have k2 := cell_of_blk KO.out 2; have k3 := cell_of_blk KO.out 3
  have hA8 := heap_alloc_new w7 (.cells #[.int .i64 oa, .int .i64 orr, .slice aO mF pO, .slice aQ mP pQ] 62)
  have fA8 := Fr.alloc [] w7 (.cells #[.int .i64 oa, .int .i64 orr, .slice aO mF pO, .slice aQ mP pQ] 62)
  have x3 := cell_of_blk hA8 3; have y3 := free_of_blk hA8 3
  have d3 := cell_of_blk (fA8.keep B7.out (by simp)) 3
  have HA8 := Lib.hid hA8; have FA8 := Lib.hid fA8
  clear hA8 fA8
  go_upto_region 14 with fail
  clear k0 k1 k2 k3 x3 y3 d3
  have hS8 := heap_alloc_new w7 (.cells #[.int .i64 oa, .int .i64 orr, .slice aO mF pO, .slice aP P.length pP] 62)
  have fS8 := Fr.alloc [] w7 (.cells #[.int .i64 oa, .int .i64 orr, .slice aO mF pO, .slice aP P.length pP] 62)
  generalize w7.alloc (.cells #[.int .i64 oa, .int .i64 orr, .slice aO mF pO, .slice aP P.length pP] 62) = W8 at *
  have L8 := Lib.hid (L7.out.same fS8)
  have D8 := Lib.hid (D7.out.same fS8)
  have B8 := Lib.hid (fS8.keep B7.out (by simp))
  have X8 := Lib.hid (fS8.keep X7.out (by simp))
  have K8 := Lib.hid (fS8.keep KO.out (by simp))
  have HF8 := Lib.hid (HF7.out.same fS8)
  have HP8 := Lib.hid (HP7.out.same fS8)
  have S8 := Lib.hid hS8
  have C8 := Lib.hid (bentD_c da dr _ _ F zp 20 ba bb bc W8 D8.out.dd (by omega) (by have := HP5.out; omega) (fun z hz => EA.out _ (by have := D8.out.eq; simp only at this; rw [← this]; exact List.mem_map_of_mem hz)) (by omega) hba hbb hbc)
  have b0 := cell_of_blk B8.out 0; have b1 := cell_of_blk B8.out 1; have b2 := cell_of_blk B8.out 2; have b3 := cell_of_blk B8.out 3
  have x0 := cell_of_blk X8.out 0; have x1 := cell_of_blk X8.out 1; have x2 := cell_of_blk X8.out 2
  clear L7 D7 B7 X7 KO HF7 HP7 HA8 FA8 hS8 fS8
  go_wp2_with fail
  clear b0 b1 b2 b3 x0 x1 x2
  refine C8.out.mono ?_
  rintro e w9 ⟨f9, a1_, r1_, vF1, vP1, F1_, z1_, rfl, hd1, hl1, hm1, hn1⟩
  obtain ⟨aF1, pF1, rfl⟩ := hd1.fails.sl.val
  obtain ⟨aP1, pP1, rfl⟩ := hd1.sl.val
  have F9 := Lib.hid (f9.trans (Fr.alloc [] w9 (.cells #[.int .i64 a1_, .int .i64 r1_, .slice aF1 F1_.length pF1, .slice aP1 z1_.length pP1] 62)))
  have L9 := Lib.hid (L8.out.same F9.out)
  have D9 := Lib.hid (D8.out.same F9.out)
  have B9 := Lib.hid (F9.out.keep B8.out (by simp))
  have X9 := Lib.hid (F9.out.keep X8.out (by simp))
  have K9 := Lib.hid (F9.out.keep K8.out (by simp))
  have S9 := Lib.hid (F9.out.keep S8.out (by simp))
  have HF9 := Lib.hid (HF8.out.same F9.out)
  have HP9 := Lib.hid (HP8.out.same F9.out)
  have T9 := Lib.hid (heap_alloc_new w9 (.cells #[.int .i64 a1_, .int .i64 r1_, .slice aF1 F1_.length pF1, .slice aP1 z1_.length pP1] 62))
  have H9 := Lib.hid (hd1.same (Fr.alloc [] w9 (.cells #[.int .i64 a1_, .int .i64 r1_, .slice aF1 F1_.length pF1, .slice aP1 z1_.length pP1] 62)))
  have C9 := Lib.hid (bentD_c a1_ r1_ _ _ F1_ z1_ 21 bb bc ba _ H9.out (by omega) (by have := HP5.out; omega) (fun z hz => hn1 z hz) (by omega) hbb hbc hba)
  have hl9 : F1_.length ≤ 8 ∧ z1_.length ≤ 33 := by have := HP5.out; omega
  have b0 := cell_of_blk T9.out 0; have b1 := cell_of_blk T9.out 1; have b2 := cell_of_blk T9.out 2; have b3 := cell_of_blk T9.out 3
  have x0 := cell_of_blk X9.out 0; have x1 := cell_of_blk X9.out 1; have x2 := cell_of_blk X9.out 2
  clear L8 D8 B8 X8 K8 S8 HF8 HP8 C8 f9 hd1 hl1 hm1 hn1 F9
  go_wp2_with fail
  clear b0 b1 b2 b3 x0 x1 x2
  refine C9.out.mono ?_
  rintro e w10 ⟨f10, a2_, r2_, vF2, vP2, F2_, z2_, rfl, hd2, hl2, hm2, hn2⟩
  obtain ⟨aF2, pF2, rfl⟩ := hd2.fails.sl.val
  obtain ⟨aP2, pP2, rfl⟩ := hd2.sl.val
  have F10 := Lib.hid (f10.trans (Fr.alloc [] w10 (.cells #[.int .i64 a2_, .int .i64 r2_, .slice aF2 F2_.length pF2, .slice aP2 z2_.length pP2] 62)))
  have L10 := Lib.hid (L9.out.same F10.out)
  have D10 := Lib.hid (D9.out.same F10.out)
  have B10 := Lib.hid (F10.out.keep B9.out (by simp))
  have K10 := Lib.hid (F10.out.keep K9.out (by simp))
  have S10 := Lib.hid (F10.out.keep S9.out (by simp))
  have T10 := Lib.hid (F10.out.keep T9.out (by simp))
  have HF10 := Lib.hid (HF9.out.same F10.out)
  have HP10 := Lib.hid (HP9.out.same F10.out)
  have H10 := Lib.hid (H9.out.same F10.out)
  have U10 := Lib.hid (heap_alloc_new w10 (.cells #[.int .i64 a2_, .int .i64 r2_, .slice aF2 F2_.length pF2, .slice aP2 z2_.length pP2] 62))
  have J10 := Lib.hid (hd2.same (Fr.alloc [] w10 (.cells #[.int .i64 a2_, .int .i64 r2_, .slice aF2 F2_.length pF2, .slice aP2 z2_.length pP2] 62)))
  have hl10 : F2_.length ≤ 8 ∧ z2_.length ≤ 34 := by omega
  have k0 := cell_of_blk K10.out 0; have k1 := cell_of_blk K10.out 1; have k2 := cell_of_blk K10.out 2; have k3 := cell_of_blk K10.out 3
  have s0 := cell_of_blk S10.out 0; have s1 := cell_of_blk S10.out 1; have s2 := cell_of_blk S10.out 2; have s3 := cell_of_blk S10.out 3
  have t0 := cell_of_blk T10.out 0; have t1 := cell_of_blk T10.out 1; have t2 := cell_of_blk T10.out 2; have t3 := cell_of_blk T10.out 3
  have u0 := cell_of_blk U10.out 0; have u1 := cell_of_blk U10.out 1; have u2 := cell_of_blk U10.out 2; have u3 := cell_of_blk U10.out 3
  clear L9 D9 B9 X9 K9 S9 T9 HF9 HP9 H9 C9 f10 hd2 hl2 hm2 hn2 F10
  go_wp2_with fail
  clear k0 k1 k2 k3 s0 s1 s2 s3 t0 t1 t2 t3 u0 u1 u2 u3
  have hbl := heap_alloc_new (w10.alloc (.cells #[.int .i64 a2_, .int .i64 r2_, .slice aF2 F2_.length pF2, .slice aP2 z2_.length pP2] 62)) (.cells #[.int .i64 oa, .int .i64 orr, .slice aO mF pO, .slice aQ mP pQ, .int .i64 oa, .int .i64 orr, .slice aO mF pO, .slice aP P.length pP, .int .i64 a1_, .int .i64 r1_, .slice aF1 F1_.length pF1, .slice aP1 z1_.length pP1, .int .i64 a2_, .int .i64 r2_, .slice aF2 F2_.length pF2, .slice aP2 z2_.length pP2] 62)
  have FB := Fr.alloc [] (w10.alloc (.cells #[.int .i64 a2_, .int .i64 r2_, .slice aF2 F2_.length pF2, .slice aP2 z2_.length pP2] 62)) (.cells #[.int .i64 oa, .int .i64 orr, .slice aO mF pO, .slice aQ mP pQ, .int .i64 oa, .int .i64 orr, .slice aO mF pO, .slice aP P.length pP, .int .i64 a1_, .int .i64 r1_, .slice aF1 F1_.length pF1, .slice aP1 z1_.length pP1, .int .i64 a2_, .int .i64 r2_, .slice aF2 F2_.length pF2, .slice aP2 z2_.length pP2] 62)
  have L11 := Lib.hid (L10.out.same FB)
  have D11 := Lib.hid (D10.out.same FB)
  have B11 := Lib.hid (FB.keep B10.out (by simp))
  have HF11 := Lib.hid (HF10.out.same FB)
  have HP11 := Lib.hid (HP10.out.same FB)
  have H11 := Lib.hid (H10.out.same FB)
  have J11 := Lib.hid (J10.out.same FB)
  clear L10 D10 B10 K10 S10 T10 HF10 HP10 H10 U10 J10 FB
  rw [World.size_alloc] at hbl
  generalize (w10.alloc (.cells #[.int .i64 a2_, .int .i64 r2_, .slice aF2 F2_.length pF2, .slice aP2 z2_.length pP2] 62)).alloc (.cells #[.int .i64 oa, .int .i64 orr, .slice aO mF pO, .slice aQ mP pQ, .int .i64 oa, .int .i64 orr, .slice aO mF pO, .slice aP P.length pP, .int .i64 a1_, .int .i64 r1_, .slice aF1 F1_.length pF1, .slice aP1 z1_.length pP1, .int .i64 a2_, .int .i64 r2_, .slice aF2 F2_.length pF2, .slice aP2 z2_.length pP2] 62) = WL at *
  have key : ∀ k, k < 4 → ∃ (xa xr : Int) (aX : Option Addr) (nX pX : Nat) (aY : Option Addr) (nY pY : Nat) (FX : List Int) (zX : List PrV), WL.cell? ⟨w10.heap.size + 1, k * 4, none⟩ = some (.int .i64 xa) ∧ WL.cell? ⟨w10.heap.size + 1, k * 4 + 1, none⟩ = some (.int .i64 xr) ∧ WL.cell? ⟨w10.heap.size + 1, k * 4 + 2, none⟩ = some (.slice aX nX pX) ∧ WL.cell? ⟨w10.heap.size + 1, k * 4 + 3, none⟩ = some (.slice aY nY pY) ∧ IntsAt WL (.slice aX nX pX) FX ∧ PrAt WL (.slice aY nY pY) zX ∧ (FX.length ≤ 1000000 ∧ zX.length ≤ 1000000) := by
    intro k hk
    simp only [cell_of_blk hbl]
    match k, hk with
    | 0, _ => exact ⟨oa, orr, aO, mF, pO, aQ, mP, pQ, oF.take mF, oz.take mP, rfl, rfl, rfl, rfl, HF11.out, HP11.out, by simp; omega⟩
    | 1, _ => exact ⟨oa, orr, aO, mF, pO, aP, P.length, pP, oF.take mF, zp, rfl, rfl, rfl, rfl, HF11.out, D11.out.own.at_, by have := HP5.out; simp; omega⟩
    | 2, _ => exact ⟨a1_, r1_, aF1, _, pF1, aP1, _, pP1, F1_, z1_, rfl, rfl, rfl, rfl, H11.out.fails.sl, H11.out.pr, by omega⟩
    | 3, _ => exact ⟨a2_, r2_, aF2, _, pF2, aP2, _, pP2, F2_, z2_, rfl, rfl, rfl, rfl, J11.out.fails.sl, J11.out.pr, by omega⟩
  have HK := Lib.hid key
  clear key hbl D11 HF11 HP11 H11 J11 HP5 EA
  go_loopw [96] (fun i wr => ∃ k : Nat, k ≤ 4 ∧ i = .int .i64 k ∧ Hid (Fr [] WL wr)) (fun i _ => 4 - (intOf i).toNat)
  case atStart => exact ⟨0, by omega, rfl, Lib.hid (Fr.refl _ _)⟩
  case round =>
    obtain ⟨k, hk, rfl, F8⟩ := hrel
    by_cases hlt : k < 4
    · obtain ⟨xa, xr, aX, nX, pX, aY, nY, pY, FX, zX, e0, e1, e2, e3, hI, hP, hlX⟩ := HK.out k hlt
      have c0 : wr.cell? ⟨w10.heap.size + 1, k * 4, none⟩ = some (.int .i64 xa) := (World.cell?_of_block (F8.out.block _ (World.block_lt_of_cell? WL _ e0) (by simp))).trans e0
      have c1 : wr.cell? ⟨w10.heap.size + 1, k * 4 + 1, none⟩ = some (.int .i64 xr) := (World.cell?_of_block (F8.out.block _ (World.block_lt_of_cell? WL _ e1) (by simp))).trans e1
      have c2 : wr.cell? ⟨w10.heap.size + 1, k * 4 + 2, none⟩ = some (.slice aX nX pX) := (World.cell?_of_block (F8.out.block _ (World.block_lt_of_cell? WL _ e2) (by simp))).trans e2
      have c3 : wr.cell? ⟨w10.heap.size + 1, k * 4 + 3, none⟩ = some (.slice aY nY pY) := (World.cell?_of_block (F8.out.block _ (World.block_lt_of_cell? WL _ e3) (by simp))).trans e3
      have FZ := Lib.hid (F8.out.trans (Fr.alloc [] wr (.cells #[.int .i64 xa, .int .i64 xr, .slice aX nX pX, .slice aY nY pY] 62)))
      have LZ := Lib.hid (L11.out.same FZ.out)
      have BZ := Lib.hid (FZ.out.keep B11.out (by simp))
      have ZZ := Lib.hid (heap_alloc_new wr (.cells #[.int .i64 xa, .int .i64 xr, .slice aX nX pX, .slice aY nY pY] 62))
      obtain ⟨M, hM, CR⟩ := dec_chk LZ.out EQ.out.1 EQ.out.2.1 xa xr _ _ FX zX (hI.same FZ.out) (hP.same FZ.out) hlX
      have HM := Lib.hid hM; have CR := Lib.hid CR
      obtain ⟨⟨g0, g1⟩, ⟨r0, r1, r2⟩, q0, q1, q2, q3, q4, q5⟩ := LZ.out.cells
      simp only at q0 q1 q2 q3 q4 q5
      have y0 := cell_of_blk ZZ.out 0; have y1 := cell_of_blk ZZ.out 1; have y2 := cell_of_blk ZZ.out 2; have y3 := cell_of_blk ZZ.out 3
      clear e0 e1 e2 e3 hI hP hM
      go_wp2_with fail
      clear g0 g1 r0 r1 r2 q0 q1 q2 q3 q4 q5 y0 y1 y2 y3 c0 c1 c2 c3
      refine CR.out.mono ?_
      rintro e w11 ⟨rfl, f11⟩
      have F11 := Lib.hid (FZ.out.trans f11)
      have zb := f11.keep ZZ.out (by simp); have db := f11.keep BZ.out (by simp)
      have y0 := cell_of_blk zb 0; have y1 := cell_of_blk zb 1
      have d0 := cell_of_blk db 0; have d1 := cell_of_blk db 1
      clear zb db CR LZ BZ ZZ FZ f11
      cases M with
      | true =>
        have hb1 : (xa != da) = false := by simp [(HM.out rfl).1]
        have hb2 : (xr != dr) = false := by simp [(HM.out rfl).2]
        clear HM
        go_wp2_with fail
        go_roundw
        case rel => exact ⟨k + 1, by omega, by go_num, F11⟩
        case measure => simp [intOf]; omega
      | false =>
        clear HM
        go_wp2_with fail
        go_roundw
        case rel => exact ⟨k + 1, by omega, by go_num, F11⟩
        case measure => simp [intOf]; omega
    · obtain rfl : k = 4 := by omega
      go_wp2_with fail
      go_ret
      exact ⟨rfl, (L11.out.fr.trans F8.out).below⟩

set_option maxRecDepth 100000 in
theorem open_i3 {H : Type} {enc : TypeId × Value → H} {W : World} {base : Nat} {v : Value} {d : DataW H} {p : List MemPlace} (k : Value.okWide Tryz.prog W .any base 60 v) (h : DataW.Trod enc Tryz.prog W 0 (fun _ => true) true 60 v d p) :
    ∃ a b c, v = .agg #[.int .i64 a, .int .i64 b, .int .i64 c] ∧ I64 a ∧ I64 b ∧ I64 c := by
  obtain ⟨cs, rfl⟩ : ∃ cs, v = .agg cs := by
    simp only [Value.okWide, Tryz.underlying60] at k
    obtain ⟨cs, h1, _⟩ := k
    exact ⟨cs, h1⟩
  obtain ⟨fuel, hf⟩ := agg_open h
  obtain ⟨zs, h1, h2, h3⟩ := ints_of_array (n := 3) Tryz.underlying60 Tryz.underlying3 (by kernel_rfl) (by kernel_rfl) hf
  obtain ⟨cs⟩ := cs
  simp only at h1
  subst h1
  match zs, h2 with
  | [a, b, c], _ => exact ⟨a, b, c, rfl, h3 a (by simp), h3 b (by simp), h3 c (by simp)⟩

set_option maxRecDepth 100000 in
theorem walk_FilterDecides {H : Type} {enc : TypeId × Value → H} {base : Nat} (W : World) {v0 v1 v2 v3 v4 v5 v6 : Value} {d0 d1 d2 d3 d4 d5 d6 : DataW H} {p0 p1 p2 p3 p4 p5 p6 : List MemPlace} (k0 : Value.okWide Tryz.prog W .any base 58 v0) (h0 : DataW.Trod enc Tryz.prog W 0 (fun _ => true) true 58 v0 d0 p0) (k1 : Value.okWide Tryz.prog W .any base 48 v1) (h1 : DataW.Trod enc Tryz.prog W 0 (fun _ => true) true 48 v1 d1 p1) (k2 : Value.okWide Tryz.prog W .any base 3 v2) (h2 : DataW.Trod enc Tryz.prog W 0 (fun _ => true) true 3 v2 d2 p2) (k3 : Value.okWide Tryz.prog W .any base 25 v3) (h3 : DataW.Trod enc Tryz.prog W 0 (fun _ => true) true 25 v3 d3 p3) (k4 : Value.okWide Tryz.prog W .any base 59 v4) (h4 : DataW.Trod enc Tryz.prog W 0 (fun _ => true) true 59 v4 d4 p4) (k5 : Value.okWide Tryz.prog W .any base 60 v5) (h5 : DataW.Trod enc Tryz.prog W 0 (fun _ => true) true 60 v5 d5 p5) (k6 : Value.okWide Tryz.prog W .any base 62 v6) (h6 : DataW.Trod enc Tryz.prog W 0 (fun _ => true) true 62 v6 d6 p6) :
    Calls Tryz.prog 4 #[v0, v1, v2, v3, v4, v5, v6] W fun e W' => e = .returned (.bool true) ∧ Below W.heap.size W W' := by
  obtain ⟨nx, xs, a0⟩ := open_x3s k0 h0
  obtain ⟨ms, a1, i1⟩ := open_ints k1 h1
  obtain ⟨fb, rfl, j1, j2⟩ := open_i64 Tryz.underlying3 k2 h2
  obtain ⟨_, _, _, n1, n2, n3, is1, is2, is3, rfl, b1, b2, b3⟩ := open_numbers k3 h3
  obtain ⟨qa, qb, qc, qd, qe, rfl, g1, g2, g3, g4, g5⟩ := open_x5 k4 h4
  obtain ⟨ba, bb, bc, rfl, s1, s2, s3⟩ := open_i3 k5 h5
  obtain ⟨oa, orr, vO, vQ, oF, oz, rfl, _, _, t1, t2⟩ := open_dec k6 h6
  exact decides_c _ _ _ _ _ nx n1 n2 n3 xs ms is1 is2 is3 fb qa qb qc qd qe ba bb bc oa orr vO vQ oF oz W a0 a1 i1 ⟨j1, j2⟩ b1 b2 b3 g1 g2 g3 g4 g5 s1 s2 s3 t1 t2

end Go.Proofs.YtkopnooajikpmaaGreat
