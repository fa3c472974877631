/-
  The walk of StatutePast.
-/
import Derived.Test.YtljdenoheflkoaaL8m
namespace Go.Proofs.Ytljdenoheflkoaa
open Go.ChangeShapes Go.WideShapes Go.ChangeAt Go.RowKit Go.Deep Go.Lib

set_option maxRecDepth 1000000 in
set_option maxHeartbeats 8000000 in
theorem past_c (v1 v2 v3 v4 v5 v6 : Value) (n1 n2 n3 n4 n5 n6 : Nat) (is1 is2 is3 is4 is5 is6 : List Int) (qa qb qc qd how nn at_ : Int) (w : World) (h1 : NumAt w v1 n1 6 is1) (h2 : NumAt w v2 n2 3 is2) (h3 : NumAt w v3 n3 6 is3) (h4 : NumAt w v4 n4 6 is4) (h5 : NumAt w v5 n5 3 is5) (h6 : NumAt w v6 n6 6 is6) (ha : I64 qa) (hb : I64 qb) (hc : I64 qc) (hd : I64 qd)
    (hho : I64 how) (hnn : I64 nn) (hat : I64 at_) :
    Calls Try.prog 4 #[.agg #[v1, v2, v3], .agg #[.int .i64 qa, .int .i64 qb, .int .i64 qc, .int .i64 qd], .agg #[v4, v5, v6], .int .i64 how, .int .i64 nn, .int .i64 at_] w fun e w' => e = .returned (.bool true) ∧ Below w.heap.size w w' := by
  obtain ⟨a4, p4, rfl⟩ := h4.sl.val
  obtain ⟨a5, p5, rfl⟩ := h5.sl.val
  obtain ⟨a6, p6, rfl⟩ := h6.sl.val
  have H4 := Lib.hid h4; have H5 := Lib.hid h5; have H6 := Lib.hid h6
  clear h4 h5 h6
  obtain ⟨a1, p1, rfl⟩ := h1.sl.val
  obtain ⟨a2, p2, rfl⟩ := h2.sl.val
  obtain ⟨a3, p3, rfl⟩ := h3.sl.val
  have HA := Lib.hid (allocs_at [.cells #[.slice a1 n1 p1, .slice a2 n2 p2, .slice a3 n3 p3] 25, .cells #[.int .i64 qa, .int .i64 qb, .int .i64 qc, .int .i64 qd] 26, .cells #[.slice a4 n4 p4, .slice a5 n5 p5, .slice a6 n6 p6] 25] w)
  have FA : Hid (Fr [] w _) := Lib.hid (allocs_fr [.cells #[.slice a1 n1 p1, .slice a2 n2 p2, .slice a3 n3 p3] 25, .cells #[.int .i64 qa, .int .i64 qb, .int .i64 qc, .int .i64 qd] 26, .cells #[.slice a4 n4 p4, .slice a5 n5 p5, .slice a6 n6 p6] 25] w)
  have H1 := Lib.hid h1; have H2 := Lib.hid h2; have H3 := Lib.hid h3
  have CQ := Lib.hid fun W => ask_c qa qb qc qd W ha hb hc hd
  have QM := Lib.hid (askQ_m qa qb qc qd)
  have HQ : Hid (askQ qa qb qc qd = ⟨pickI qa 3, pickI qb 8, pickI qc 100, pickI qd 100⟩) := Lib.hid rfl
  rw [HQ.out] at QM
  generalize pickI qa 3 = x0 at *
  generalize pickI qb 8 = x1 at *
  generalize pickI qc 100 = x2 at *
  generalize pickI qd 100 = x3 at *
  clear h1 h2 h3 ha hb hc hd HQ
  go_enter Try.func4, Try.ntmps4
  go_wp2_with fail
  refine (sane8_c _).mono ?_
  rintro e w1 ⟨rfl, f1⟩
  have B0 : w1.heap[w.heap.size]? = _ := f1.keep (HA.out 0 (by simp)) (by simp)
  have B1 : w1.heap[w.heap.size + 1]? = _ := f1.keep (HA.out 1 (by simp)) (by simp)
  have B2 : w1.heap[w.heap.size + 1 + 1]? = _ := f1.keep (HA.out 2 (by simp)) (by simp)
  have F1 := Lib.hid (FA.out.trans f1)
  have HB0 := Lib.hid B0
  have HB1 := Lib.hid B1
  have HB2 := Lib.hid B2
  clear f1 HA FA
  have c0 := cell_of_blk B0 0; have c1 := cell_of_blk B0 1; have c2 := cell_of_blk B0 2
  have CM := Lib.hid (made_c _ _ _ n1 n2 n3 is1 is2 is3 w1 (H1.out.same F1.out) (H2.out.same F1.out) (H3.out.same F1.out))
  clear B0 B1 B2
  go_wp2_with fail
  refine CM.out.mono ?_
  rintro e w2 ⟨f2, vc, vr, vf, ys, c, rfl, hm, ho⟩
  clear c0 c1 c2 CM
  obtain ⟨ac, pc, rfl⟩ := (sl_of_row ho.cls).val
  obtain ⟨ar, pr, rfl⟩ := (sl_of_row ho.rps).val
  obtain ⟨af, pf, rfl⟩ := (sl_of_row ho.fas).val
  have B2 := f2.keep HB1.out (by simp)
  have hb2 := blk_lt B2
  have c0 := cell_of_blk B2 0; have c1 := cell_of_blk B2 1; have c2 := cell_of_blk B2 2; have c3 := cell_of_blk B2 3
  have F2 := Lib.hid f2; have HM := Lib.hid hm; have HO := Lib.hid ho
  clear f2 hm ho B2
  go_wp2_with fail
  refine (CQ.out _).mono ?_
  rintro e w3 ⟨rfl, f3⟩
  clear c0 c1 c2 c3
  have L0 : Hid (LawSt w1 w2.heap.size w3.heap.size (.slice ac ys.length pc) (.slice ar c.rps.length pr) (.slice af c.fas.length pf) ys c ⟨x0, x1, x2, x3⟩ (w3.alloc (.cells #[.int .i64 x0, .int .i64 x1, .int .i64 x2, .int .i64 x3] 37))) := Lib.hid ⟨((F2.out.trans (Fr.alloc _ _ _)).trans f3).trans (Fr.alloc _ _ _), heap_alloc_old _ (f3.keep (heap_alloc_new _ _) (by simp)), heap_alloc_new _ _, (HO.out.same ((Fr.alloc _ _ _).trans f3)).same (Fr.alloc _ _ _), HM.out, ok_of HM.out QM.out⟩
  have B3 := f3.keep (heap_alloc_old (.cells #[.slice ac ys.length pc, .slice ar c.rps.length pr, .slice af c.fas.length pf] 34) (F2.out.keep HB2.out (by simp))) (by simp)
  have c0 := cell_of_blk B3 0; have c1 := cell_of_blk B3 1; have c2 := cell_of_blk B3 2
  have hb3 := blk_lt B3
  have FW := Lib.hid (F1.out.trans L0.out.fr)
  have CM2 := Lib.hid (made_c _ _ _ n4 n5 n6 is4 is5 is6 _ (H4.out.same FW.out) (H5.out.same FW.out) (H6.out.same FW.out))
  clear B3 f3
  go_wp2_with fail
  refine CM2.out.mono ?_
  rintro e w4 ⟨f4, vc2, vr2, vf2, ys2, d2, rfl, hm2, ho2⟩
  clear c0 c1 c2 CM2 hb3
  obtain ⟨ac2, pc2, rfl⟩ := (sl_of_row ho2.cls).val
  obtain ⟨ar2, pr2, rfl⟩ := (sl_of_row ho2.rps).val
  obtain ⟨af2, pf2, rfl⟩ := (sl_of_row ho2.fas).val
  have L4 := Lib.hid (L0.out.same f4)
  have LE := Lib.hid (L4.out.same (Fr.alloc [] w4 (.cells #[.slice ac2 ys2.length pc2, .slice ar2 d2.rps.length pr2, .slice af2 d2.fas.length pf2] 34)))
  have EB := Lib.hid (heap_alloc_new w4 (.cells #[.slice ac2 ys2.length pc2, .slice ar2 d2.rps.length pr2, .slice af2 d2.fas.length pf2] 34))
  have EO := Lib.hid (ho2.same (Fr.alloc [] w4 (.cells #[.slice ac2 ys2.length pc2, .slice ar2 d2.rps.length pr2, .slice af2 d2.fas.length pf2] 34)))
  have EM := Lib.hid hm2
  have hlc := blk_lt L4.out.cbox
  obtain ⟨⟨d0, d1, d2'⟩, _⟩ := L4.out.cells
  have CC := Lib.hid (copy_c _ _ _ ys c _ LE.out.own LE.out.made.few)
  clear f4 hm2 ho2 L0 H4 H5 H6 FW HB0 HB1 HB2 H1 H2 H3 CQ F2
  go_wp2_with fail
  refine CC.out.mono ?_
  rintro e w5 ⟨f5, oc, or_, of_, zs, rfl, ho5, hrow5⟩
  clear d0 d1 d2' CC hlc
  obtain ⟨ac5, pc5, rfl⟩ := (sl_of_row ho5.cls).val
  obtain ⟨ar5, pr5, rfl⟩ := (sl_of_row ho5.rps).val
  obtain ⟨af5, pf5, rfl⟩ := (sl_of_row ho5.fas).val
  have X5 := Lib.hid (BxS.boxed f5 ho5 hrow5)
  clear f5 ho5 hrow5
  generalize hWE : w4.alloc (.cells #[.slice ac2 ys2.length pc2, .slice ar2 d2.rps.length pr2, .slice af2 d2.fas.length pf2] 34) = wE at *
  clear hWE
  have CP := Lib.hid fun W => lawpick8_c nn 50 W hnn (by omega) (by omega)
  have bp := pickI_bound nn 50 (by omega)
  generalize pickI nn 50 = pn at *
  have bx2 := QM.out.at_
  have bx3 := QM.out.known
  simp only at bx2 bx3
  have hn1 := EM.out.nc; have hn2 := EM.out.nr; have hn3 := EM.out.nf
  have hyc2 : ys2.length = d2.cls.length := by rw [EO.out.eq, List.length_map]
  have hy28 : ys2.length ≤ 8 := by omega
  have HYC2 := Lib.hid hyc2
  clear hyc2
  have M0 := Lib.hid (PastM.start c ⟨x0, x1, x2, x3⟩)
  have hcn := LE.out.made.nc; have hcr := LE.out.made.nr; have hcf := LE.out.made.nf
  have CH2 := Lib.hid fun W => lawpick8_c how 2 W hho (by omega) (by omega)
  have bh2 := pickI_bound how 2 (by omega)
  generalize pickI how 2 = hh at *
  have CH3 := Lib.hid fun W => lawpick8_c how 3 W hho (by omega) (by omega)
  have bh3 := pickI_bound how 3 (by omega)
  generalize pickI how 3 = h3h at *
  have hcase2 : hh = 0 ∨ hh = 1 := by omega
  have hcase3 : h3h = 0 ∨ h3h = 1 ∨ h3h = 2 := by omega
  clear bh2 bh3
  go_upto_block 0 with fail
  go_cut [] (fun W => ∃ vcx zz dd, Hid (BxS wE w5.heap.size vcx (.slice ar5 c.rps.length pr5) (.slice af5 c.fas.length pf5) zz dd W) ∧ Hid (PastM c ⟨x0, x1, x2, x3⟩ ys2.length 0 0 dd))
  case first =>
    go_wp2_with fail
    go_loopw [17] (fun i wr => ∃ (k : Nat) (vcx : Value) (zz : List ClV) (dd : Rb), k ≤ ys2.length ∧ i = .int .i64 k ∧ Hid (BxS wE w5.heap.size vcx (.slice ar5 c.rps.length pr5) (.slice af5 c.fas.length pf5) zz dd wr) ∧ Hid (PastM c ⟨x0, x1, x2, x3⟩ k 0 0 dd)) (fun i _ => ys2.length - (intOf i).toNat)
    case atStart => exact ⟨0, _, zs, c, Nat.zero_le _, rfl, X5, M0⟩
    case round =>
      obtain ⟨k, vcx, zz, dd, hk, rfl, H, M⟩ := hrel
      obtain ⟨ao, po, rfl⟩ := (sl_of_row H.out.own.cls).val
      have hzl : zz.length ≤ 16 := by
        have h1 := H.out.own.eq
        have h2 := M.out.lens.1
        rw [h1, List.length_map] at h2
        omega
      have c15 := cell_of_blk (H.out.fr.keep EB.out (by simp)) 0
      by_cases hlt : k < ys2.length
      · obtain ⟨b, off, cap, hv, hcl⟩ := clRow_cells (sl_of_row (EO.out.same H.out.fr).cls) k hlt
        cases hv
        obtain ⟨⟨⟨xp, xf, xt, xn, xb, xg⟩, vn, vb⟩, hx⟩ : ∃ y, ys2[k] = y := ⟨_, rfl⟩
        rw [hx] at hcl
        have d0 := hcl 0 _ rfl
        have d1 := hcl 1 _ rfl
        have d2 := hcl 2 _ rfl
        have d3 := hcl 3 _ rfl
        have d4 := hcl 4 _ rfl
        have d5 := hcl 5 _ rfl
        simp only [Nat.add_zero] at d0 d1 d2 d3 d4 d5
        have hmem : ys2[k] ∈ ys2 := List.getElem_mem hlt
        have hN := EO.out.needs _ hmem
        have hB := EO.out.bars _ hmem
        rw [hx] at hN hB
        obtain ⟨an, pn', hvn⟩ := hN.sl.val
        obtain ⟨ab, pb', hvb⟩ := hB.sl.val
        simp only at hvn hvb
        subst hvn hvb
        have HXM : Hid (ClM ⟨xp, xf, xt, xn, xb, xg⟩) := Lib.hid (EM.out.cls _ (by rw [EO.out.eq]; exact List.mem_map.2 ⟨_, hmem, by rw [hx]⟩))
        have HX := Lib.hid hx
        clear hcl hx hmem hN hB
        go_wp2_with fail
        refine (CH2.out _).mono ?_
        rintro e w00 ⟨rfl, rfl⟩
        clear d0 d1 d2 d3 d4 d5 c15
        have HBA := Lib.hid (heap_alloc_new wr (.cells #[.int .i64 xp, .int .i64 xf, .int .i64 xt, .slice an xn.length pn', .slice ab xb.length pb', .int .i64 xg] 51))
        have HFA := Lib.hid (Fr.alloc [] wr (.cells #[.int .i64 xp, .int .i64 xf, .int .i64 xt, .slice an xn.length pn', .slice ab xb.length pb', .int .i64 xg] 51))
        generalize wr.alloc (.cells #[.int .i64 xp, .int .i64 xf, .int .i64 xt, .slice an xn.length pn', .slice ab xb.length pb', .int .i64 xg] 51) = WA at *
        have HXA := Lib.hid (H.out.same HFA.out)
        rcases hcase2 with rfl | rfl
        · go_wp2_with fail
          have SS : ∀ W, Fr [] WA W → W.cell? ⟨w3.heap.size, 3, none⟩ = some (.int .i64 x3) := fun W hf => cell_of_blk (hf.keep (HXA.out.fr.keep LE.out.qbox (by simp)) (by simp)) 3
          have FD : Fr [] WA WA.drew := Fr.drew _ _
          have hw1 : IntKind.i64.wrap (x3 + 1) = x3 + 1 := IntWalk.i64_in _ (by omega)
          have hw2 : IntKind.i64.wrap (x3 + 1 + pn) = x3 + 1 + pn := IntWalk.i64_in _ (by omega)
          refine reg_fin (fun W => W.cell? ⟨w3.heap.size, 3, none⟩ = some (.int .i64 x3)) 7 [0, 1, 2, 3, 4, 5, 6, 7] (by kernel_rfl) (by kernel_rfl) (by kernel_rfl) rfl ?_
          generalize WA.drew = WD at FD ⊢
          iterate 4 (refine fin_take (v := ?_) rfl rfl rfl rfl (SS _ FD) (fun w hS => ?_) ?_; rotate_left; (focus (go_simp; rfl)); simp only [List.setIfInBounds_toArray, List.set_cons_succ, List.set_cons_zero])
          refine fin_do rfl rfl rfl (fun K hK => ?_)
          go_simp
          refine (CP.out _).mono ?_
          rintro e w00 ⟨rfl, rfl⟩
          refine hK _ _ (SS _ FD) ?_
          clear hK K
          try simp only [Act.put, List.setIfInBounds_toArray, List.set_cons_succ, List.set_cons_zero]
          iterate 2 (refine fin_take (v := ?_) rfl rfl rfl rfl (SS _ FD) (fun w hS => ?_) ?_; rotate_left; (focus (go_simp; rfl)); simp only [List.setIfInBounds_toArray, List.set_cons_succ, List.set_cons_zero])
          have BD := FD.keep HBA.out (by simp)
          have t1 : WD.cell? ⟨wr.heap.size, 0, none⟩ = some (.int .i64 xp) := cell_of_blk BD 0
          have t2 : WD.frozen? ⟨wr.heap.size, 0, none⟩ = false := free_of_blk BD 0
          refine fin_last (o := ⟨none, _, _, _, _, _⟩) rfl rfl rfl (fun K hK => ?_)
          go_simp
          try go_upon
          try go_simp
          refine hK _ _ ?_
          clear hK K
          have BX := heap_setCell_same (i := 0) (.int .i64 (x3 + 1 + pn)) BD
          have FX : Fr [] wr (WD.setCell ⟨wr.heap.size, 0, none⟩ (.int .i64 (x3 + 1 + pn))) := (HFA.out.trans FD).step (Fr.setCell (fp := [wr.heap.size]) _ _ (by simp)) (fun i hi => .inr (by simp at hi; omega))
          have HCL := Lib.hid (pastCl_pub HXM.out QM.out bp)
          generalize WD.setCell ⟨wr.heap.size, 0, none⟩ (.int .i64 (x3 + 1 + pn)) = WX at *
          clear t1 t2 BD FD SS hw1 hw2
          obtain ⟨px, hpx⟩ : ∃ px, x3 + 1 + pn = px := ⟨_, rfl⟩
          simp only [hpx] at BX HCL
          clear hpx
          have X6 := H.out.same FX
          have k0 := cell_of_blk BX 0; have k1 := cell_of_blk BX 1; have k2 := cell_of_blk BX 2; have k3 := cell_of_blk BX 3; have k4 := cell_of_blk BX 4; have k5 := cell_of_blk BX 5
          have j0 : WX.cell? ⟨w5.heap.size, 0, none⟩ = some (.slice ao zz.length po) := cell_of_blk X6.box 0
          have HFX := Lib.hid FX; have HX6 := Lib.hid X6
          clear FX X6 BX
          go_wp2_with (first | ((with_reducible refine wpList_of_wp (o := ⟨some 83, _, _, _, _, _⟩) rfl (fun K hK => ?_)); apply stop_in; case _other => exact trivial))
          (refine stop_in ?_ ?_; rotate_left; exact trivial)
          have FY : Fr [] wr (WX.alloc (.cells #[.int .i64 px, .int .i64 xf, .int .i64 xt, .slice an xn.length pn', .slice ab xb.length pb', .int .i64 xg] 51)) := HFX.out.trans (Fr.alloc _ _ _)
          have HSr := srcAt_new WX #[.int .i64 px, .int .i64 xf, .int .i64 xt, .slice an xn.length pn', .slice ab xb.length pb', .int .i64 xg] 51
          generalize WX.alloc (.cells #[.int .i64 px, .int .i64 xf, .int .i64 xt, .slice an xn.length pn', .slice ab xb.length pb', .int .i64 xg] 51) = WY at *
          have X7 := H.out.same FY
          refine wp_append_src (.tmp 80) (.tmp 82) 30 51 _ 6 80 rfl Try.underlying30 infoCl rfl (by decide) (.slice ao zz.length po) zz.length _ rfl X7.own.cls (.slice (some ⟨WX.heap.size, 0, none⟩) 1 1) 1 [.int .i64 px, .int .i64 xf, .int .i64 xt, .slice an xn.length pn', .slice ab xb.length pb', .int .i64 xg] rfl HSr rfl (by simp [Value.oneCell']) (by omega) (by omega) ?_
          intro ga cap W8 r8 f8 b8
          refine hK _ _ ?_
          clear hK K
          have EO8 := EO.out.same X7.fr
          have P8 := X7.putCl (y := ⟨⟨px, xf, xt, xn, xb, xg⟩, .slice an xn.length pn', .slice ab xb.length pb'⟩) (by have := EO8.needs _ (List.getElem_mem hlt); rw [HX.out] at this; exact this) (by have := EO8.bars _ (List.getElem_mem hlt); rw [HX.out] at this; exact this) (fun g hg => by
            have hge : g < wE.heap.size := by have := (EO.out.term _ (List.getElem_mem hlt) g (by rw [HX.out]; exact hg)).2.1; exact this
            have hrw := X7.rows; have hbb := X7.hb; have hsz := X7.fr.size
            exact ⟨by omega, by omega, fun e => by have := hrw g (.inl e); omega, fun e => by have := hrw g (.inr (.inl e)); omega, fun e => by have := hrw g (.inr (.inr e)); omega⟩) r8 rfl rfl f8 b8
          have K8 := f8.keep X7.box (fun hm => X7.nb (.inl (by simpa using hm)))
          have t1 : W8.cell? ⟨w5.heap.size, 0, none⟩ = some (.slice ao zz.length po) := cell_of_blk K8 0
          have t2 : W8.frozen? ⟨w5.heap.size, 0, none⟩ = false := free_of_blk K8 0
          have HP8 := Lib.hid P8
          clear K8 P8 EO8 r8 f8 b8 X7 HSr FY HFX HX6 k0 k1 k2 k3 k4 k5 j0
          go_wp2_with fail
          go_roundw
          case rel => exact ⟨k + 1, _, _, _, by omega, by go_num, HP8, Lib.hid (M.out.addCl HCL.out)⟩
          case measure => simp [intOf]; omega
        · have k1 := cell_of_blk HBA.out 1; have k2 := cell_of_blk HBA.out 2
          have q2 := cell_of_blk (HXA.out.fr.keep LE.out.qbox (by simp)) 2
          obtain ⟨bb, hbb⟩ : ∃ bb, hasB xf xt x2 = bb := ⟨_, rfl⟩
          have CB := has8_c xf xt x2 WA
          rw [hbb] at CB
          have HBB := Lib.hid hbb
          have HCB := Lib.hid CB
          clear hbb CB
          go_wp2_with fail
          refine HCB.out.mono ?_
          rintro e WB ⟨rfl, fB⟩
          have HBB2 := Lib.hid (fB.keep HBA.out (by simp))
          have HFB := Lib.hid (HFA.out.trans fB)
          have HXB := Lib.hid (HXA.out.same fB)
          clear k1 k2 q2 HBA HFA HXA fB HCB
          cases bb with
          | true =>
            go_wp2_with fail
            have SS : ∀ W, Fr [] WB W → W.cell? ⟨w3.heap.size, 2, none⟩ = some (.int .i64 x2) := fun W hf => cell_of_blk (hf.keep (HXB.out.fr.keep LE.out.qbox (by simp)) (by simp)) 2
            have FD : Fr [] WB WB.drew := Fr.drew _ _
            have hw1 : IntKind.i64.wrap (x2 + 1) = x2 + 1 := IntWalk.i64_in _ (by omega)
            have hw2 : IntKind.i64.wrap (x2 + 2) = x2 + 2 := IntWalk.i64_in _ (by omega)
            have hw3 : IntKind.i64.wrap (x2 + 2 + pn) = x2 + 2 + pn := IntWalk.i64_in _ (by omega)
            refine reg_fin (fun W => W.cell? ⟨w3.heap.size, 2, none⟩ = some (.int .i64 x2)) 11 [0, 1, 2, 3, 4, 5, 6, 7, 8, 9, 10, 11] (by kernel_rfl) (by kernel_rfl) (by kernel_rfl) rfl ?_
            generalize WB.drew = WD at FD ⊢
            iterate 7 (refine fin_take (v := ?_) rfl rfl rfl rfl (SS _ FD) (fun w hS => ?_) ?_; rotate_left; (focus (go_simp; rfl)); simp only [List.setIfInBounds_toArray, List.set_cons_succ, List.set_cons_zero])
            refine fin_do rfl rfl rfl (fun K hK => ?_)
            go_simp
            refine (CP.out _).mono ?_
            rintro e w00 ⟨rfl, rfl⟩
            refine hK _ _ (SS _ FD) ?_
            clear hK K
            try simp only [Act.put, List.setIfInBounds_toArray, List.set_cons_succ, List.set_cons_zero]
            iterate 3 (refine fin_take (v := ?_) rfl rfl rfl rfl (SS _ FD) (fun w hS => ?_) ?_; rotate_left; (focus (go_simp; rfl)); simp only [List.setIfInBounds_toArray, List.set_cons_succ, List.set_cons_zero])
            have BD := FD.keep HBB2.out (by simp)
            have t1 : WD.cell? ⟨wr.heap.size, 1, none⟩ = some (.int .i64 xf) := cell_of_blk BD 1
            have t2 : WD.frozen? ⟨wr.heap.size, 1, none⟩ = false := free_of_blk BD 1
            have t3 : WD.cell? ⟨wr.heap.size, 2, none⟩ = some (.int .i64 xt) := cell_of_blk BD 2
            have t4 : WD.frozen? ⟨wr.heap.size, 2, none⟩ = false := free_of_blk BD 2
            refine fin_last (o := ⟨none, _, _, _, _, _⟩) rfl rfl rfl (fun K hK => ?_)
            go_simp
            try go_upon
            try go_simp
            refine hK _ _ ?_
            clear hK K
            have BX := heap_setCell_same (i := 2) (.int .i64 (x2 + 2 + pn)) (heap_setCell_same (i := 1) (.int .i64 (x2 + 1)) BD)
            have FX : Fr [] wr ((WD.setCell ⟨wr.heap.size, 1, none⟩ (.int .i64 (x2 + 1))).setCell ⟨wr.heap.size, 2, none⟩ (.int .i64 (x2 + 2 + pn))) := (HFB.out.trans FD).step ((Fr.setCell (fp := [wr.heap.size]) _ _ (by simp)).trans (Fr.setCell (fp := [wr.heap.size]) _ _ (by simp))) (fun i hi => .inr (by simp at hi; omega))
            have HCL := Lib.hid (pastCl_spell HXM.out QM.out bp)
            generalize (WD.setCell ⟨wr.heap.size, 1, none⟩ (.int .i64 (x2 + 1))).setCell ⟨wr.heap.size, 2, none⟩ (.int .i64 (x2 + 2 + pn)) = WX at *
            clear t1 t2 t3 t4 BD FD SS hw1 hw2 hw3
            obtain ⟨fx, hfx⟩ : ∃ fx, x2 + 1 = fx := ⟨_, rfl⟩
            obtain ⟨tx, htx⟩ : ∃ tx, x2 + 2 + pn = tx := ⟨_, rfl⟩
            simp only [hfx, htx] at BX HCL
            clear hfx htx
            have X6 := H.out.same FX
            have k0 := cell_of_blk BX 0; have k1 := cell_of_blk BX 1; have k2 := cell_of_blk BX 2; have k3 := cell_of_blk BX 3; have k4 := cell_of_blk BX 4; have k5 := cell_of_blk BX 5
            have j0 : WX.cell? ⟨w5.heap.size, 0, none⟩ = some (.slice ao zz.length po) := cell_of_blk X6.box 0
            have HFX := Lib.hid FX; have HX6 := Lib.hid X6
            clear FX X6 BX
            go_wp2_with (first | ((with_reducible refine wpList_of_wp (o := ⟨some 83, _, _, _, _, _⟩) rfl (fun K hK => ?_)); apply stop_in; case _other => exact trivial))
            (refine stop_in ?_ ?_; rotate_left; exact trivial)
            have FY : Fr [] wr (WX.alloc (.cells #[.int .i64 xp, .int .i64 fx, .int .i64 tx, .slice an xn.length pn', .slice ab xb.length pb', .int .i64 xg] 51)) := HFX.out.trans (Fr.alloc _ _ _)
            have HSr := srcAt_new WX #[.int .i64 xp, .int .i64 fx, .int .i64 tx, .slice an xn.length pn', .slice ab xb.length pb', .int .i64 xg] 51
            generalize WX.alloc (.cells #[.int .i64 xp, .int .i64 fx, .int .i64 tx, .slice an xn.length pn', .slice ab xb.length pb', .int .i64 xg] 51) = WY at *
            have X7 := H.out.same FY
            refine wp_append_src (.tmp 80) (.tmp 82) 30 51 _ 6 80 rfl Try.underlying30 infoCl rfl (by decide) (.slice ao zz.length po) zz.length _ rfl X7.own.cls (.slice (some ⟨WX.heap.size, 0, none⟩) 1 1) 1 [.int .i64 xp, .int .i64 fx, .int .i64 tx, .slice an xn.length pn', .slice ab xb.length pb', .int .i64 xg] rfl HSr rfl (by simp [Value.oneCell']) (by omega) (by omega) ?_
            intro ga cap W8 r8 f8 b8
            refine hK _ _ ?_
            clear hK K
            have EO8 := EO.out.same X7.fr
            have P8 := X7.putCl (y := ⟨⟨xp, fx, tx, xn, xb, xg⟩, .slice an xn.length pn', .slice ab xb.length pb'⟩) (by have := EO8.needs _ (List.getElem_mem hlt); rw [HX.out] at this; exact this) (by have := EO8.bars _ (List.getElem_mem hlt); rw [HX.out] at this; exact this) (fun g hg => by
              have hge : g < wE.heap.size := by have := (EO.out.term _ (List.getElem_mem hlt) g (by rw [HX.out]; exact hg)).2.1; exact this
              have hrw := X7.rows; have hbb := X7.hb; have hsz := X7.fr.size
              exact ⟨by omega, by omega, fun e => by have := hrw g (.inl e); omega, fun e => by have := hrw g (.inr (.inl e)); omega, fun e => by have := hrw g (.inr (.inr e)); omega⟩) r8 rfl rfl f8 b8
            have K8 := f8.keep X7.box (fun hm => X7.nb (.inl (by simpa using hm)))
            have t1 : W8.cell? ⟨w5.heap.size, 0, none⟩ = some (.slice ao zz.length po) := cell_of_blk K8 0
            have t2 : W8.frozen? ⟨w5.heap.size, 0, none⟩ = false := free_of_blk K8 0
            have HP8 := Lib.hid P8
            clear K8 P8 EO8 r8 f8 b8 X7 HSr FY HFX HX6 k0 k1 k2 k3 k4 k5 j0
            go_wp2_with fail
            go_roundw
            case rel => exact ⟨k + 1, _, _, _, by omega, by go_num, HP8, Lib.hid (M.out.addCl HCL.out)⟩
            case measure => simp [intOf]; omega
          | false =>
            have hhas := HBB.out
            have BX := HBB2.out
            have FX := HFB.out
            have HCL := Lib.hid (pastCl_not (q := ⟨x0, x1, x2, x3⟩) HXM.out hhas)
            generalize WB = WX at *
            have X6 := H.out.same FX
            have k0 := cell_of_blk BX 0; have k1 := cell_of_blk BX 1; have k2 := cell_of_blk BX 2; have k3 := cell_of_blk BX 3; have k4 := cell_of_blk BX 4; have k5 := cell_of_blk BX 5
            have j0 : WX.cell? ⟨w5.heap.size, 0, none⟩ = some (.slice ao zz.length po) := cell_of_blk X6.box 0
            have HFX := Lib.hid FX; have HX6 := Lib.hid X6
            clear FX X6 BX
            go_wp2_with (first | ((with_reducible refine wpList_of_wp (o := ⟨some 83, _, _, _, _, _⟩) rfl (fun K hK => ?_)); apply stop_in; case _other => exact trivial))
            (refine stop_in ?_ ?_; rotate_left; exact trivial)
            have FY : Fr [] wr (WX.alloc (.cells #[.int .i64 xp, .int .i64 xf, .int .i64 xt, .slice an xn.length pn', .slice ab xb.length pb', .int .i64 xg] 51)) := HFX.out.trans (Fr.alloc _ _ _)
            have HSr := srcAt_new WX #[.int .i64 xp, .int .i64 xf, .int .i64 xt, .slice an xn.length pn', .slice ab xb.length pb', .int .i64 xg] 51
            generalize WX.alloc (.cells #[.int .i64 xp, .int .i64 xf, .int .i64 xt, .slice an xn.length pn', .slice ab xb.length pb', .int .i64 xg] 51) = WY at *
            have X7 := H.out.same FY
            refine wp_append_src (.tmp 80) (.tmp 82) 30 51 _ 6 80 rfl Try.underlying30 infoCl rfl (by decide) (.slice ao zz.length po) zz.length _ rfl X7.own.cls (.slice (some ⟨WX.heap.size, 0, none⟩) 1 1) 1 [.int .i64 xp, .int .i64 xf, .int .i64 xt, .slice an xn.length pn', .slice ab xb.length pb', .int .i64 xg] rfl HSr rfl (by simp [Value.oneCell']) (by omega) (by omega) ?_
            intro ga cap W8 r8 f8 b8
            refine hK _ _ ?_
            clear hK K
            have EO8 := EO.out.same X7.fr
            have P8 := X7.putCl (y := ⟨⟨xp, xf, xt, xn, xb, xg⟩, .slice an xn.length pn', .slice ab xb.length pb'⟩) (by have := EO8.needs _ (List.getElem_mem hlt); rw [HX.out] at this; exact this) (by have := EO8.bars _ (List.getElem_mem hlt); rw [HX.out] at this; exact this) (fun g hg => by
              have hge : g < wE.heap.size := by have := (EO.out.term _ (List.getElem_mem hlt) g (by rw [HX.out]; exact hg)).2.1; exact this
              have hrw := X7.rows; have hbb := X7.hb; have hsz := X7.fr.size
              exact ⟨by omega, by omega, fun e => by have := hrw g (.inl e); omega, fun e => by have := hrw g (.inr (.inl e)); omega, fun e => by have := hrw g (.inr (.inr e)); omega⟩) r8 rfl rfl f8 b8
            have K8 := f8.keep X7.box (fun hm => X7.nb (.inl (by simpa using hm)))
            have t1 : W8.cell? ⟨w5.heap.size, 0, none⟩ = some (.slice ao zz.length po) := cell_of_blk K8 0
            have t2 : W8.frozen? ⟨w5.heap.size, 0, none⟩ = false := free_of_blk K8 0
            have HP8 := Lib.hid P8
            clear K8 P8 EO8 r8 f8 b8 X7 HSr FY HFX HX6 k0 k1 k2 k3 k4 k5 j0
            go_wp2_with fail
            go_roundw
            case rel => exact ⟨k + 1, _, _, _, by omega, by go_num, HP8, Lib.hid (M.out.addCl HCL.out)⟩
            case measure => simp [intOf]; omega
      · obtain rfl : k = ys2.length := by omega
        go_wp2_with fail
        go_meet
        case rel => exact ⟨_, _, _, H, M⟩
  case rest =>
    obtain ⟨vcx, zz, dd, H1, M1⟩ := hcut
    obtain ⟨acx, pcx, rfl⟩ := (sl_of_row H1.out.own.cls).val
    go_upto_block 2 with fail
    go_cut [] (fun W => ∃ j vrx dd, j ≤ d2.rps.length ∧ Hid (BxS wE w5.heap.size (.slice acx zz.length pcx) vrx (.slice af5 c.fas.length pf5) zz dd W) ∧ Hid (PastM c ⟨x0, x1, x2, x3⟩ ys2.length j 0 dd))
    case first =>
      go_wp2_with fail
      go_loopw [19] (fun i wr => ∃ (k : Nat) (vrx : Value) (dd : Rb), k ≤ d2.rps.length ∧ i = .int .i64 k ∧ Hid (BxS wE w5.heap.size (.slice acx zz.length pcx) vrx (.slice af5 c.fas.length pf5) zz dd wr) ∧ Hid (PastM c ⟨x0, x1, x2, x3⟩ ys2.length k 0 dd)) (fun i _ => d2.rps.length - (intOf i).toNat)
      case atStart => exact ⟨0, _, dd, Nat.zero_le _, rfl, H1, M1⟩
      case round =>
        obtain ⟨k, vrx, dd, hk, rfl, H, M⟩ := hrel
        obtain ⟨ao, po, rfl⟩ := (sl_of_row H.out.own.rps).val
        have hzl : dd.rps.length ≤ 6 := by
          have h2 := M.out.lens.2.1
          omega
        have c15 := cell_of_blk (H.out.fr.keep EB.out (by simp)) 1
        have c13 := cell_of_blk (H.out.fr.keep LE.out.cbox (by simp)) 0
        by_cases hlt : k < d2.rps.length
        · by_cases hy0 : 0 < ys.length
          · obtain ⟨b, off, cap, hv, hcl⟩ := rpRow_cells (sl_of_row (EO.out.same H.out.fr).rps) k hlt
            cases hv
            have hmem : d2.rps[k] ∈ d2.rps := List.getElem_mem hlt
            have HXM := Lib.hid (EM.out.rps _ hmem)
            have e1 := hcl 1 (.int .i64 d2.rps[k].pub) rfl
            have e2 := hcl 2 (.int .i64 d2.rps[k].frm) rfl
            clear hcl hmem
            have bpub := HXM.out.pub; have bfrm := HXM.out.frm
            generalize d2.rps[k].pub = rp at *
            generalize d2.rps[k].frm = rf at *
            have hyc : ys.length = c.cls.length := by rw [LE.out.own.eq, List.length_map]
            have hy8 : ys.length ≤ 8 := by omega
            have CK := Lib.hid fun W => lawpick8_c at_ ys.length W hat (by omega) (by omega)
            have bk := pickI_bound at_ ys.length (by omega)
            have bk' : 0 ≤ pickI at_ ys.length ∧ pickI at_ ys.length < (c.cls.length : Int) := by omega
            generalize pickI at_ ys.length = kc at *
            clear hyc bk
            have hbl : b < wr.heap.size := World.block_lt_of_cell? wr _ e1
            go_upto_region 19 with fail
            go_cut [20] (fun s20 W => ∃ g : Nat, s20 = .pointer (some ⟨g, 0, none⟩) ∧ wr.heap.size ≤ g ∧ Hid (Fr [] wr W) ∧ Hid (W.heap[g]? = some (.cells #[.int .i64 kc, .int .i64 rp, .int .i64 rf] 55 (0, 0))))
            case first =>
              have SS : ∀ W, Fr [] wr W → (W.cell? ⟨w2.heap.size, 0, none⟩ = some (.slice ac ys.length pc) ∧ W.cell? ⟨w4.heap.size, 1, none⟩ = some (.slice (some ⟨b, off, none⟩) d2.rps.length pr2) ∧ W.cell? ⟨b, off + k * 3 + 1, none⟩ = some (.int .i64 rp) ∧ W.cell? ⟨b, off + k * 3 + 2, none⟩ = some (.int .i64 rf)) := fun W hf => ⟨cell_of_blk (hf.keep (H.out.fr.keep LE.out.cbox (by simp)) (by simp)) 0, cell_of_blk (hf.keep (H.out.fr.keep EB.out (by simp)) (by simp)) 1, (World.cell?_of_block (hf.block b hbl (by simp))).trans e1, (World.cell?_of_block (hf.block b hbl (by simp))).trans e2⟩
              have FD : Fr [] wr wr.drew := Fr.drew _ _
              refine reg_fork (fun W => W.cell? ⟨w2.heap.size, 0, none⟩ = some (.slice ac ys.length pc) ∧ W.cell? ⟨w4.heap.size, 1, none⟩ = some (.slice (some ⟨b, off, none⟩) d2.rps.length pr2) ∧ W.cell? ⟨b, off + k * 3 + 1, none⟩ = some (.int .i64 rp) ∧ W.cell? ⟨b, off + k * 3 + 2, none⟩ = some (.int .i64 rf)) 19 4 18 [0, 1, 2, 3, 5, 6, 7, 8, 9, 10, 11, 12, 13, 14, 15, 16] [17, 18, 19] [4, 17, 19] (by kernel_rfl) (by kernel_rfl) (by kernel_rfl) rfl ?_
              clear c15 c13 e1 e2
              generalize wr.drew = WD at FD ⊢
              iterate 16 (refine fork_take (v := ?_) rfl rfl rfl (SS _ FD) (fun w hS => ?_) ?_; rotate_left; (focus (obtain ⟨s0, s1, s2, s3⟩ := hS; go_simp; rfl)); simp only [List.setIfInBounds_toArray, List.set_cons_succ, List.set_cons_zero])
              refine ⟨fork_do rfl rfl (fun K hK => ?_), fork_do rfl rfl (fun K hK => ?_)⟩
              · go_simp
                refine (CK.out _).mono ?_
                rintro e w00 ⟨rfl, rfl⟩
                refine hK _ _ (SS _ FD) ?_
                clear hK K
                try simp only [Act.put, List.setIfInBounds_toArray, List.set_cons_succ, List.set_cons_zero]
                (refine fin_take (v := ?_) rfl rfl rfl rfl (SS _ FD) (fun w hS => ?_) ?_; rotate_left; (focus (obtain ⟨s0, s1, s2, s3⟩ := hS; go_simp; rfl)); simp only [List.setIfInBounds_toArray, List.set_cons_succ, List.set_cons_zero])
                have A0 := heap_alloc_new WD (.cells #[.int .i64 0, .int .i64 0, .int .i64 0] 55)
                have FZ : Fr [] wr (WD.alloc (.cells #[.int .i64 0, .int .i64 0, .int .i64 0] 55)) := FD.trans (Fr.alloc _ _ _)
                have hge : wr.heap.size ≤ WD.heap.size := FD.size
                refine fin_do rfl rfl rfl (fun K hK => ?_)
                go_simp
                refine hK _ _ (SS _ FZ) ?_
                clear hK K
                try simp only [Act.put, List.setIfInBounds_toArray, List.set_cons_succ, List.set_cons_zero]
                have T0 := cell_of_blk A0 0; have T1 := cell_of_blk A0 1; have T2 := cell_of_blk A0 2
                have U0 := free_of_blk A0 0; have U1 := free_of_blk A0 1; have U2 := free_of_blk A0 2
                refine fin_last (o := ⟨none, _, _, _, _, _⟩) rfl rfl rfl (fun K hK => ?_)
                go_simp
                try go_upon
                try go_simp
                refine hK _ _ ?_
                clear hK K
                go_wp2_with fail
                go_meet
                case rel => exact ⟨WD.heap.size, rfl, hge, Lib.hid (FD.trans (Fr.alloc _ _ _)), Lib.hid (heap_alloc_new _ _)⟩
              · go_simp
                have A0 := heap_alloc_new WD (.cells #[.int .i64 0, .int .i64 0, .int .i64 0] 55)
                have FZ : Fr [] wr (WD.alloc (.cells #[.int .i64 0, .int .i64 0, .int .i64 0] 55)) := FD.trans (Fr.alloc _ _ _)
                have hge : wr.heap.size ≤ WD.heap.size := FD.size
                refine hK _ _ (SS _ FZ) ?_
                clear hK K
                try simp only [Act.put, List.setIfInBounds_toArray, List.set_cons_succ, List.set_cons_zero]
                refine fin_do rfl rfl rfl (fun K hK => ?_)
                go_simp
                refine (CK.out _).mono ?_
                rintro e w00 ⟨rfl, rfl⟩
                refine hK _ _ (SS _ FZ) ?_
                clear hK K
                try simp only [Act.put, List.setIfInBounds_toArray, List.set_cons_succ, List.set_cons_zero]
                (refine fin_take (v := ?_) rfl rfl rfl rfl (SS _ FZ) (fun w hS => ?_) ?_; rotate_left; (focus (obtain ⟨s0, s1, s2, s3⟩ := hS; go_simp; rfl)); simp only [List.setIfInBounds_toArray, List.set_cons_succ, List.set_cons_zero])
                have T0 := cell_of_blk A0 0; have T1 := cell_of_blk A0 1; have T2 := cell_of_blk A0 2
                have U0 := free_of_blk A0 0; have U1 := free_of_blk A0 1; have U2 := free_of_blk A0 2
                refine fin_last (o := ⟨none, _, _, _, _, _⟩) rfl rfl rfl (fun K hK => ?_)
                go_simp
                try go_upon
                try go_simp
                refine hK _ _ ?_
                clear hK K
                go_wp2_with fail
                go_meet
                case rel => exact ⟨WD.heap.size, rfl, hge, Lib.hid (FD.trans (Fr.alloc _ _ _)), Lib.hid (heap_alloc_new _ _)⟩
            case rest =>
              obtain ⟨g, rfl, hgg, HFA, HBA⟩ := hcut
              clear c15 c13 e1 e2
              have HXA := Lib.hid (H.out.same HFA.out)
              go_wp2_with fail
              refine (CH2.out _).mono ?_
              rintro e w00 ⟨rfl, rfl⟩
              generalize wc = WA at *
              rcases hcase2 with rfl | rfl
              · go_wp2_with fail
                have SS : ∀ W, Fr [] WA W → W.cell? ⟨w3.heap.size, 3, none⟩ = some (.int .i64 x3) := fun W hf => cell_of_blk (hf.keep (HXA.out.fr.keep LE.out.qbox (by simp)) (by simp)) 3
                have FD : Fr [] WA WA.drew := Fr.drew _ _
                have hw1 : IntKind.i64.wrap (x3 + 1) = x3 + 1 := IntWalk.i64_in _ (by omega)
                have hw2 : IntKind.i64.wrap (x3 + 1 + pn) = x3 + 1 + pn := IntWalk.i64_in _ (by omega)
                refine reg_fin (fun W => W.cell? ⟨w3.heap.size, 3, none⟩ = some (.int .i64 x3)) 7 [0, 1, 2, 3, 4, 5, 6, 7] (by kernel_rfl) (by kernel_rfl) (by kernel_rfl) rfl ?_
                generalize WA.drew = WD at FD ⊢
                iterate 4 (refine fin_take (v := ?_) rfl rfl rfl rfl (SS _ FD) (fun w hS => ?_) ?_; rotate_left; (focus (go_simp; rfl)); simp only [List.setIfInBounds_toArray, List.set_cons_succ, List.set_cons_zero])
                refine fin_do rfl rfl rfl (fun K hK => ?_)
                go_simp
                refine (CP.out _).mono ?_
                rintro e w00 ⟨rfl, rfl⟩
                refine hK _ _ (SS _ FD) ?_
                clear hK K
                try simp only [Act.put, List.setIfInBounds_toArray, List.set_cons_succ, List.set_cons_zero]
                iterate 2 (refine fin_take (v := ?_) rfl rfl rfl rfl (SS _ FD) (fun w hS => ?_) ?_; rotate_left; (focus (go_simp; rfl)); simp only [List.setIfInBounds_toArray, List.set_cons_succ, List.set_cons_zero])
                have BD := FD.keep HBA.out (by simp)
                have t1 : WD.cell? ⟨g, 1, none⟩ = some (.int .i64 rp) := cell_of_blk BD 1
                have t2 : WD.frozen? ⟨g, 1, none⟩ = false := free_of_blk BD 1
                refine fin_last (o := ⟨none, _, _, _, _, _⟩) rfl rfl rfl (fun K hK => ?_)
                go_simp
                try go_upon
                try go_simp
                refine hK _ _ ?_
                clear hK K
                have BX := heap_setCell_same (i := 1) (.int .i64 (x3 + 1 + pn)) BD
                have FX : Fr [] wr (WD.setCell ⟨g, 1, none⟩ (.int .i64 (x3 + 1 + pn))) := (HFA.out.trans FD).step (Fr.setCell (fp := [g]) _ _ (by simp)) (fun i hi => .inr (by simp at hi; omega))
                generalize WD.setCell ⟨g, 1, none⟩ (.int .i64 (x3 + 1 + pn)) = WX at *
                clear t1 t2 BD FD SS hw1 hw2
                have HCL := Lib.hid (pastRp_pub (n := c.cls.length) (k := kc) (f := rf) QM.out bk' (by omega) bp bfrm)
                have X6 := H.out.same FX
                have k0 := cell_of_blk BX 0; have k1 := cell_of_blk BX 1; have k2 := cell_of_blk BX 2
                have j0 : WX.cell? ⟨w5.heap.size, 1, none⟩ = some (.slice ao dd.rps.length po) := cell_of_blk X6.box 1
                have HFX := Lib.hid FX
                clear FX X6 BX
                go_wp2_with (first | ((with_reducible refine wpList_of_wp (o := ⟨some 137, _, _, _, _, _⟩) rfl (fun K hK => ?_)); apply stop_in; case _other => exact trivial))
                (refine stop_in ?_ ?_; rotate_left; exact trivial)
                have FY : Fr [] wr (WX.alloc (.cells #[.int .i64 kc, .int .i64 (x3 + 1 + pn), .int .i64 rf] 55)) := HFX.out.trans (Fr.alloc _ _ _)
                have HSr := srcAt_new WX #[.int .i64 kc, .int .i64 (x3 + 1 + pn), .int .i64 rf] 55
                generalize WX.alloc (.cells #[.int .i64 kc, .int .i64 (x3 + 1 + pn), .int .i64 rf] 55) = WY at *
                have X7 := H.out.same FY
                refine wp_append_src (.tmp 134) (.tmp 136) 31 55 _ 3 24 rfl Try.underlying31 infoRp rfl (by decide) (.slice ao dd.rps.length po) dd.rps.length _ rfl X7.own.rps (.slice (some ⟨WX.heap.size, 0, none⟩) 1 1) 1 [.int .i64 kc, .int .i64 (x3 + 1 + pn), .int .i64 rf] rfl HSr rfl (by simp [Value.oneCell']) (by omega) (by omega) ?_
                intro ga cap W8 r8 f8 b8
                refine hK _ _ ?_
                clear hK K
                have P8 := X7.putRp (rs := [⟨kc, (x3 + 1 + pn), rf⟩]) r8 (by simp) (by simp [rpC]) f8 (own_new b8)
                have K8 := f8.keep X7.box (fun hm => X7.nb (.inr (.inl (by simpa using hm))))
                have t1 : W8.cell? ⟨w5.heap.size, 1, none⟩ = some (.slice ao dd.rps.length po) := cell_of_blk K8 1
                have t2 : W8.frozen? ⟨w5.heap.size, 1, none⟩ = false := free_of_blk K8 1
                have HP8 := Lib.hid P8
                clear K8 P8 r8 f8 b8 X7 HSr FY HFX k0 k1 k2 j0
                go_wp2_with fail
                go_roundw
                case rel => exact ⟨k + 1, _, _, by omega, by go_num, HP8, Lib.hid (M.out.addRp HCL.out)⟩
                case measure => simp [intOf]; omega
              · go_wp2_with fail
                have SS : ∀ W, Fr [] WA W → W.cell? ⟨w3.heap.size, 2, none⟩ = some (.int .i64 x2) := fun W hf => cell_of_blk (hf.keep (HXA.out.fr.keep LE.out.qbox (by simp)) (by simp)) 2
                have FD : Fr [] WA WA.drew := Fr.drew _ _
                have hw1 : IntKind.i64.wrap (x2 + 1) = x2 + 1 := IntWalk.i64_in _ (by omega)
                have hw2 : IntKind.i64.wrap (x2 + 1 + pn) = x2 + 1 + pn := IntWalk.i64_in _ (by omega)
                refine reg_fin (fun W => W.cell? ⟨w3.heap.size, 2, none⟩ = some (.int .i64 x2)) 7 [0, 1, 2, 3, 4, 5, 6, 7] (by kernel_rfl) (by kernel_rfl) (by kernel_rfl) rfl ?_
                generalize WA.drew = WD at FD ⊢
                iterate 4 (refine fin_take (v := ?_) rfl rfl rfl rfl (SS _ FD) (fun w hS => ?_) ?_; rotate_left; (focus (go_simp; rfl)); simp only [List.setIfInBounds_toArray, List.set_cons_succ, List.set_cons_zero])
                refine fin_do rfl rfl rfl (fun K hK => ?_)
                go_simp
                refine (CP.out _).mono ?_
                rintro e w00 ⟨rfl, rfl⟩
                refine hK _ _ (SS _ FD) ?_
                clear hK K
                try simp only [Act.put, List.setIfInBounds_toArray, List.set_cons_succ, List.set_cons_zero]
                iterate 2 (refine fin_take (v := ?_) rfl rfl rfl rfl (SS _ FD) (fun w hS => ?_) ?_; rotate_left; (focus (go_simp; rfl)); simp only [List.setIfInBounds_toArray, List.set_cons_succ, List.set_cons_zero])
                have BD := FD.keep HBA.out (by simp)
                have t1 : WD.cell? ⟨g, 2, none⟩ = some (.int .i64 rf) := cell_of_blk BD 2
                have t2 : WD.frozen? ⟨g, 2, none⟩ = false := free_of_blk BD 2
                refine fin_last (o := ⟨none, _, _, _, _, _⟩) rfl rfl rfl (fun K hK => ?_)
                go_simp
                try go_upon
                try go_simp
                refine hK _ _ ?_
                clear hK K
                have BX := heap_setCell_same (i := 2) (.int .i64 (x2 + 1 + pn)) BD
                have FX : Fr [] wr (WD.setCell ⟨g, 2, none⟩ (.int .i64 (x2 + 1 + pn))) := (HFA.out.trans FD).step (Fr.setCell (fp := [g]) _ _ (by simp)) (fun i hi => .inr (by simp at hi; omega))
                generalize WD.setCell ⟨g, 2, none⟩ (.int .i64 (x2 + 1 + pn)) = WX at *
                clear t1 t2 BD FD SS hw1 hw2
                have HCL := Lib.hid (pastRp_frm (n := c.cls.length) (k := kc) (f := rp) QM.out bk' (by omega) bp bpub)
                have X6 := H.out.same FX
                have k0 := cell_of_blk BX 0; have k1 := cell_of_blk BX 1; have k2 := cell_of_blk BX 2
                have j0 : WX.cell? ⟨w5.heap.size, 1, none⟩ = some (.slice ao dd.rps.length po) := cell_of_blk X6.box 1
                have HFX := Lib.hid FX
                clear FX X6 BX
                go_wp2_with (first | ((with_reducible refine wpList_of_wp (o := ⟨some 137, _, _, _, _, _⟩) rfl (fun K hK => ?_)); apply stop_in; case _other => exact trivial))
                (refine stop_in ?_ ?_; rotate_left; exact trivial)
                have FY : Fr [] wr (WX.alloc (.cells #[.int .i64 kc, .int .i64 rp, .int .i64 (x2 + 1 + pn)] 55)) := HFX.out.trans (Fr.alloc _ _ _)
                have HSr := srcAt_new WX #[.int .i64 kc, .int .i64 rp, .int .i64 (x2 + 1 + pn)] 55
                generalize WX.alloc (.cells #[.int .i64 kc, .int .i64 rp, .int .i64 (x2 + 1 + pn)] 55) = WY at *
                have X7 := H.out.same FY
                refine wp_append_src (.tmp 134) (.tmp 136) 31 55 _ 3 24 rfl Try.underlying31 infoRp rfl (by decide) (.slice ao dd.rps.length po) dd.rps.length _ rfl X7.own.rps (.slice (some ⟨WX.heap.size, 0, none⟩) 1 1) 1 [.int .i64 kc, .int .i64 rp, .int .i64 (x2 + 1 + pn)] rfl HSr rfl (by simp [Value.oneCell']) (by omega) (by omega) ?_
                intro ga cap W8 r8 f8 b8
                refine hK _ _ ?_
                clear hK K
                have P8 := X7.putRp (rs := [⟨kc, rp, (x2 + 1 + pn)⟩]) r8 (by simp) (by simp [rpC]) f8 (own_new b8)
                have K8 := f8.keep X7.box (fun hm => X7.nb (.inr (.inl (by simpa using hm))))
                have t1 : W8.cell? ⟨w5.heap.size, 1, none⟩ = some (.slice ao dd.rps.length po) := cell_of_blk K8 1
                have t2 : W8.frozen? ⟨w5.heap.size, 1, none⟩ = false := free_of_blk K8 1
                have HP8 := Lib.hid P8
                clear K8 P8 r8 f8 b8 X7 HSr FY HFX k0 k1 k2 j0
                go_wp2_with fail
                go_roundw
                case rel => exact ⟨k + 1, _, _, by omega, by go_num, HP8, Lib.hid (M.out.addRp HCL.out)⟩
                case measure => simp [intOf]; omega
          · have hy1 : ys.length = 0 := by omega
            have hz : decide (0 < ys.length) = false := by simp [hy1]
            clear hy0
            go_wp2_with fail
            go_meet
            case rel => exact ⟨k, _, _, hk, H, M⟩
        · go_wp2_with fail
          go_meet
          case rel => exact ⟨k, _, _, hk, H, M⟩
    case rest =>
      obtain ⟨jr, vrx, dd2, hjr, H2, M2⟩ := hcut
      obtain ⟨arx, prx, rfl⟩ := (sl_of_row H2.out.own.rps).val
      go_upto_block 4 with fail
      go_cut [] (fun W => ∃ vfx dd, Hid (BxS wE w5.heap.size (.slice acx zz.length pcx) (.slice arx dd2.rps.length prx) vfx zz dd W) ∧ Hid (PastM c ⟨x0, x1, x2, x3⟩ ys2.length jr d2.fas.length dd))
      case first =>
        go_wp2_with fail
        go_loopw [21] (fun i wr => ∃ (k : Nat) (vfx : Value) (dd : Rb), k ≤ d2.fas.length ∧ i = .int .i64 k ∧ Hid (BxS wE w5.heap.size (.slice acx zz.length pcx) (.slice arx dd2.rps.length prx) vfx zz dd wr) ∧ Hid (PastM c ⟨x0, x1, x2, x3⟩ ys2.length jr k dd)) (fun i _ => d2.fas.length - (intOf i).toNat)
        case atStart => exact ⟨0, _, dd2, Nat.zero_le _, rfl, H2, M2⟩
        case round =>
          obtain ⟨k, vfx, dd, hk, rfl, H, M⟩ := hrel
          obtain ⟨ao, po, rfl⟩ := (sl_of_row H.out.own.fas).val
          have hzl : dd.fas.length ≤ 16 := by
            have h2 := M.out.lens.2.2
            omega
          have c15 := cell_of_blk (H.out.fr.keep EB.out (by simp)) 2
          by_cases hlt : k < d2.fas.length
          · obtain ⟨b, off, cap, hv, hcl⟩ := faRow_cells (sl_of_row (EO.out.same H.out.fr).fas) k hlt
            cases hv
            have HXM0 := Lib.hid (EM.out.fas _ (List.getElem_mem hlt))
            obtain ⟨⟨xt0, xs, xf, xt, xkf, xkt⟩, hx⟩ : ∃ y, d2.fas[k] = y := ⟨_, rfl⟩
            rw [hx] at hcl
            have HXM : Hid (FaM ⟨xt0, xs, xf, xt, xkf, xkt⟩) := Lib.hid (by have := HXM0.out; rwa [hx] at this)
            have e0 := hcl 0 _ rfl
            have e1 := hcl 1 _ rfl
            have e2 := hcl 2 _ rfl
            have e3 := hcl 3 _ rfl
            have e4 := hcl 4 _ rfl
            have e5 := hcl 5 _ rfl
            simp only [Nat.add_zero] at e0 e1 e2 e3 e4 e5
            clear hcl hx HXM0
            go_wp2_with fail
            refine (CH3.out _).mono ?_
            rintro e w00 ⟨rfl, rfl⟩
            clear e0 e1 e2 e3 e4 e5 c15
            have HBA := Lib.hid (heap_alloc_new wr (.cells #[.int .i64 xt0, .int .i64 xs, .int .i64 xf, .int .i64 xt, .int .i64 xkf, .int .i64 xkt] 57))
            have HFA := Lib.hid (Fr.alloc [] wr (.cells #[.int .i64 xt0, .int .i64 xs, .int .i64 xf, .int .i64 xt, .int .i64 xkf, .int .i64 xkt] 57))
            generalize wr.alloc (.cells #[.int .i64 xt0, .int .i64 xs, .int .i64 xf, .int .i64 xt, .int .i64 xkf, .int .i64 xkt] 57) = WA at *
            have HXA := Lib.hid (H.out.same HFA.out)
            rcases hcase3 with rfl | rfl | rfl
            · have t1 : WA.cell? ⟨wr.heap.size, 0, none⟩ = some (.int .i64 xt0) := cell_of_blk HBA.out 0
              have t2 : WA.frozen? ⟨wr.heap.size, 0, none⟩ = false := free_of_blk HBA.out 0
              go_upto_region 34 with fail
              have BX := heap_setCell_same (i := 0) (.int .i64 3) HBA.out
              have FX : Fr [] wr (WA.setCell ⟨wr.heap.size, 0, none⟩ (.int .i64 3)) := HFA.out.step (Fr.setCell (fp := [wr.heap.size]) _ _ (by simp)) (fun i hi => .inr (by simp at hi; omega))
              clear t1 t2
              generalize WA.setCell ⟨wr.heap.size, 0, none⟩ (.int .i64 3) = WX at *
              have HCL := Lib.hid (pastFa_thing HXM.out QM.out)
              have X6 := H.out.same FX
              have k0 := cell_of_blk BX 0; have k1 := cell_of_blk BX 1; have k2 := cell_of_blk BX 2; have k3 := cell_of_blk BX 3; have k4 := cell_of_blk BX 4; have k5 := cell_of_blk BX 5
              have j0 : WX.cell? ⟨w5.heap.size, 2, none⟩ = some (.slice ao dd.fas.length po) := cell_of_blk X6.box 2
              have HFX := Lib.hid FX
              clear FX X6 BX
              go_wp2_with (first | ((with_reducible refine wpList_of_wp (o := ⟨some 184, _, _, _, _, _⟩) rfl (fun K hK => ?_)); apply stop_in; case _other => exact trivial))
              (refine stop_in ?_ ?_; rotate_left; exact trivial)
              have FY : Fr [] wr (WX.alloc (.cells #[.int .i64 3, .int .i64 xs, .int .i64 xf, .int .i64 xt, .int .i64 xkf, .int .i64 xkt] 57)) := HFX.out.trans (Fr.alloc _ _ _)
              have HSr := srcAt_new WX #[.int .i64 3, .int .i64 xs, .int .i64 xf, .int .i64 xt, .int .i64 xkf, .int .i64 xkt] 57
              generalize WX.alloc (.cells #[.int .i64 3, .int .i64 xs, .int .i64 xf, .int .i64 xt, .int .i64 xkf, .int .i64 xkt] 57) = WY at *
              have X7 := H.out.same FY
              refine wp_append_src (.tmp 181) (.tmp 183) 32 57 _ 6 48 rfl Try.underlying32 infoFa rfl (by decide) (.slice ao dd.fas.length po) dd.fas.length _ rfl X7.own.fas (.slice (some ⟨WX.heap.size, 0, none⟩) 1 1) 1 [.int .i64 3, .int .i64 xs, .int .i64 xf, .int .i64 xt, .int .i64 xkf, .int .i64 xkt] rfl HSr rfl (by simp [Value.oneCell']) (by omega) (by omega) ?_
              intro ga cap W8 r8 f8 b8
              refine hK _ _ ?_
              clear hK K
              have P8 := X7.putFa (rs := [⟨3, xs, xf, xt, xkf, xkt⟩]) r8 (by simp) (by simp [faC]) f8 (own_new b8)
              have K8 := f8.keep X7.box (fun hm => X7.nb (.inr (.inr (.inl (by simpa using hm)))))
              have t1 : W8.cell? ⟨w5.heap.size, 2, none⟩ = some (.slice ao dd.fas.length po) := cell_of_blk K8 2
              have t2 : W8.frozen? ⟨w5.heap.size, 2, none⟩ = false := free_of_blk K8 2
              have HP8 := Lib.hid P8
              clear K8 P8 r8 f8 b8 X7 HSr FY HFX k0 k1 k2 k3 k4 k5 j0
              go_wp2_with fail
              go_roundw
              case rel => exact ⟨k + 1, _, _, by omega, by go_num, HP8, Lib.hid (M.out.addFa HCL.out)⟩
              case measure => simp [intOf]; omega
            · go_wp2_with fail
              have SS : ∀ W, Fr [] WA W → W.cell? ⟨w3.heap.size, 3, none⟩ = some (.int .i64 x3) := fun W hf => cell_of_blk (hf.keep (HXA.out.fr.keep LE.out.qbox (by simp)) (by simp)) 3
              have FD : Fr [] WA WA.drew := Fr.drew _ _
              have hw1 : IntKind.i64.wrap (x3 + 1) = x3 + 1 := IntWalk.i64_in _ (by omega)
              have hw2 : IntKind.i64.wrap (x3 + 2) = x3 + 2 := IntWalk.i64_in _ (by omega)
              have hw3 : IntKind.i64.wrap (x3 + 2 + pn) = x3 + 2 + pn := IntWalk.i64_in _ (by omega)
              refine reg_fin (fun W => W.cell? ⟨w3.heap.size, 3, none⟩ = some (.int .i64 x3)) 11 [0, 1, 2, 3, 4, 5, 6, 7, 8, 9, 10, 11] (by kernel_rfl) (by kernel_rfl) (by kernel_rfl) rfl ?_
              generalize WA.drew = WD at FD ⊢
              iterate 7 (refine fin_take (v := ?_) rfl rfl rfl rfl (SS _ FD) (fun w hS => ?_) ?_; rotate_left; (focus (go_simp; rfl)); simp only [List.setIfInBounds_toArray, List.set_cons_succ, List.set_cons_zero])
              refine fin_do rfl rfl rfl (fun K hK => ?_)
              go_simp
              refine (CP.out _).mono ?_
              rintro e w00 ⟨rfl, rfl⟩
              refine hK _ _ (SS _ FD) ?_
              clear hK K
              try simp only [Act.put, List.setIfInBounds_toArray, List.set_cons_succ, List.set_cons_zero]
              iterate 3 (refine fin_take (v := ?_) rfl rfl rfl rfl (SS _ FD) (fun w hS => ?_) ?_; rotate_left; (focus (go_simp; rfl)); simp only [List.setIfInBounds_toArray, List.set_cons_succ, List.set_cons_zero])
              have BD := FD.keep HBA.out (by simp)
              have t1 : WD.cell? ⟨wr.heap.size, 4, none⟩ = some (.int .i64 xkf) := cell_of_blk BD 4
              have t2 : WD.frozen? ⟨wr.heap.size, 4, none⟩ = false := free_of_blk BD 4
              have t3 : WD.cell? ⟨wr.heap.size, 5, none⟩ = some (.int .i64 xkt) := cell_of_blk BD 5
              have t4 : WD.frozen? ⟨wr.heap.size, 5, none⟩ = false := free_of_blk BD 5
              refine fin_last (o := ⟨none, _, _, _, _, _⟩) rfl rfl rfl (fun K hK => ?_)
              go_simp
              try go_upon
              try go_simp
              refine hK _ _ ?_
              clear hK K
              have BX := heap_setCell_same (i := 5) (.int .i64 (x3 + 2 + pn)) (heap_setCell_same (i := 4) (.int .i64 (x3 + 1)) BD)
              have FX : Fr [] wr ((WD.setCell ⟨wr.heap.size, 4, none⟩ (.int .i64 (x3 + 1))).setCell ⟨wr.heap.size, 5, none⟩ (.int .i64 (x3 + 2 + pn))) := (HFA.out.trans FD).step ((Fr.setCell (fp := [wr.heap.size]) _ _ (by simp)).trans (Fr.setCell (fp := [wr.heap.size]) _ _ (by simp))) (fun i hi => .inr (by simp at hi; omega))
              generalize (WD.setCell ⟨wr.heap.size, 4, none⟩ (.int .i64 (x3 + 1))).setCell ⟨wr.heap.size, 5, none⟩ (.int .i64 (x3 + 2 + pn)) = WX at *
              clear t1 t2 t3 t4 BD FD SS hw1 hw2 hw3
              have HCL := Lib.hid (pastFa_known HXM.out QM.out bp)
              have X6 := H.out.same FX
              have k0 := cell_of_blk BX 0; have k1 := cell_of_blk BX 1; have k2 := cell_of_blk BX 2; have k3 := cell_of_blk BX 3; have k4 := cell_of_blk BX 4; have k5 := cell_of_blk BX 5
              have j0 : WX.cell? ⟨w5.heap.size, 2, none⟩ = some (.slice ao dd.fas.length po) := cell_of_blk X6.box 2
              have HFX := Lib.hid FX
              clear FX X6 BX
              go_wp2_with (first | ((with_reducible refine wpList_of_wp (o := ⟨some 184, _, _, _, _, _⟩) rfl (fun K hK => ?_)); apply stop_in; case _other => exact trivial))
              (refine stop_in ?_ ?_; rotate_left; exact trivial)
              have FY : Fr [] wr (WX.alloc (.cells #[.int .i64 xt0, .int .i64 xs, .int .i64 xf, .int .i64 xt, .int .i64 (x3 + 1), .int .i64 (x3 + 2 + pn)] 57)) := HFX.out.trans (Fr.alloc _ _ _)
              have HSr := srcAt_new WX #[.int .i64 xt0, .int .i64 xs, .int .i64 xf, .int .i64 xt, .int .i64 (x3 + 1), .int .i64 (x3 + 2 + pn)] 57
              generalize WX.alloc (.cells #[.int .i64 xt0, .int .i64 xs, .int .i64 xf, .int .i64 xt, .int .i64 (x3 + 1), .int .i64 (x3 + 2 + pn)] 57) = WY at *
              have X7 := H.out.same FY
              refine wp_append_src (.tmp 181) (.tmp 183) 32 57 _ 6 48 rfl Try.underlying32 infoFa rfl (by decide) (.slice ao dd.fas.length po) dd.fas.length _ rfl X7.own.fas (.slice (some ⟨WX.heap.size, 0, none⟩) 1 1) 1 [.int .i64 xt0, .int .i64 xs, .int .i64 xf, .int .i64 xt, .int .i64 (x3 + 1), .int .i64 (x3 + 2 + pn)] rfl HSr rfl (by simp [Value.oneCell']) (by omega) (by omega) ?_
              intro ga cap W8 r8 f8 b8
              refine hK _ _ ?_
              clear hK K
              have P8 := X7.putFa (rs := [⟨xt0, xs, xf, xt, (x3 + 1), (x3 + 2 + pn)⟩]) r8 (by simp) (by simp [faC]) f8 (own_new b8)
              have K8 := f8.keep X7.box (fun hm => X7.nb (.inr (.inr (.inl (by simpa using hm)))))
              have t1 : W8.cell? ⟨w5.heap.size, 2, none⟩ = some (.slice ao dd.fas.length po) := cell_of_blk K8 2
              have t2 : W8.frozen? ⟨w5.heap.size, 2, none⟩ = false := free_of_blk K8 2
              have HP8 := Lib.hid P8
              clear K8 P8 r8 f8 b8 X7 HSr FY HFX k0 k1 k2 k3 k4 k5 j0
              go_wp2_with fail
              go_roundw
              case rel => exact ⟨k + 1, _, _, by omega, by go_num, HP8, Lib.hid (M.out.addFa HCL.out)⟩
              case measure => simp [intOf]; omega
            · go_wp2_with fail
              have SS : ∀ W, Fr [] WA W → W.cell? ⟨w3.heap.size, 2, none⟩ = some (.int .i64 x2) := fun W hf => cell_of_blk (hf.keep (HXA.out.fr.keep LE.out.qbox (by simp)) (by simp)) 2
              have FD : Fr [] WA WA.drew := Fr.drew _ _
              have hw1 : IntKind.i64.wrap (x2 + 1) = x2 + 1 := IntWalk.i64_in _ (by omega)
              have hw2 : IntKind.i64.wrap (x2 + 2) = x2 + 2 := IntWalk.i64_in _ (by omega)
              have hw3 : IntKind.i64.wrap (x2 + 2 + pn) = x2 + 2 + pn := IntWalk.i64_in _ (by omega)
              refine reg_fin (fun W => W.cell? ⟨w3.heap.size, 2, none⟩ = some (.int .i64 x2)) 11 [0, 1, 2, 3, 4, 5, 6, 7, 8, 9, 10, 11] (by kernel_rfl) (by kernel_rfl) (by kernel_rfl) rfl ?_
              generalize WA.drew = WD at FD ⊢
              iterate 7 (refine fin_take (v := ?_) rfl rfl rfl rfl (SS _ FD) (fun w hS => ?_) ?_; rotate_left; (focus (go_simp; rfl)); simp only [List.setIfInBounds_toArray, List.set_cons_succ, List.set_cons_zero])
              refine fin_do rfl rfl rfl (fun K hK => ?_)
              go_simp
              refine (CP.out _).mono ?_
              rintro e w00 ⟨rfl, rfl⟩
              refine hK _ _ (SS _ FD) ?_
              clear hK K
              try simp only [Act.put, List.setIfInBounds_toArray, List.set_cons_succ, List.set_cons_zero]
              iterate 3 (refine fin_take (v := ?_) rfl rfl rfl rfl (SS _ FD) (fun w hS => ?_) ?_; rotate_left; (focus (go_simp; rfl)); simp only [List.setIfInBounds_toArray, List.set_cons_succ, List.set_cons_zero])
              have BD := FD.keep HBA.out (by simp)
              have t1 : WD.cell? ⟨wr.heap.size, 2, none⟩ = some (.int .i64 xf) := cell_of_blk BD 2
              have t2 : WD.frozen? ⟨wr.heap.size, 2, none⟩ = false := free_of_blk BD 2
              have t3 : WD.cell? ⟨wr.heap.size, 3, none⟩ = some (.int .i64 xt) := cell_of_blk BD 3
              have t4 : WD.frozen? ⟨wr.heap.size, 3, none⟩ = false := free_of_blk BD 3
              refine fin_last (o := ⟨none, _, _, _, _, _⟩) rfl rfl rfl (fun K hK => ?_)
              go_simp
              try go_upon
              try go_simp
              refine hK _ _ ?_
              clear hK K
              have BX := heap_setCell_same (i := 3) (.int .i64 (x2 + 2 + pn)) (heap_setCell_same (i := 2) (.int .i64 (x2 + 1)) BD)
              have FX : Fr [] wr ((WD.setCell ⟨wr.heap.size, 2, none⟩ (.int .i64 (x2 + 1))).setCell ⟨wr.heap.size, 3, none⟩ (.int .i64 (x2 + 2 + pn))) := (HFA.out.trans FD).step ((Fr.setCell (fp := [wr.heap.size]) _ _ (by simp)).trans (Fr.setCell (fp := [wr.heap.size]) _ _ (by simp))) (fun i hi => .inr (by simp at hi; omega))
              generalize (WD.setCell ⟨wr.heap.size, 2, none⟩ (.int .i64 (x2 + 1))).setCell ⟨wr.heap.size, 3, none⟩ (.int .i64 (x2 + 2 + pn)) = WX at *
              clear t1 t2 t3 t4 BD FD SS hw1 hw2 hw3
              have HCL := Lib.hid (pastFa_spell HXM.out QM.out bp)
              have X6 := H.out.same FX
              have k0 := cell_of_blk BX 0; have k1 := cell_of_blk BX 1; have k2 := cell_of_blk BX 2; have k3 := cell_of_blk BX 3; have k4 := cell_of_blk BX 4; have k5 := cell_of_blk BX 5
              have j0 : WX.cell? ⟨w5.heap.size, 2, none⟩ = some (.slice ao dd.fas.length po) := cell_of_blk X6.box 2
              have HFX := Lib.hid FX
              clear FX X6 BX
              go_wp2_with (first | ((with_reducible refine wpList_of_wp (o := ⟨some 184, _, _, _, _, _⟩) rfl (fun K hK => ?_)); apply stop_in; case _other => exact trivial))
              (refine stop_in ?_ ?_; rotate_left; exact trivial)
              have FY : Fr [] wr (WX.alloc (.cells #[.int .i64 xt0, .int .i64 xs, .int .i64 (x2 + 1), .int .i64 (x2 + 2 + pn), .int .i64 xkf, .int .i64 xkt] 57)) := HFX.out.trans (Fr.alloc _ _ _)
              have HSr := srcAt_new WX #[.int .i64 xt0, .int .i64 xs, .int .i64 (x2 + 1), .int .i64 (x2 + 2 + pn), .int .i64 xkf, .int .i64 xkt] 57
              generalize WX.alloc (.cells #[.int .i64 xt0, .int .i64 xs, .int .i64 (x2 + 1), .int .i64 (x2 + 2 + pn), .int .i64 xkf, .int .i64 xkt] 57) = WY at *
              have X7 := H.out.same FY
              refine wp_append_src (.tmp 181) (.tmp 183) 32 57 _ 6 48 rfl Try.underlying32 infoFa rfl (by decide) (.slice ao dd.fas.length po) dd.fas.length _ rfl X7.own.fas (.slice (some ⟨WX.heap.size, 0, none⟩) 1 1) 1 [.int .i64 xt0, .int .i64 xs, .int .i64 (x2 + 1), .int .i64 (x2 + 2 + pn), .int .i64 xkf, .int .i64 xkt] rfl HSr rfl (by simp [Value.oneCell']) (by omega) (by omega) ?_
              intro ga cap W8 r8 f8 b8
              refine hK _ _ ?_
              clear hK K
              have P8 := X7.putFa (rs := [⟨xt0, xs, (x2 + 1), (x2 + 2 + pn), xkf, xkt⟩]) r8 (by simp) (by simp [faC]) f8 (own_new b8)
              have K8 := f8.keep X7.box (fun hm => X7.nb (.inr (.inr (.inl (by simpa using hm)))))
              have t1 : W8.cell? ⟨w5.heap.size, 2, none⟩ = some (.slice ao dd.fas.length po) := cell_of_blk K8 2
              have t2 : W8.frozen? ⟨w5.heap.size, 2, none⟩ = false := free_of_blk K8 2
              have HP8 := Lib.hid P8
              clear K8 P8 r8 f8 b8 X7 HSr FY HFX k0 k1 k2 k3 k4 k5 j0
              go_wp2_with fail
              go_roundw
              case rel => exact ⟨k + 1, _, _, by omega, by go_num, HP8, Lib.hid (M.out.addFa HCL.out)⟩
              case measure => simp [intOf]; omega
          · obtain rfl : k = d2.fas.length := by omega
            go_wp2_with fail
            go_meet
            case rel => exact ⟨_, _, H, M⟩
      case rest =>
        obtain ⟨vfx, dd, H, M⟩ := hcut
        obtain ⟨afx, pfx, rfl⟩ := (sl_of_row H.out.own.fas).val
        have okD := M.out.okB LE.out.made QM.out hy28 (by omega) (by omega)
        have i64D := M.out.i64 LE.out.made
        have HPE := Lib.hid M.out.ext
        have OKD := Lib.hid okD; have I64D := Lib.hid i64D
        have LC := Lib.hid (LE.out.same H.out.fr)
        obtain ⟨a, ea⟩ : ∃ a, decideA c ⟨x0, x1, x2, x3⟩ = a := ⟨_, rfl⟩
        obtain ⟨l, el⟩ : ∃ l, decideL c ⟨x0, x1, x2, x3⟩ = l := ⟨_, rfl⟩
        have EA := Lib.hid ea
        have CD := Lib.hid (decide_ok LC.out.at_ LC.out.ok a l ea el)
        have ea2 : decideA dd ⟨x0, x1, x2, x3⟩ = a := (HPE.out.decided LC.out.ok okD).trans ea
        obtain ⟨lo, elo⟩ : ∃ lo, decideL dd ⟨x0, x1, x2, x3⟩ = lo := ⟨_, rfl⟩
        have KO : Hid (checkB c ⟨x0, x1, x2, x3⟩ a lo = true) := Lib.hid (by
          have := decide_checks okD
          rw [ea2, elo, HPE.out.check LC.out.ok okD] at this
          exact this)
        have hl := decide_len LC.out.ok
        rw [el] at hl
        have EA2 := Lib.hid ea2; have EL2 := Lib.hid elo
        clear okD i64D ea el ea2 elo
        unfold rbV qnV at CD
        simp only at CD
        obtain ⟨⟨d0, d1, d2c⟩, e0, e1, e2, e3⟩ := LC.out.cells
        go_wp2_with fail
        refine CD.out.mono ?_
        rintro e w6 ⟨f6, v6, rfl, r6, n6'⟩
        clear d0 d1 d2c e0 e1 e2 e3 CD
        obtain ⟨va, vp, rfl⟩ := (sl_of_row r6).val
        have L6 := Lib.hid (LC.out.same f6)
        have B6 := Lib.hid (H.out.same f6)
        have R6 := Lib.hid r6
        clear f6 r6 n6'
        have CD2 := Lib.hid (decide_ok (q := ⟨x0, x1, x2, x3⟩) (B6.out.own.at_ I64D.out) OKD.out a lo EA2.out EL2.out)
        unfold rbV qnV at CD2
        simp only at CD2
        obtain ⟨_, e0, e1, e2, e3⟩ := L6.out.cells
        have g0 := cell_of_blk B6.out.box 0; have g1 := cell_of_blk B6.out.box 1; have g2 := cell_of_blk B6.out.box 2
        go_wp2_with fail
        refine CD2.out.mono ?_
        rintro e w7 ⟨f7, v7, rfl, r7, n7⟩
        clear e0 e1 e2 e3 g0 g1 g2 CD2
        obtain ⟨va7, vp7, rfl⟩ := (sl_of_row r7).val
        have L7 := Lib.hid (L6.out.same f7)
        have B7 := Lib.hid (B6.out.same f7)
        have R7 := Lib.hid (row_fr R6.out f7 (by simp))
        have O7 := Lib.hid r7
        have CB := Lib.hid (bent_c _ l how nn at_ w7 (srcAt_of_row R7.out) (by omega) hho hat)
        clear f7 r7 n7
        go_wp2_with fail
        refine CB.out.mono ?_
        rintro e w8 ⟨f8, v8, l8, rfl, hF8, hl8⟩
        clear CB
        obtain ⟨a8, p8, rfl⟩ := hF8.sl.val
        have L8' := Lib.hid (L7.out.same f8)
        have B8 := Lib.hid (B7.out.same f8)
        have R8 := Lib.hid (row_fr R7.out f8 (by simp))
        have O8 := Lib.hid (row_fr O7.out f8 (by simp))
        have T8 := Lib.hid hF8
        clear f8 hF8
        go_wp2_with fail
        have hbl : (w8.alloc (.cells #[.slice va l.length vp, .slice va7 lo.length vp7, .slice a8 l8.length p8] 28)).heap[w8.heap.size]? = _ := heap_alloc_new _ _
        have FB := Fr.alloc [] w8 (.cells #[.slice va l.length vp, .slice va7 lo.length vp7, .slice a8 l8.length p8] 28)
        generalize w8.alloc (.cells #[.slice va l.length vp, .slice va7 lo.length vp7, .slice a8 l8.length p8] 28) = W9 at *
        have L9' := Lib.hid (L8'.out.same FB)
        have B9 := Lib.hid (B8.out.same FB)
        have O9 := Lib.hid (row_fr O8.out FB (by simp))
        have key : ∀ k, k < 3 → ∃ zv zl zn zp, W9.cell? ⟨w8.heap.size, k, none⟩ = some (.slice zv zn zp) ∧ Sl W9 (.slice zv zn zp) zl.length (List.flatMap fdC zl) := by
          intro k hk
          rw [cell_of_blk hbl]
          match k, hk with
          | 0, _ => exact ⟨va, l, _, vp, rfl, (sl_of_row R8.out).same FB⟩
          | 1, _ => exact ⟨va7, lo, _, vp7, rfl, (sl_of_row O8.out).same FB⟩
          | 2, _ => exact ⟨a8, l8, _, p8, rfl, (T8.out.same FB).sl⟩
        have HK := Lib.hid key
        clear key hbl FB R8 O8 T8 B8 L8'
        go_loopw [220] (fun i wr => ∃ k : Nat, k ≤ 3 ∧ i = .int .i64 k ∧ Hid (Fr [] W9 wr)) (fun i _ => 3 - (intOf i).toNat)
        case atStart => exact ⟨0, by omega, rfl, Lib.hid (Fr.refl _ _)⟩
        case round =>
          obtain ⟨k, hk, rfl, F9⟩ := hrel
          by_cases hlt : k < 3
          · obtain ⟨zv, zl, zn, zp, hcell, hzs⟩ := HK.out k hlt
            have hc : wr.cell? ⟨w8.heap.size, k, none⟩ = some (.slice zv zn zp) := (World.cell?_of_block (F9.out.block _ (World.block_lt_of_cell? W9 _ hcell) (by simp))).trans hcell
            have hzr := hzs.same F9.out
            obtain ⟨bb, hbb⟩ : ∃ bb, checkB c ⟨x0, x1, x2, x3⟩ a zl = bb := ⟨_, rfl⟩
            have hbb2 : checkB dd ⟨x0, x1, x2, x3⟩ a zl = bb := (HPE.out.check L9'.out.ok OKD.out a zl).trans hbb
            have CR := Lib.hid fun W (hf : Fr [] wr W) => ((L9'.out.same F9.out).same hf).check _ zl a bb (hzr.same hf) hbb
            have CR2 := Lib.hid fun W (hf : Fr [] wr W) => check_c _ _ _ (.slice zv zn zp) zz dd ⟨x0, x1, x2, x3⟩ a zl W ((((B9.out.same F9.out).same hf).own).at_ I64D.out) (hzr.same hf)
            rw [hbb2] at CR2
            unfold rbV qnV at CR2
            simp only at CR2
            have SS : ∀ W, Fr [] wr W → (W.cell? ⟨w2.heap.size, 0, none⟩ = some (.slice ac ys.length pc) ∧ W.cell? ⟨w2.heap.size, 1, none⟩ = some (.slice ar c.rps.length pr) ∧ W.cell? ⟨w2.heap.size, 2, none⟩ = some (.slice af c.fas.length pf) ∧ W.cell? ⟨w3.heap.size, 0, none⟩ = some (.int .i64 x0) ∧ W.cell? ⟨w3.heap.size, 1, none⟩ = some (.int .i64 x1) ∧ W.cell? ⟨w3.heap.size, 2, none⟩ = some (.int .i64 x2) ∧ W.cell? ⟨w3.heap.size, 3, none⟩ = some (.int .i64 x3) ∧ W.cell? ⟨w5.heap.size, 0, none⟩ = some (.slice acx zz.length pcx) ∧ W.cell? ⟨w5.heap.size, 1, none⟩ = some (.slice arx dd2.rps.length prx) ∧ W.cell? ⟨w5.heap.size, 2, none⟩ = some (.slice afx dd.fas.length pfx)) := fun W hf => by
              obtain ⟨⟨d0, d1, d2⟩, e0, e1, e2, e3⟩ := ((L9'.out.same F9.out).same hf).cells
              have X := ((B9.out.same F9.out).same hf).box
              exact ⟨d0, d1, d2, e0, e1, e2, e3, cell_of_blk X 0, cell_of_blk X 1, cell_of_blk X 2⟩
            have HSS := Lib.hid SS
            clear hcell hzs hzr hbb hbb2 SS
            go_wp2_with fail
            have FD : Fr [] wr wr.drew := Fr.drew _ _
            refine reg_mix (fun W => W.cell? ⟨w2.heap.size, 0, none⟩ = some (.slice ac ys.length pc) ∧ W.cell? ⟨w2.heap.size, 1, none⟩ = some (.slice ar c.rps.length pr) ∧ W.cell? ⟨w2.heap.size, 2, none⟩ = some (.slice af c.fas.length pf) ∧ W.cell? ⟨w3.heap.size, 0, none⟩ = some (.int .i64 x0) ∧ W.cell? ⟨w3.heap.size, 1, none⟩ = some (.int .i64 x1) ∧ W.cell? ⟨w3.heap.size, 2, none⟩ = some (.int .i64 x2) ∧ W.cell? ⟨w3.heap.size, 3, none⟩ = some (.int .i64 x3) ∧ W.cell? ⟨w5.heap.size, 0, none⟩ = some (.slice acx zz.length pcx) ∧ W.cell? ⟨w5.heap.size, 1, none⟩ = some (.slice arx dd2.rps.length prx) ∧ W.cell? ⟨w5.heap.size, 2, none⟩ = some (.slice afx dd.fas.length pfx)) [0, 1, 2, 3, 5, 6, 7, 8, 4, 9, 10] (by kernel_rfl) (by kernel_rfl) (by kernel_rfl) rfl (HSS.out _ FD) ?_
            generalize wr.drew = WD at FD ⊢
            iterate 8 (refine mix_take1 (v := ?_) rfl rfl rfl rfl (fun w hS => ?_) ?_; rotate_left; (focus (obtain ⟨s0, s1, s2, s3, s4, s5, s6, s7, s8, s9⟩ := hS; go_simp; rfl)); simp only [List.setIfInBounds_toArray, List.set_cons_succ, List.set_cons_zero])
            refine mix_do rfl rfl rfl (fun K hK => ?_)
            go_simp
            refine (CR.out _ FD).mono ?_
            rintro e w10 ⟨rfl, f10⟩
            have F10 := FD.trans f10
            refine hK _ _ (HSS.out _ F10) ?_
            clear hK K
            try simp only [Act.put, List.setIfInBounds_toArray, List.set_cons_succ, List.set_cons_zero]
            refine mix_do rfl rfl rfl (fun K hK => ?_)
            go_simp
            refine (CR2.out _ F10).mono ?_
            rintro e w11 ⟨rfl, f11⟩
            have F11 := F10.trans f11
            refine hK _ _ (HSS.out _ F11) ?_
            clear hK K
            try simp only [Act.put, List.setIfInBounds_toArray, List.set_cons_succ, List.set_cons_zero]
            refine mix_take1 (v := .bool false) rfl rfl rfl rfl (fun w _ => ?_) ?_
            · cases bb <;> (go_simp; try rfl)
            simp only [List.setIfInBounds_toArray, List.set_cons_succ, List.set_cons_zero]
            refine mix_end ?_
            have HF11 := Lib.hid (F9.out.trans F11)
            clear F10 F11 f10 f11 FD CR CR2 HSS hc
            go_wp2_with fail
            go_roundw
            case rel => exact ⟨k + 1, by omega, by go_num, HF11⟩
            case measure => simp [intOf]; omega
          · obtain rfl : k = 3 := by omega
            have LR := Lib.hid (L9'.out.same F9.out)
            have CR := Lib.hid (LR.out.check _ lo a true (sl_of_row (row_fr O9.out F9.out (by simp))) KO.out)
            obtain ⟨⟨d0, d1, d2⟩, e0, e1, e2, e3⟩ := LR.out.cells
            go_wp2_with fail
            refine CR.out.mono ?_
            rintro e w12 ⟨rfl, f12⟩
            clear d0 d1 d2 e0 e1 e2 e3
            go_wp2_with fail
            go_ret
            exact ⟨rfl, ((F1.out.trans LR.out.fr).trans f12).below⟩

set_option maxRecDepth 100000 in
theorem walk_StatutePast {H : Type} {enc : TypeId × Value → H} {base : Nat} (W : World) {v0 v1 v2 v3 v4 v5 : Value} {d0 d1 d2 d3 d4 d5 : DataW H} {p0 p1 p2 p3 p4 p5 : List MemPlace} (k0 : Value.okWide Try.prog W .any base 25 v0) (h0 : DataW.Trod enc Try.prog W 0 (fun _ => true) true 25 v0 d0 p0) (k1 : Value.okWide Try.prog W .any base 26 v1) (h1 : DataW.Trod enc Try.prog W 0 (fun _ => true) true 26 v1 d1 p1)
    (k2 : Value.okWide Try.prog W .any base 25 v2) (h2 : DataW.Trod enc Try.prog W 0 (fun _ => true) true 25 v2 d2 p2) (k3 : Value.okWide Try.prog W .any base 3 v3) (h3 : DataW.Trod enc Try.prog W 0 (fun _ => true) true 3 v3 d3 p3) (k4 : Value.okWide Try.prog W .any base 3 v4) (h4 : DataW.Trod enc Try.prog W 0 (fun _ => true) true 3 v4 d4 p4) (k5 : Value.okWide Try.prog W .any base 3 v5) (h5 : DataW.Trod enc Try.prog W 0 (fun _ => true) true 3 v5 d5 p5) :
    Calls Try.prog 4 #[v0, v1, v2, v3, v4, v5] W fun e W' => e = .returned (.bool true) ∧ Below W.heap.size W W' := by
  obtain ⟨_, _, _, n1, n2, n3, is1, is2, is3, rfl, a1, a2, a3⟩ := open_numbers k0 h0
  obtain ⟨a, b, c, d, rfl, ha, hb, hc, hd⟩ := open_i4 k1 h1
  obtain ⟨_, _, _, n4, n5, n6, is4, is5, is6, rfl, a4, a5, a6⟩ := open_numbers k2 h2
  obtain ⟨x, rfl, i1, i2⟩ := open_i64 Try.underlying3 k3 h3
  obtain ⟨y, rfl, j1, j2⟩ := open_i64 Try.underlying3 k4 h4
  obtain ⟨z, rfl, u1, u2⟩ := open_i64 Try.underlying3 k5 h5
  exact past_c _ _ _ _ _ _ n1 n2 n3 n4 n5 n6 is1 is2 is3 is4 is5 is6 a b c d x y z W a1 a2 a3 a4 a5 a6 ha hb hc hd ⟨i1, i2⟩ ⟨j1, j2⟩ ⟨u1, u2⟩

end Go.Proofs.Ytljdenoheflkoaa
