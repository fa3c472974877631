/-
  The walk of StatuteLeans.
-/
import Derived.Test.YtljdenoheflkoaaL8p
import Derived.BigQuiet
namespace Go.Proofs.Ytljdenoheflkoaa
open Go.ChangeShapes Go.WideShapes Go.ChangeAt Go.RowKit Go.Deep Go.Lib

set_option maxRecDepth 1000000 in
set_option maxHeartbeats 8000000 in
theorem leans_c (v1 v2 v3 : Value) (n1 n2 n3 : Nat) (is1 is2 is3 : List Int) (qa qb qc qd : Int) (w : World) (h1 : NumAt w v1 n1 6 is1) (h2 : NumAt w v2 n2 3 is2) (h3 : NumAt w v3 n3 6 is3) (ha : I64 qa) (hb : I64 qb) (hc : I64 qc) (hd : I64 qd) :
    Calls Try.prog 5 #[.agg #[v1, v2, v3], .agg #[.int .i64 qa, .int .i64 qb, .int .i64 qc, .int .i64 qd]] w fun e w' => e = .returned (.bool true) ∧ Below w.heap.size w w' := by
  obtain ⟨a1, p1, rfl⟩ := h1.sl.val
  obtain ⟨a2, p2, rfl⟩ := h2.sl.val
  obtain ⟨a3, p3, rfl⟩ := h3.sl.val
  have HA := Lib.hid (allocs_at [.cells #[.slice a1 n1 p1, .slice a2 n2 p2, .slice a3 n3 p3] 25, .cells #[.int .i64 qa, .int .i64 qb, .int .i64 qc, .int .i64 qd] 26] w)
  have FA : Hid (Fr [] w _) := Lib.hid (allocs_fr [.cells #[.slice a1 n1 p1, .slice a2 n2 p2, .slice a3 n3 p3] 25, .cells #[.int .i64 qa, .int .i64 qb, .int .i64 qc, .int .i64 qd] 26] w)
  have H1 := Lib.hid h1; have H2 := Lib.hid h2; have H3 := Lib.hid h3
  have CQ := Lib.hid fun W => ask_c qa qb qc qd W ha hb hc hd
  have QM := Lib.hid (askQ_m qa qb qc qd)
  have HQ : Hid (askQ qa qb qc qd = ⟨pickI qa 3, pickI qb 8, pickI qc 100, pickI qd 100⟩) := Lib.hid rfl
  rw [HQ.out] at QM
  generalize pickI qa 3 = x0 at *
  generalize pickI qb 8 = x1 at *
  generalize pickI qc 100 = x2 at *
  generalize pickI qd 100 = x3 at *
  clear h1 h2 h3 ha hb hc hd HQ
  go_enter Try.func5, Try.ntmps5
  go_wp2_with fail
  refine (sane8_c _).mono ?_
  rintro e w1 ⟨rfl, f1⟩
  have B0 : w1.heap[w.heap.size]? = _ := f1.keep (HA.out 0 (by simp)) (by simp)
  have B1 : w1.heap[w.heap.size + 1]? = _ := f1.keep (HA.out 1 (by simp)) (by simp)
  have F1 := Lib.hid (FA.out.trans f1)
  have HB0 := Lib.hid B0
  have HB1 := Lib.hid B1
  clear f1 HA FA
  have c0 := cell_of_blk B0 0; have c1 := cell_of_blk B0 1; have c2 := cell_of_blk B0 2
  have CM := Lib.hid (made_c _ _ _ n1 n2 n3 is1 is2 is3 w1 (H1.out.same F1.out) (H2.out.same F1.out) (H3.out.same F1.out))
  clear B0 B1
  go_wp2_with fail
  refine CM.out.mono ?_
  rintro e w2 ⟨f2, vc, vr, vf, ys, c, rfl, hm, ho⟩
  clear c0 c1 c2 CM
  obtain ⟨ac, pc, rfl⟩ := (sl_of_row ho.cls).val
  obtain ⟨ar, pr, rfl⟩ := (sl_of_row ho.rps).val
  obtain ⟨af, pf, rfl⟩ := (sl_of_row ho.fas).val
  have B2 := f2.keep HB1.out (by simp)
  have hb2 := blk_lt B2
  have c0 := cell_of_blk B2 0; have c1 := cell_of_blk B2 1; have c2 := cell_of_blk B2 2; have c3 := cell_of_blk B2 3
  have F2 := Lib.hid f2; have HM := Lib.hid hm; have HO := Lib.hid ho
  clear f2 hm ho B2
  go_wp2_with fail
  refine (CQ.out _).mono ?_
  rintro e w3 ⟨rfl, f3⟩
  clear c0 c1 c2 c3
  have L0 : Hid (LawSt w1 w2.heap.size w3.heap.size (.slice ac ys.length pc) (.slice ar c.rps.length pr) (.slice af c.fas.length pf) ys c ⟨x0, x1, x2, x3⟩ (w3.alloc (.cells #[.int .i64 x0, .int .i64 x1, .int .i64 x2, .int .i64 x3] 37))) := Lib.hid ⟨((F2.out.trans (Fr.alloc _ _ _)).trans f3).trans (Fr.alloc _ _ _), heap_alloc_old _ (f3.keep (heap_alloc_new _ _) (by simp)), heap_alloc_new _ _, (HO.out.same ((Fr.alloc _ _ _).trans f3)).same (Fr.alloc _ _ _), HM.out, ok_of HM.out QM.out⟩
  obtain ⟨a, ea⟩ : ∃ a, decideA c ⟨x0, x1, x2, x3⟩ = a := ⟨_, rfl⟩
  obtain ⟨l, el⟩ : ∃ l, decideL c ⟨x0, x1, x2, x3⟩ = l := ⟨_, rfl⟩
  have CD := Lib.hid (decide_ok L0.out.at_ L0.out.ok a l ea el)
  have EA := Lib.hid ea; have EL := Lib.hid el
  have hl := decide_len L0.out.ok
  rw [el] at hl
  have hs23 : w2.heap.size < w3.heap.size := by have := f3.size; simp at this; omega
  have d0 : w3.cell? ⟨w2.heap.size, 0, none⟩ = _ := cell_of_blk (f3.keep (heap_alloc_new _ _) (by simp)) 0
  have d1 : w3.cell? ⟨w2.heap.size, 1, none⟩ = _ := cell_of_blk (f3.keep (heap_alloc_new _ _) (by simp)) 1
  have d2 : w3.cell? ⟨w2.heap.size, 2, none⟩ = _ := cell_of_blk (f3.keep (heap_alloc_new _ _) (by simp)) 2
  clear ea el f3 hb2 HO F2
  unfold rbV qnV at CD
  simp only at CD
  go_wp2_with fail
  refine CD.out.mono ?_
  rintro e w4 ⟨f4, v, rfl, hr, hn⟩
  clear d0 d1 d2 CD
  have L4 := Lib.hid (L0.out.same f4)
  obtain ⟨va, vp, rfl⟩ := (sl_of_row hr).val
  have HR := Lib.hid hr
  clear L0 f4 hr hn hs23
  obtain ⟨hl0, hl20⟩ := hl
  have KK : Hid (checkB c ⟨x0, x1, x2, x3⟩ a l = true) := Lib.hid (by
    have := decide_checks L4.out.ok
    rwa [EA.out, EL.out] at this)
  have CU := Lib.hid (uses_c _ _ _ _ ys c ⟨x0, x1, x2, x3⟩ l w4 L4.out.at_ (sl_of_row HR.out))
  unfold rbV qnV at CU
  simp only at CU
  obtain ⟨⟨d0, d1, d2⟩, e0, e1, e2, e3⟩ := L4.out.cells
  go_wp2_with fail
  refine CU.out.mono ?_
  rintro e w5 ⟨f5, hu | hu⟩
  · have := hu.1
    unfold usesB at this
    have k := KK.out
    cases a <;> simp [k] at this
  obtain ⟨_, vF, vC, rfl, u5⟩ := hu
  clear d0 d1 d2 e0 e1 e2 e3 CU
  have HSU := Lib.hid (subs_use KK.out u5.s1 u5.s2)
  have U5 := Lib.hid u5
  clear u5
  generalize useF l = F at *
  generalize useC c (clausesOf c ⟨x0, x1, x2, x3⟩) l = C at *
  obtain ⟨aF, pF, rfl⟩ := (sl_of_row U5.out.r1).val
  obtain ⟨aC, pC, rfl⟩ := (sl_of_row U5.out.r2).val
  have LKB : Hid (checkB (lessOf c F C) ⟨x0, x1, x2, x3⟩ a (l.map (moveF F C)) = true) := Lib.hid (leans_check HSU.out.1 HSU.out.2.1 HSU.out.2.2 KK.out)
  have LOK : Hid (okB (lessOf c F C) ⟨x0, x1, x2, x3⟩ = true ∧ decideA (lessOf c F C) ⟨x0, x1, x2, x3⟩ = a) := Lib.hid ⟨by
    have := LKB.out
    simp only [checkB, Bool.and_eq_true] at this
    exact this.1, (check_one LKB.out).symm⟩
  have hF8 : F.length ≤ 8 := Nat.le_trans (asc_len HSU.out.1.fa HSU.out.1.f) L4.out.made.nf
  have hC8 : C.length ≤ 8 := Nat.le_trans (asc_len HSU.out.1.ca HSU.out.1.c) L4.out.made.nc
  have hcn := L4.out.made.nc; have hrn := L4.out.made.nr; have hfn := L4.out.made.nf
  have HYC : Hid (ys.length = c.cls.length) := Lib.hid (by rw [L4.out.own.eq, List.length_map])
  have L5 := Lib.hid (L4.out.same f5)
  have R5 := Lib.hid (row_fr HR.out f5 (by simp))
  have hb5 := blk_lt L5.out.cbox
  have hq5 := blk_lt L5.out.qbox
  have X0 := Lib.hid (BxS.start (Fr.alloc [] w5 (.cells #[.slice none 0 0, .slice none 0 0, .slice none 0 0] 34)) (Nat.le_refl _) (heap_alloc_new _ _))
  clear f5 L4 HR EL
  go_upto_block 0 with fail
  go_cut [] (fun W => ∃ vfx, Hid (BxS w5 w5.heap.size (.slice none 0 0) (.slice none 0 0) vfx [] ⟨[], [], F.map c.fa⟩ W))
  case first =>
    go_wp2_with fail
    go_loopw [14] (fun i wr => ∃ (k : Nat) (vfx : Value) (zs : List Fa), k ≤ F.length ∧ i = .int .i64 k ∧ zs.length = k ∧ Hid (zs = (F.take k).map c.fa) ∧ Hid (BxS w5 w5.heap.size (.slice none 0 0) (.slice none 0 0) vfx [] ⟨[], [], zs⟩ wr)) (fun i _ => F.length - (intOf i).toNat)
    case atStart => exact ⟨0, _, [], Nat.zero_le _, rfl, rfl, Lib.hid rfl, X0⟩
    case round =>
      obtain ⟨k, vfx, zs, hk, rfl, hzk, HZ, H⟩ := hrel
      obtain ⟨ao, po, rfl⟩ := (sl_of_row H.out.own.fas).val
      have HZK := Lib.hid hzk
      clear hzk
      by_cases hlt : k < F.length
      · obtain ⟨m, hm, hml, hfa⟩ := subs_f HSU.out.1 hlt
        have HXE := Lib.hid hfa
        have MM := Lib.hid hm
        obtain ⟨b1, o1, h, hc1⟩ := (sl_of_row (row_fr U5.out.r1 H.out.fr (by simp))).at_ (by omega)
        subst h
        have c1 := hc1 k (.int .i64 (m : Int)) (by simp [intC, hlt, hm])
        have LW := L5.out.same H.out.fr
        obtain ⟨b, off, cap, hv, hcl⟩ := faRow_cells (sl_of_row LW.own.fas) m hml
        cases hv
        have cb := cell_of_blk LW.cbox 2
        have cx := cell_of_blk H.out.box 2
        obtain ⟨⟨xt0, xs, xf, xt, xkf, xkt⟩, hx⟩ : ∃ y, c.fas[m] = y := ⟨_, rfl⟩
        rw [hx] at hcl
        have e0 := hcl 0 _ rfl
        have e1 := hcl 1 _ rfl
        have e2 := hcl 2 _ rfl
        have e3 := hcl 3 _ rfl
        have e4 := hcl 4 _ rfl
        have e5 := hcl 5 _ rfl
        simp only [Nat.add_zero] at e0 e1 e2 e3 e4 e5
        have hb1 : b1 < w5.heap.size := ownsRow_lt U5.out.r1 rfl
        have hb2 : b < w5.heap.size := ownsRow_lt L5.out.own.fas rfl
        have NB := H.out.beside.2.2
        have n1 := NB b1 (.inl hb1); have n2 := NB b (.inl hb2); have n3 := NB w2.heap.size (.inl hb5); have n4 := NB w5.heap.size (.inr rfl)
        have HZ2 : Hid (zs ++ [⟨xt0, xs, xf, xt, xkf, xkt⟩] = (F.take (k + 1)).map c.fa) := Lib.hid (by rw [map_snoc _ _ _ hlt, HXE.out, hx, HZ.out])
        have hml' : (m : Int) < (c.fas.length : Int) := by omega
        have hml2 : decide (c.fas.length ≤ m) = false := by simpa using hml
        have N1 := Lib.hid n1; have N2 := Lib.hid n2; have N3 := Lib.hid n3; have N4 := Lib.hid n4
        have hz8 : zs.length ≤ 8 := by have := HZK.out; omega
        clear hcl hfa hm NB LW n1 n2 n3 n4 hx
        rcases Nat.eq_zero_or_pos k with hk0 | hk0
        · subst hk0
          clear hc1
          simp only [Nat.add_zero] at c1
          go_wp2_with fail
          refine reg_mix (Fr [] wr) [0, 1, 2, 3, 4, 5, 6, 7, 8, 9, 10, 11, 12, 13, 14, 15, 16, 17, 18, 19, 20, 21, 22, 23, 24, 25, 26, 27, 28, 29, 30] (by kernel_rfl) (by kernel_rfl) (by kernel_rfl) rfl (Fr.drew _ _) ?_
          have FC : Fr [] wr wr.drew := Fr.drew _ _
          generalize wr.drew = WC at FC ⊢
          iterate 6 (refine mix_take1 (v := ?_) rfl rfl rfl rfl (fun w hS => ?_) ?_; rotate_left; (focus (have s0 := hS.cell c1 (by simp); have s1 := hS.cell cb (by simp); clear hS; go_simp; rfl)); simp only [List.setIfInBounds_toArray, List.set_cons_succ, List.set_cons_zero])
          iterate 8 (refine mix_takeg (v := ?_) rfl rfl rfl rfl rfl rfl (fun w hS => ?_) ?_; rotate_left; (focus (have s0 := hS.cell c1 (by simp); have s1 := hS.cell cb (by simp); clear hS; go_simp; rfl)); simp only [List.setIfInBounds_toArray, List.set_cons_succ, List.set_cons_zero])
          iterate 2 (refine mix_take1 (v := ?_) rfl rfl rfl rfl (fun w hS => ?_) ?_; rotate_left; (focus (have s0 := hS.cell c1 (by simp); have s1 := hS.cell cb (by simp); clear hS; go_simp; rfl)); simp only [List.setIfInBounds_toArray, List.set_cons_succ, List.set_cons_zero])
          iterate 3 (refine mix_takeg (v := ?_) rfl rfl rfl rfl rfl rfl (fun w hS => ?_) ?_; rotate_left; (focus (have s0 := hS.cell c1 (by simp); have s1 := hS.cell cb (by simp); clear hS; go_simp; rfl)); simp only [List.setIfInBounds_toArray, List.set_cons_succ, List.set_cons_zero])
          iterate 10 (refine mix_skipT rfl rfl rfl rfl rfl FC ?_; simp only [List.setIfInBounds_toArray, List.set_cons_succ, List.set_cons_zero])
          (refine mix_takeg (v := ?_) rfl rfl rfl rfl rfl rfl (fun w hS => ?_) ?_; rotate_left; (focus (have s0 := hS.cell c1 (by simp); have s1 := hS.cell cb (by simp); clear hS; go_simp; rfl)); simp only [List.setIfInBounds_toArray, List.set_cons_succ, List.set_cons_zero])
          (refine mix_take1 (v := ?_) rfl rfl rfl rfl (fun w hS => ?_) ?_; rotate_left; (focus (have s0 := hS.cell c1 (by simp); have s1 := hS.cell cb (by simp); clear hS; go_simp; rfl)); simp only [List.setIfInBounds_toArray, List.set_cons_succ, List.set_cons_zero])
          refine mix_end ?_
          go_wp2_with fail
          refine reg_fin (Fr (Value.slice ao zs.length po).ownBlock.toList wr) 13 [0, 1, 2, 3, 4, 5, 6, 7, 8, 9, 10, 11, 12, 13] (by kernel_rfl) (by kernel_rfl) (by kernel_rfl) rfl ?_
          have F0 : Fr [] wr WC.drew := FC.trans (Fr.drew _ _)
          have FD : Fr (Value.slice ao zs.length po).ownBlock.toList wr WC.drew := (FC.mono (by simp)).trans (Fr.drew _ _)
          generalize WC.drew = WD at F0 FD ⊢
          iterate 10 (refine fin_take (v := ?_) rfl rfl rfl rfl FD (fun w hS => ?_) ?_; rotate_left; (focus (have s0 := hS.cell c1 N1.out; have s1 := hS.cell cb N3.out; have s2 := hS.cell cx N4.out; have s3 := hS.cell e0 N2.out; have s4 := hS.cell e1 N2.out; have s5 := hS.cell e2 N2.out; have s6 := hS.cell e3 N2.out; have s7 := hS.cell e4 N2.out; have s8 := hS.cell e5 N2.out; clear hS; go_simp; rfl)); simp only [List.setIfInBounds_toArray, List.set_cons_succ, List.set_cons_zero])
          refine fin_do rfl rfl rfl (fun K hK => ?_)
          go_simp
          have FY := FD.trans (Fr.alloc (Value.slice ao zs.length po).ownBlock.toList WD (.cells #[.int .i64 xt0, .int .i64 xs, .int .i64 xf, .int .i64 xt, .int .i64 xkf, .int .i64 xkt] 57))
          have FY0 := F0.trans (Fr.alloc [] WD (.cells #[.int .i64 xt0, .int .i64 xs, .int .i64 xf, .int .i64 xt, .int .i64 xkf, .int .i64 xkt] 57))
          refine hK _ _ FY ?_
          clear hK K
          try simp only [Act.put, List.setIfInBounds_toArray, List.set_cons_succ, List.set_cons_zero]
          have HSr := srcAt_new WD #[.int .i64 xt0, .int .i64 xs, .int .i64 xf, .int .i64 xt, .int .i64 xkf, .int .i64 xkt] 57
          generalize WD.alloc (.cells #[.int .i64 xt0, .int .i64 xs, .int .i64 xf, .int .i64 xt, .int .i64 xkf, .int .i64 xkt] 57) = WY at *
          have X7 := H.out.same FY0
          refine fin_do (o := ⟨some 99, _, _, _, _, _⟩) rfl rfl rfl (fun K hK => ?_)
          refine wp_append_src (.tmp 89) (.tmp 98) 32 57 _ 6 48 rfl Try.underlying32 infoFa rfl (by decide) (.slice ao zs.length po) zs.length _ rfl X7.own.fas (.slice (some ⟨WD.heap.size, 0, none⟩) 1 1) 1 [.int .i64 xt0, .int .i64 xs, .int .i64 xf, .int .i64 xt, .int .i64 xkf, .int .i64 xkt] rfl HSr rfl (by simp [Value.oneCell']) (by omega) (by omega) ?_
          intro ga cap8 W8 r8 f8 b8
          have F8 := FY.trans f8
          refine hK _ _ F8 ?_
          clear hK K
          try simp only [Act.put, List.setIfInBounds_toArray, List.set_cons_succ, List.set_cons_zero]
          (refine fin_take (v := ?_) rfl rfl rfl rfl F8 (fun w hS => ?_) ?_; rotate_left; (focus (have s0 := hS.cell c1 N1.out; have s1 := hS.cell cb N3.out; have s2 := hS.cell cx N4.out; have s3 := hS.cell e0 N2.out; have s4 := hS.cell e1 N2.out; have s5 := hS.cell e2 N2.out; have s6 := hS.cell e3 N2.out; have s7 := hS.cell e4 N2.out; have s8 := hS.cell e5 N2.out; clear hS; go_simp; rfl)); simp only [List.setIfInBounds_toArray, List.set_cons_succ, List.set_cons_zero])
          have P8 := X7.putFa (rs := [⟨xt0, xs, xf, xt, xkf, xkt⟩]) r8 (by simp) (by simp [faC]) f8 (own_new b8)
          have K8 := f8.keep X7.box (X7.beside.2.2 _ (.inr rfl))
          have t1 : W8.cell? ⟨w5.heap.size, 2, none⟩ = some (.slice ao zs.length po) := cell_of_blk K8 2
          have t2 : W8.frozen? ⟨w5.heap.size, 2, none⟩ = false := free_of_blk K8 2
          refine fin_last (o := ⟨none, _, _, _, _, _⟩) rfl rfl rfl (fun K hK => ?_)
          go_simp
          try go_upon
          try go_simp
          refine hK _ _ ?_
          clear hK K
          have HP8 := Lib.hid P8
          clear P8 K8 t1 t2 r8 f8 b8 X7 HSr FY FY0 F8 FD F0 FC
          clear c1 cb cx e0 e1 e2 e3 e4 e5
          go_wp2_with fail
          go_roundw
          case rel => exact ⟨0 + 1, _, _, by omega, by go_num, by rw [List.length_append, HZK.out]; rfl, HZ2, HP8⟩
          case measure => simp [intOf]; omega
        · obtain ⟨k', rfl⟩ : ∃ k', k = k' + 1 := ⟨k - 1, by omega⟩
          obtain ⟨m', hm', hml3, _⟩ := subs_f HSU.out.1 (show k' < F.length by omega)
          have c2 := hc1 k' (.int .i64 (m' : Int)) (by simp [intC, show k' < F.length by omega, hm'])
          have hst := asc_step HSU.out.1.fa hlt
          have hmm : decide (m ≤ m') = false := by
            have := MM.out
            rw [hm', this] at hst
            simp; omega
          have hs1 : IntKind.i64.wrap ((k' : Int) + 1 - 1) = (k' : Int) := by rw [show (k' : Int) + 1 - 1 = (k' : Int) by omega]; exact IntWalk.i64_in _ (by omega)
          have hs2 : IntKind.i64.wrap ((k' : Int) + 1 + -1) = (k' : Int) := by rw [show (k' : Int) + 1 + -1 = (k' : Int) + 1 - 1 by omega]; exact hs1
          have hs3 : IntKind.i64.wrap (k' : Int) = (k' : Int) := IntWalk.i64_in _ (by omega)
          have hk1 : (0 : Int) < (k' : Int) + 1 := by omega
          have hk2 : decide ((0 : Int) < (k' : Int) + 1) = true := decide_eq_true hk1
          have hki : (k' : Int) < (F.length : Int) := by omega
          clear hc1 hst hm'
          go_wp2_with fail
          refine reg_mix (Fr [] wr) [0, 1, 2, 3, 4, 5, 6, 7, 8, 9, 10, 11, 12, 13, 14, 15, 16, 17, 18, 19, 20, 21, 22, 23, 24, 25, 26, 27, 28, 29, 30] (by kernel_rfl) (by kernel_rfl) (by kernel_rfl) rfl (Fr.drew _ _) ?_
          have FC : Fr [] wr wr.drew := Fr.drew _ _
          generalize wr.drew = WC at FC ⊢
          iterate 6 (refine mix_take1 (v := ?_) rfl rfl rfl rfl (fun w hS => ?_) ?_; rotate_left; (focus (have s0 := hS.cell c1 (by simp); have s1 := hS.cell cb (by simp); have s9 := hS.cell c2 (by simp); clear hS; go_simp; rfl)); simp only [List.setIfInBounds_toArray, List.set_cons_succ, List.set_cons_zero])
          iterate 8 (refine mix_takeg (v := ?_) rfl rfl rfl rfl rfl rfl (fun w hS => ?_) ?_; rotate_left; (focus (have s0 := hS.cell c1 (by simp); have s1 := hS.cell cb (by simp); have s9 := hS.cell c2 (by simp); clear hS; go_simp; rfl)); simp only [List.setIfInBounds_toArray, List.set_cons_succ, List.set_cons_zero])
          iterate 2 (refine mix_take1 (v := ?_) rfl rfl rfl rfl (fun w hS => ?_) ?_; rotate_left; (focus (have s0 := hS.cell c1 (by simp); have s1 := hS.cell cb (by simp); have s9 := hS.cell c2 (by simp); clear hS; go_simp; rfl)); simp only [List.setIfInBounds_toArray, List.set_cons_succ, List.set_cons_zero])
          iterate 14 (refine mix_takeg (v := ?_) rfl rfl rfl rfl rfl rfl (fun w hS => ?_) ?_; rotate_left; (focus (have s0 := hS.cell c1 (by simp); have s1 := hS.cell cb (by simp); have s9 := hS.cell c2 (by simp); clear hS; go_simp; rfl)); simp only [List.setIfInBounds_toArray, List.set_cons_succ, List.set_cons_zero])
          (refine mix_take1 (v := ?_) rfl rfl rfl rfl (fun w hS => ?_) ?_; rotate_left; (focus (have s0 := hS.cell c1 (by simp); have s1 := hS.cell cb (by simp); have s9 := hS.cell c2 (by simp); clear hS; go_simp; rfl)); simp only [List.setIfInBounds_toArray, List.set_cons_succ, List.set_cons_zero])
          refine mix_end ?_
          clear hmm hs1 hs2 hs3 hk1 hk2 hki c2
          go_wp2_with fail
          refine reg_fin (Fr (Value.slice ao zs.length po).ownBlock.toList wr) 13 [0, 1, 2, 3, 4, 5, 6, 7, 8, 9, 10, 11, 12, 13] (by kernel_rfl) (by kernel_rfl) (by kernel_rfl) rfl ?_
          have F0 : Fr [] wr WC.drew := FC.trans (Fr.drew _ _)
          have FD : Fr (Value.slice ao zs.length po).ownBlock.toList wr WC.drew := (FC.mono (by simp)).trans (Fr.drew _ _)
          generalize WC.drew = WD at F0 FD ⊢
          iterate 10 (refine fin_take (v := ?_) rfl rfl rfl rfl FD (fun w hS => ?_) ?_; rotate_left; (focus (have s0 := hS.cell c1 N1.out; have s1 := hS.cell cb N3.out; have s2 := hS.cell cx N4.out; have s3 := hS.cell e0 N2.out; have s4 := hS.cell e1 N2.out; have s5 := hS.cell e2 N2.out; have s6 := hS.cell e3 N2.out; have s7 := hS.cell e4 N2.out; have s8 := hS.cell e5 N2.out; clear hS; go_simp; rfl)); simp only [List.setIfInBounds_toArray, List.set_cons_succ, List.set_cons_zero])
          refine fin_do rfl rfl rfl (fun K hK => ?_)
          go_simp
          have FY := FD.trans (Fr.alloc (Value.slice ao zs.length po).ownBlock.toList WD (.cells #[.int .i64 xt0, .int .i64 xs, .int .i64 xf, .int .i64 xt, .int .i64 xkf, .int .i64 xkt] 57))
          have FY0 := F0.trans (Fr.alloc [] WD (.cells #[.int .i64 xt0, .int .i64 xs, .int .i64 xf, .int .i64 xt, .int .i64 xkf, .int .i64 xkt] 57))
          refine hK _ _ FY ?_
          clear hK K
          try simp only [Act.put, List.setIfInBounds_toArray, List.set_cons_succ, List.set_cons_zero]
          have HSr := srcAt_new WD #[.int .i64 xt0, .int .i64 xs, .int .i64 xf, .int .i64 xt, .int .i64 xkf, .int .i64 xkt] 57
          generalize WD.alloc (.cells #[.int .i64 xt0, .int .i64 xs, .int .i64 xf, .int .i64 xt, .int .i64 xkf, .int .i64 xkt] 57) = WY at *
          have X7 := H.out.same FY0
          refine fin_do (o := ⟨some 99, _, _, _, _, _⟩) rfl rfl rfl (fun K hK => ?_)
          refine wp_append_src (.tmp 89) (.tmp 98) 32 57 _ 6 48 rfl Try.underlying32 infoFa rfl (by decide) (.slice ao zs.length po) zs.length _ rfl X7.own.fas (.slice (some ⟨WD.heap.size, 0, none⟩) 1 1) 1 [.int .i64 xt0, .int .i64 xs, .int .i64 xf, .int .i64 xt, .int .i64 xkf, .int .i64 xkt] rfl HSr rfl (by simp [Value.oneCell']) (by omega) (by omega) ?_
          intro ga cap8 W8 r8 f8 b8
          have F8 := FY.trans f8
          refine hK _ _ F8 ?_
          clear hK K
          try simp only [Act.put, List.setIfInBounds_toArray, List.set_cons_succ, List.set_cons_zero]
          (refine fin_take (v := ?_) rfl rfl rfl rfl F8 (fun w hS => ?_) ?_; rotate_left; (focus (have s0 := hS.cell c1 N1.out; have s1 := hS.cell cb N3.out; have s2 := hS.cell cx N4.out; have s3 := hS.cell e0 N2.out; have s4 := hS.cell e1 N2.out; have s5 := hS.cell e2 N2.out; have s6 := hS.cell e3 N2.out; have s7 := hS.cell e4 N2.out; have s8 := hS.cell e5 N2.out; clear hS; go_simp; rfl)); simp only [List.setIfInBounds_toArray, List.set_cons_succ, List.set_cons_zero])
          have P8 := X7.putFa (rs := [⟨xt0, xs, xf, xt, xkf, xkt⟩]) r8 (by simp) (by simp [faC]) f8 (own_new b8)
          have K8 := f8.keep X7.box (X7.beside.2.2 _ (.inr rfl))
          have t1 : W8.cell? ⟨w5.heap.size, 2, none⟩ = some (.slice ao zs.length po) := cell_of_blk K8 2
          have t2 : W8.frozen? ⟨w5.heap.size, 2, none⟩ = false := free_of_blk K8 2
          refine fin_last (o := ⟨none, _, _, _, _, _⟩) rfl rfl rfl (fun K hK => ?_)
          go_simp
          try go_upon
          try go_simp
          refine hK _ _ ?_
          clear hK K
          have HP8 := Lib.hid P8
          clear P8 K8 t1 t2 r8 f8 b8 X7 HSr FY FY0 F8 FD F0 FC
          clear c1 cb cx e0 e1 e2 e3 e4 e5
          go_wp2_with fail
          go_roundw
          case rel => exact ⟨(k' + 1) + 1, _, _, by omega, by go_num, by rw [List.length_append, HZK.out]; rfl, HZ2, HP8⟩
          case measure => simp [intOf]; omega
      · obtain rfl : k = F.length := by omega
        go_wp2_with fail
        go_meet
        case rel => exact ⟨_, by rw [HZ.out, List.take_length] at H; exact H⟩
  case rest =>
    obtain ⟨vfx, H1⟩ := hcut
    obtain ⟨afx, pfx, rfl⟩ := (sl_of_row H1.out.own.fas).val
    obtain ⟨fx, hfx⟩ : ∃ fx, F.map c.fa = fx := ⟨_, rfl⟩
    simp only [hfx] at H1 ⊢
    have HFX := Lib.hid hfx
    clear hfx
    go_upto_block 2 with fail
    go_cut [] (fun W => ∃ vcx zs, Hid (zs.map (·.x) = C.map c.cl) ∧ Hid (BxS w5 w5.heap.size vcx (.slice none 0 0) (.slice afx fx.length pfx) zs ⟨zs.map (·.x), [], fx⟩ W))
    case first =>
      go_wp2_with fail
      go_loopw [15] (fun i wr => ∃ (k : Nat) (vcx : Value) (zs : List ClV), k ≤ C.length ∧ i = .int .i64 k ∧ zs.length = k ∧ Hid (zs.map (·.x) = (C.take k).map c.cl) ∧ Hid (BxS w5 w5.heap.size vcx (.slice none 0 0) (.slice afx fx.length pfx) zs ⟨zs.map (·.x), [], fx⟩ wr)) (fun i _ => C.length - (intOf i).toNat)
      case atStart => exact ⟨0, _, [], Nat.zero_le _, rfl, rfl, Lib.hid rfl, H1⟩
      case round =>
        obtain ⟨k, vcx, zs, hk, rfl, hzk, HZ, H⟩ := hrel
        obtain ⟨ao, po, rfl⟩ := (sl_of_row H.out.own.cls).val
        have HZK := Lib.hid hzk
        clear hzk
        by_cases hlt : k < C.length
        · obtain ⟨m, hm, hml, hcl0⟩ := subs_c HSU.out.1 hlt
          have HXE := Lib.hid hcl0
          have MM := Lib.hid hm
          obtain ⟨b1, o1, h, hc1⟩ := (sl_of_row (row_fr U5.out.r2 H.out.fr (by simp))).at_ (by omega)
          subst h
          have c1 := hc1 k (.int .i64 (m : Int)) (by simp [intC, hlt, hm])
          have LW := L5.out.same H.out.fr
          have hmly : m < ys.length := by rw [HYC.out]; exact hml
          obtain ⟨b, off, cap, hv, hcl⟩ := clRow_cells (sl_of_row LW.own.cls) m hmly
          cases hv
          have cb := cell_of_blk LW.cbox 0
          have cx := cell_of_blk H.out.box 0
          obtain ⟨⟨⟨xp, xf, xt, xn, xb, xg⟩, vn, vb⟩, hx⟩ : ∃ y, ys[m] = y := ⟨_, rfl⟩
          rw [hx] at hcl
          have e0 := hcl 0 _ rfl
          have e1 := hcl 1 _ rfl
          have e2 := hcl 2 _ rfl
          have e3 := hcl 3 _ rfl
          have e4 := hcl 4 _ rfl
          have e5 := hcl 5 _ rfl
          simp only [Nat.add_zero] at e0 e1 e2 e3 e4 e5
          have hN := LW.own.needs _ (List.getElem_mem hmly)
          have hB := LW.own.bars _ (List.getElem_mem hmly)
          rw [hx] at hN hB
          obtain ⟨an, pn', hvn⟩ := hN.sl.val
          obtain ⟨ab, pb', hvb⟩ := hB.sl.val
          simp only at hvn hvb
          subst hvn hvb
          have hb1 : b1 < w5.heap.size := ownsRow_lt U5.out.r2 rfl
          have hb2 : b < w5.heap.size := ownsRow_lt L5.out.own.cls rfl
          have NB := H.out.beside.1
          have n1 := NB b1 (.inl hb1); have n2 := NB b (.inl hb2); have n3 := NB w2.heap.size (.inl hb5); have n4 := NB w5.heap.size (.inr rfl)
          have HZ2 : Hid ((zs ++ [(⟨⟨xp, xf, xt, xn, xb, xg⟩, .slice an xn.length pn', .slice ab xb.length pb'⟩ : ClV)]).map (·.x) = (C.take (k + 1)).map c.cl) := Lib.hid (by
            rw [map_snoc _ _ _ hlt, HXE.out, List.map_append, HZ.out]
            have e : c.cls[m] = ys[m].x := by simp [L5.out.own.eq]
            rw [e, hx]; rfl)
          have hml2 : decide (ys.length ≤ m) = false := by simpa using hmly
          have N1 := Lib.hid n1; have N2 := Lib.hid n2; have N3 := Lib.hid n3; have N4 := Lib.hid n4
          have hz8 : zs.length ≤ 8 := by have := HZK.out; omega
          have HX := Lib.hid hx
          clear hcl hcl0 hm NB LW n1 n2 n3 n4 hx hN hB
          rcases Nat.eq_zero_or_pos k with hk0 | hk0
          · subst hk0
            clear hc1
            simp only [Nat.add_zero] at c1
            go_wp2_with fail
            refine reg_mix (Fr [] wr) [0, 1, 2, 3, 4, 5, 6, 7, 8, 9, 10, 11, 12, 13, 14, 15, 16, 17, 18, 19, 20, 21, 22, 23, 24, 25, 26, 27, 28, 29, 30] (by kernel_rfl) (by kernel_rfl) (by kernel_rfl) rfl (Fr.drew _ _) ?_
            have FC : Fr [] wr wr.drew := Fr.drew _ _
            generalize wr.drew = WC at FC ⊢
            iterate 6 (refine mix_take1 (v := ?_) rfl rfl rfl rfl (fun w hS => ?_) ?_; rotate_left; (focus (have s0 := hS.cell c1 (by simp); have s1 := hS.cell cb (by simp); clear hS; go_simp; rfl)); simp only [List.setIfInBounds_toArray, List.set_cons_succ, List.set_cons_zero])
            iterate 8 (refine mix_takeg (v := ?_) rfl rfl rfl rfl rfl rfl (fun w hS => ?_) ?_; rotate_left; (focus (have s0 := hS.cell c1 (by simp); have s1 := hS.cell cb (by simp); clear hS; go_simp; rfl)); simp only [List.setIfInBounds_toArray, List.set_cons_succ, List.set_cons_zero])
            iterate 2 (refine mix_take1 (v := ?_) rfl rfl rfl rfl (fun w hS => ?_) ?_; rotate_left; (focus (have s0 := hS.cell c1 (by simp); have s1 := hS.cell cb (by simp); clear hS; go_simp; rfl)); simp only [List.setIfInBounds_toArray, List.set_cons_succ, List.set_cons_zero])
            iterate 3 (refine mix_takeg (v := ?_) rfl rfl rfl rfl rfl rfl (fun w hS => ?_) ?_; rotate_left; (focus (have s0 := hS.cell c1 (by simp); have s1 := hS.cell cb (by simp); clear hS; go_simp; rfl)); simp only [List.setIfInBounds_toArray, List.set_cons_succ, List.set_cons_zero])
            iterate 10 (refine mix_skipT rfl rfl rfl rfl rfl FC ?_; simp only [List.setIfInBounds_toArray, List.set_cons_succ, List.set_cons_zero])
            (refine mix_takeg (v := ?_) rfl rfl rfl rfl rfl rfl (fun w hS => ?_) ?_; rotate_left; (focus (have s0 := hS.cell c1 (by simp); have s1 := hS.cell cb (by simp); clear hS; go_simp; rfl)); simp only [List.setIfInBounds_toArray, List.set_cons_succ, List.set_cons_zero])
            (refine mix_take1 (v := ?_) rfl rfl rfl rfl (fun w hS => ?_) ?_; rotate_left; (focus (have s0 := hS.cell c1 (by simp); have s1 := hS.cell cb (by simp); clear hS; go_simp; rfl)); simp only [List.setIfInBounds_toArray, List.set_cons_succ, List.set_cons_zero])
            refine mix_end ?_
            go_wp2_with fail
            refine reg_fin (Fr (Value.slice ao zs.length po).ownBlock.toList wr) 13 [0, 1, 2, 3, 4, 5, 6, 7, 8, 9, 10, 11, 12, 13] (by kernel_rfl) (by kernel_rfl) (by kernel_rfl) rfl ?_
            have F0 : Fr [] wr WC.drew := FC.trans (Fr.drew _ _)
            have FD : Fr (Value.slice ao zs.length po).ownBlock.toList wr WC.drew := (FC.mono (by simp)).trans (Fr.drew _ _)
            generalize WC.drew = WD at F0 FD ⊢
            iterate 10 (refine fin_take (v := ?_) rfl rfl rfl rfl FD (fun w hS => ?_) ?_; rotate_left; (focus (have s0 := hS.cell c1 N1.out; have s1 := hS.cell cb N3.out; have s2 := hS.cell cx N4.out; have s3 := hS.cell e0 N2.out; have s4 := hS.cell e1 N2.out; have s5 := hS.cell e2 N2.out; have s6 := hS.cell e3 N2.out; have s7 := hS.cell e4 N2.out; have s8 := hS.cell e5 N2.out; clear hS; go_simp; rfl)); simp only [List.setIfInBounds_toArray, List.set_cons_succ, List.set_cons_zero])
            refine fin_do rfl rfl rfl (fun K hK => ?_)
            go_simp
            have FY := FD.trans (Fr.alloc (Value.slice ao zs.length po).ownBlock.toList WD (.cells #[.int .i64 xp, .int .i64 xf, .int .i64 xt, .slice an xn.length pn', .slice ab xb.length pb', .int .i64 xg] 51))
            have FY0 := F0.trans (Fr.alloc [] WD (.cells #[.int .i64 xp, .int .i64 xf, .int .i64 xt, .slice an xn.length pn', .slice ab xb.length pb', .int .i64 xg] 51))
            refine hK _ _ FY ?_
            clear hK K
            try simp only [Act.put, List.setIfInBounds_toArray, List.set_cons_succ, List.set_cons_zero]
            have HSr := srcAt_new WD #[.int .i64 xp, .int .i64 xf, .int .i64 xt, .slice an xn.length pn', .slice ab xb.length pb', .int .i64 xg] 51
            generalize WD.alloc (.cells #[.int .i64 xp, .int .i64 xf, .int .i64 xt, .slice an xn.length pn', .slice ab xb.length pb', .int .i64 xg] 51) = WY at *
            have X7 := H.out.same FY0
            refine fin_do (o := ⟨some 149, _, _, _, _, _⟩) rfl rfl rfl (fun K hK => ?_)
            refine wp_append_src (.tmp 139) (.tmp 148) 30 51 _ 6 80 rfl Try.underlying30 infoCl rfl (by decide) (.slice ao zs.length po) zs.length _ rfl X7.own.cls (.slice (some ⟨WD.heap.size, 0, none⟩) 1 1) 1 [.int .i64 xp, .int .i64 xf, .int .i64 xt, .slice an xn.length pn', .slice ab xb.length pb', .int .i64 xg] rfl HSr rfl (by simp [Value.oneCell']) (by omega) (by omega) ?_
            intro ga cap8 W8 r8 f8 b8
            have F8 := FY.trans f8
            refine hK _ _ F8 ?_
            clear hK K
            try simp only [Act.put, List.setIfInBounds_toArray, List.set_cons_succ, List.set_cons_zero]
            (refine fin_take (v := ?_) rfl rfl rfl rfl F8 (fun w hS => ?_) ?_; rotate_left; (focus (have s0 := hS.cell c1 N1.out; have s1 := hS.cell cb N3.out; have s2 := hS.cell cx N4.out; have s3 := hS.cell e0 N2.out; have s4 := hS.cell e1 N2.out; have s5 := hS.cell e2 N2.out; have s6 := hS.cell e3 N2.out; have s7 := hS.cell e4 N2.out; have s8 := hS.cell e5 N2.out; clear hS; go_simp; rfl)); simp only [List.setIfInBounds_toArray, List.set_cons_succ, List.set_cons_zero])
            have P8 := X7.putCl (y := ⟨⟨xp, xf, xt, xn, xb, xg⟩, .slice an xn.length pn', .slice ab xb.length pb'⟩) (by have := ((L5.out.same H.out.fr).same FY0).own.needs _ (List.getElem_mem hmly); rw [HX.out] at this; exact this) (by have := ((L5.out.same H.out.fr).same FY0).own.bars _ (List.getElem_mem hmly); rw [HX.out] at this; exact this) (fun g hg => by
                have hge : g < w5.heap.size := (L5.out.own.term _ (List.getElem_mem hmly) g (by rw [HX.out]; exact hg)).2.1
                have hrw := X7.rows; have hsz := X7.fr.size
                exact ⟨by omega, by omega, fun e => by have := hrw g (.inl e); omega, fun e => by have := hrw g (.inr (.inl e)); omega, fun e => by have := hrw g (.inr (.inr e)); omega⟩) r8 rfl rfl f8 b8
            have K8 := f8.keep X7.box (X7.beside.1 _ (.inr rfl))
            have t1 : W8.cell? ⟨w5.heap.size, 0, none⟩ = some (.slice ao zs.length po) := cell_of_blk K8 0
            have t2 : W8.frozen? ⟨w5.heap.size, 0, none⟩ = false := free_of_blk K8 0
            refine fin_last (o := ⟨none, _, _, _, _, _⟩) rfl rfl rfl (fun K hK => ?_)
            go_simp
            try go_upon
            try go_simp
            refine hK _ _ ?_
            clear hK K
            have HP8 := Lib.hid P8
            clear P8 K8 t1 t2 r8 f8 b8 X7 HSr FY FY0 F8 FD F0 FC
            clear c1 cb cx e0 e1 e2 e3 e4 e5
            go_wp2_with fail
            go_roundw
            case rel => exact ⟨0 + 1, _, _, by omega, by go_num, by rw [List.length_append, HZK.out]; rfl, HZ2, by rw [List.map_append]; exact HP8⟩
            case measure => simp [intOf]; omega
          · obtain ⟨k', rfl⟩ : ∃ k', k = k' + 1 := ⟨k - 1, by omega⟩
            obtain ⟨m', hm', hml3, _⟩ := subs_c HSU.out.1 (show k' < C.length by omega)
            have c2 := hc1 k' (.int .i64 (m' : Int)) (by simp [intC, show k' < C.length by omega, hm'])
            have hst := asc_step HSU.out.1.ca hlt
            have hmm : decide (m ≤ m') = false := by
              have := MM.out
              rw [hm', this] at hst
              simp; omega
            have hs1 : IntKind.i64.wrap ((k' : Int) + 1 - 1) = (k' : Int) := by rw [show (k' : Int) + 1 - 1 = (k' : Int) by omega]; exact IntWalk.i64_in _ (by omega)
            have hs2 : IntKind.i64.wrap ((k' : Int) + 1 + -1) = (k' : Int) := by rw [show (k' : Int) + 1 + -1 = (k' : Int) + 1 - 1 by omega]; exact hs1
            have hs3 : IntKind.i64.wrap (k' : Int) = (k' : Int) := IntWalk.i64_in _ (by omega)
            have hk1 : (0 : Int) < (k' : Int) + 1 := by omega
            have hk2 : decide ((0 : Int) < (k' : Int) + 1) = true := decide_eq_true hk1
            have hki : (k' : Int) < (C.length : Int) := by omega
            clear hc1 hst hm'
            go_wp2_with fail
            refine reg_mix (Fr [] wr) [0, 1, 2, 3, 4, 5, 6, 7, 8, 9, 10, 11, 12, 13, 14, 15, 16, 17, 18, 19, 20, 21, 22, 23, 24, 25, 26, 27, 28, 29, 30] (by kernel_rfl) (by kernel_rfl) (by kernel_rfl) rfl (Fr.drew _ _) ?_
            have FC : Fr [] wr wr.drew := Fr.drew _ _
            generalize wr.drew = WC at FC ⊢
            iterate 6 (refine mix_take1 (v := ?_) rfl rfl rfl rfl (fun w hS => ?_) ?_; rotate_left; (focus (have s0 := hS.cell c1 (by simp); have s1 := hS.cell cb (by simp); have s9 := hS.cell c2 (by simp); clear hS; go_simp; rfl)); simp only [List.setIfInBounds_toArray, List.set_cons_succ, List.set_cons_zero])
            iterate 8 (refine mix_takeg (v := ?_) rfl rfl rfl rfl rfl rfl (fun w hS => ?_) ?_; rotate_left; (focus (have s0 := hS.cell c1 (by simp); have s1 := hS.cell cb (by simp); have s9 := hS.cell c2 (by simp); clear hS; go_simp; rfl)); simp only [List.setIfInBounds_toArray, List.set_cons_succ, List.set_cons_zero])
            iterate 2 (refine mix_take1 (v := ?_) rfl rfl rfl rfl (fun w hS => ?_) ?_; rotate_left; (focus (have s0 := hS.cell c1 (by simp); have s1 := hS.cell cb (by simp); have s9 := hS.cell c2 (by simp); clear hS; go_simp; rfl)); simp only [List.setIfInBounds_toArray, List.set_cons_succ, List.set_cons_zero])
            iterate 14 (refine mix_takeg (v := ?_) rfl rfl rfl rfl rfl rfl (fun w hS => ?_) ?_; rotate_left; (focus (have s0 := hS.cell c1 (by simp); have s1 := hS.cell cb (by simp); have s9 := hS.cell c2 (by simp); clear hS; go_simp; rfl)); simp only [List.setIfInBounds_toArray, List.set_cons_succ, List.set_cons_zero])
            (refine mix_take1 (v := ?_) rfl rfl rfl rfl (fun w hS => ?_) ?_; rotate_left; (focus (have s0 := hS.cell c1 (by simp); have s1 := hS.cell cb (by simp); have s9 := hS.cell c2 (by simp); clear hS; go_simp; rfl)); simp only [List.setIfInBounds_toArray, List.set_cons_succ, List.set_cons_zero])
            refine mix_end ?_
            clear hmm hs1 hs2 hs3 hk1 hk2 hki c2
            go_wp2_with fail
            refine reg_fin (Fr (Value.slice ao zs.length po).ownBlock.toList wr) 13 [0, 1, 2, 3, 4, 5, 6, 7, 8, 9, 10, 11, 12, 13] (by kernel_rfl) (by kernel_rfl) (by kernel_rfl) rfl ?_
            have F0 : Fr [] wr WC.drew := FC.trans (Fr.drew _ _)
            have FD : Fr (Value.slice ao zs.length po).ownBlock.toList wr WC.drew := (FC.mono (by simp)).trans (Fr.drew _ _)
            generalize WC.drew = WD at F0 FD ⊢
            iterate 10 (refine fin_take (v := ?_) rfl rfl rfl rfl FD (fun w hS => ?_) ?_; rotate_left; (focus (have s0 := hS.cell c1 N1.out; have s1 := hS.cell cb N3.out; have s2 := hS.cell cx N4.out; have s3 := hS.cell e0 N2.out; have s4 := hS.cell e1 N2.out; have s5 := hS.cell e2 N2.out; have s6 := hS.cell e3 N2.out; have s7 := hS.cell e4 N2.out; have s8 := hS.cell e5 N2.out; clear hS; go_simp; rfl)); simp only [List.setIfInBounds_toArray, List.set_cons_succ, List.set_cons_zero])
            refine fin_do rfl rfl rfl (fun K hK => ?_)
            go_simp
            have FY := FD.trans (Fr.alloc (Value.slice ao zs.length po).ownBlock.toList WD (.cells #[.int .i64 xp, .int .i64 xf, .int .i64 xt, .slice an xn.length pn', .slice ab xb.length pb', .int .i64 xg] 51))
            have FY0 := F0.trans (Fr.alloc [] WD (.cells #[.int .i64 xp, .int .i64 xf, .int .i64 xt, .slice an xn.length pn', .slice ab xb.length pb', .int .i64 xg] 51))
            refine hK _ _ FY ?_
            clear hK K
            try simp only [Act.put, List.setIfInBounds_toArray, List.set_cons_succ, List.set_cons_zero]
            have HSr := srcAt_new WD #[.int .i64 xp, .int .i64 xf, .int .i64 xt, .slice an xn.length pn', .slice ab xb.length pb', .int .i64 xg] 51
            generalize WD.alloc (.cells #[.int .i64 xp, .int .i64 xf, .int .i64 xt, .slice an xn.length pn', .slice ab xb.length pb', .int .i64 xg] 51) = WY at *
            have X7 := H.out.same FY0
            refine fin_do (o := ⟨some 149, _, _, _, _, _⟩) rfl rfl rfl (fun K hK => ?_)
            refine wp_append_src (.tmp 139) (.tmp 148) 30 51 _ 6 80 rfl Try.underlying30 infoCl rfl (by decide) (.slice ao zs.length po) zs.length _ rfl X7.own.cls (.slice (some ⟨WD.heap.size, 0, none⟩) 1 1) 1 [.int .i64 xp, .int .i64 xf, .int .i64 xt, .slice an xn.length pn', .slice ab xb.length pb', .int .i64 xg] rfl HSr rfl (by simp [Value.oneCell']) (by omega) (by omega) ?_
            intro ga cap8 W8 r8 f8 b8
            have F8 := FY.trans f8
            refine hK _ _ F8 ?_
            clear hK K
            try simp only [Act.put, List.setIfInBounds_toArray, List.set_cons_succ, List.set_cons_zero]
            (refine fin_take (v := ?_) rfl rfl rfl rfl F8 (fun w hS => ?_) ?_; rotate_left; (focus (have s0 := hS.cell c1 N1.out; have s1 := hS.cell cb N3.out; have s2 := hS.cell cx N4.out; have s3 := hS.cell e0 N2.out; have s4 := hS.cell e1 N2.out; have s5 := hS.cell e2 N2.out; have s6 := hS.cell e3 N2.out; have s7 := hS.cell e4 N2.out; have s8 := hS.cell e5 N2.out; clear hS; go_simp; rfl)); simp only [List.setIfInBounds_toArray, List.set_cons_succ, List.set_cons_zero])
            have P8 := X7.putCl (y := ⟨⟨xp, xf, xt, xn, xb, xg⟩, .slice an xn.length pn', .slice ab xb.length pb'⟩) (by have := ((L5.out.same H.out.fr).same FY0).own.needs _ (List.getElem_mem hmly); rw [HX.out] at this; exact this) (by have := ((L5.out.same H.out.fr).same FY0).own.bars _ (List.getElem_mem hmly); rw [HX.out] at this; exact this) (fun g hg => by
                have hge : g < w5.heap.size := (L5.out.own.term _ (List.getElem_mem hmly) g (by rw [HX.out]; exact hg)).2.1
                have hrw := X7.rows; have hsz := X7.fr.size
                exact ⟨by omega, by omega, fun e => by have := hrw g (.inl e); omega, fun e => by have := hrw g (.inr (.inl e)); omega, fun e => by have := hrw g (.inr (.inr e)); omega⟩) r8 rfl rfl f8 b8
            have K8 := f8.keep X7.box (X7.beside.1 _ (.inr rfl))
            have t1 : W8.cell? ⟨w5.heap.size, 0, none⟩ = some (.slice ao zs.length po) := cell_of_blk K8 0
            have t2 : W8.frozen? ⟨w5.heap.size, 0, none⟩ = false := free_of_blk K8 0
            refine fin_last (o := ⟨none, _, _, _, _, _⟩) rfl rfl rfl (fun K hK => ?_)
            go_simp
            try go_upon
            try go_simp
            refine hK _ _ ?_
            clear hK K
            have HP8 := Lib.hid P8
            clear P8 K8 t1 t2 r8 f8 b8 X7 HSr FY FY0 F8 FD F0 FC
            clear c1 cb cx e0 e1 e2 e3 e4 e5
            go_wp2_with fail
            go_roundw
            case rel => exact ⟨(k' + 1) + 1, _, _, by omega, by go_num, by rw [List.length_append, HZK.out]; rfl, HZ2, by rw [List.map_append]; exact HP8⟩
            case measure => simp [intOf]; omega
        · obtain rfl : k = C.length := by omega
          go_wp2_with fail
          go_meet
          case rel => exact ⟨_, zs, Lib.hid (by rw [HZ.out, List.take_length]), H⟩
    case rest =>
      obtain ⟨vcx, zs, HZC, H2⟩ := hcut
      obtain ⟨acx, pcx, rfl⟩ := (sl_of_row H2.out.own.cls).val
      go_upto_block 4 with fail
      go_cut [] (fun W => ∃ vrx, Hid (BxS w5 w5.heap.size (.slice acx zs.length pcx) vrx (.slice afx fx.length pfx) zs ⟨zs.map (·.x), lessR C c.rps, fx⟩ W))
      case first =>
        go_wp2_with fail
        go_loopw [16] (fun i wr => ∃ (k : Nat) (vrx : Value) (rs : List Rp), k ≤ c.rps.length ∧ i = .int .i64 k ∧ rs.length ≤ k ∧ Hid (rs = lessR C (c.rps.take k)) ∧ Hid (BxS w5 w5.heap.size (.slice acx zs.length pcx) vrx (.slice afx fx.length pfx) zs ⟨zs.map (·.x), rs, fx⟩ wr)) (fun i _ => c.rps.length - (intOf i).toNat)
        case atStart => exact ⟨0, _, [], Nat.zero_le _, rfl, Nat.le_refl _, Lib.hid rfl, H2⟩
        case round =>
          obtain ⟨k, vrx, rs, hk, rfl, hrk, HZ, H⟩ := hrel
          obtain ⟨ao, po, rfl⟩ := (sl_of_row H.out.own.rps).val
          have LW := L5.out.same H.out.fr
          have cb := cell_of_blk LW.cbox 1
          by_cases hlt : k < c.rps.length
          · obtain ⟨b, off, cap, hv, hcl⟩ := rpRow_cells (sl_of_row LW.own.rps) k hlt
            cases hv
            have HSN := Lib.hid (lessR_snoc C c.rps k hlt)
            obtain ⟨⟨rc, rp, rf⟩, hx⟩ : ∃ y, c.rps[k] = y := ⟨_, rfl⟩
            rw [hx] at hcl HSN
            have e0 := hcl 0 _ rfl
            have e1 := hcl 1 _ rfl
            have e2 := hcl 2 _ rfl
            simp only [Nat.add_zero] at e0 e1 e2
            have CI := index8_c (.slice aC C.length pC) C rc wr (sl_of_row (row_fr U5.out.r2 H.out.fr (by simp)))
            rw [idxI_P] at CI
            have hb2 : b < w5.heap.size := ownsRow_lt L5.out.own.rps rfl
            have cx := cell_of_blk H.out.box 1
            have NB := H.out.beside.2.1
            have n2 := NB b (.inl hb2); have n3 := NB w2.heap.size (.inl hb5); have n4 := NB w5.heap.size (.inr rfl)
            have N2 := Lib.hid n2; have N3 := Lib.hid n3; have N4 := Lib.hid n4
            clear LW hcl hx NB n2 n3 n4
            by_cases hmem : rc ∈ C
            · obtain ⟨i, hi, hil, hie⟩ := idxP_mem hmem
              have HS2 : Hid (rs ++ [⟨(i : Int), rp, rf⟩] = lessR C (c.rps.take (k + 1))) := Lib.hid (by rw [HSN.out, if_pos hmem, hi, HZ.out])
              rw [hi] at CI
              have HCI := Lib.hid CI
              clear CI hi hie hmem
              go_wp2_with fail
              refine HCI.out.mono ?_
              rintro e w00 ⟨rfl, rfl⟩
              go_wp2_with fail
              have FC : Fr [] wr wr := Fr.refl _ _
              refine reg_fin (Fr (Value.slice ao rs.length po).ownBlock.toList wr) 19 [0, 1, 2, 3, 4, 5, 6, 7, 8, 9, 10, 11, 12, 13, 14, 15, 16, 17, 18, 19] (by kernel_rfl) (by kernel_rfl) (by kernel_rfl) rfl ?_
              have F0 : Fr [] wr wr.drew := FC.trans (Fr.drew _ _)
              have FD : Fr (Value.slice ao rs.length po).ownBlock.toList wr wr.drew := (FC.mono (by simp)).trans (Fr.drew _ _)
              generalize wr.drew = WD at F0 FD ⊢
              iterate 16 (refine fin_take (v := ?_) rfl rfl rfl rfl FD (fun w hS => ?_) ?_; rotate_left; (focus (have s1 := hS.cell cb N3.out; have s2 := hS.cell cx N4.out; have s3 := hS.cell e1 N2.out; have s4 := hS.cell e2 N2.out; clear hS; go_simp; rfl)); simp only [List.setIfInBounds_toArray, List.set_cons_succ, List.set_cons_zero])
              refine fin_do rfl rfl rfl (fun K hK => ?_)
              go_simp
              have FY := FD.trans (Fr.alloc (Value.slice ao rs.length po).ownBlock.toList WD (.cells #[.int .i64 (i : Int), .int .i64 rp, .int .i64 rf] 55))
              have FY0 := F0.trans (Fr.alloc [] WD (.cells #[.int .i64 (i : Int), .int .i64 rp, .int .i64 rf] 55))
              refine hK _ _ FY ?_
              clear hK K
              try simp only [Act.put, List.setIfInBounds_toArray, List.set_cons_succ, List.set_cons_zero]
              have HSr := srcAt_new WD #[.int .i64 (i : Int), .int .i64 rp, .int .i64 rf] 55
              generalize WD.alloc (.cells #[.int .i64 (i : Int), .int .i64 rp, .int .i64 rf] 55) = WY at *
              have X7 := H.out.same FY0
              refine fin_do (o := ⟨some 185, _, _, _, _, _⟩) rfl rfl rfl (fun K hK => ?_)
              refine wp_append_src (.tmp 169) (.tmp 184) 31 55 _ 3 24 rfl Try.underlying31 infoRp rfl (by decide) (.slice ao rs.length po) rs.length _ rfl X7.own.rps (.slice (some ⟨WD.heap.size, 0, none⟩) 1 1) 1 [.int .i64 (i : Int), .int .i64 rp, .int .i64 rf] rfl HSr rfl (by simp [Value.oneCell']) (by omega) (by omega) ?_
              intro ga cap8 W8 r8 f8 b8
              have F8 := FY.trans f8
              refine hK _ _ F8 ?_
              clear hK K
              try simp only [Act.put, List.setIfInBounds_toArray, List.set_cons_succ, List.set_cons_zero]
              (refine fin_take (v := ?_) rfl rfl rfl rfl F8 (fun w hS => ?_) ?_; rotate_left; (focus (have s1 := hS.cell cb N3.out; have s2 := hS.cell cx N4.out; have s3 := hS.cell e1 N2.out; have s4 := hS.cell e2 N2.out; clear hS; go_simp; rfl)); simp only [List.setIfInBounds_toArray, List.set_cons_succ, List.set_cons_zero])
              have P8 := X7.putRp (rs := [⟨i, rp, rf⟩]) r8 (by simp) (by simp [rpC]) f8 (own_new b8)
              have K8 := f8.keep X7.box (X7.beside.2.1 _ (.inr rfl))
              have t1 : W8.cell? ⟨w5.heap.size, 1, none⟩ = some (.slice ao rs.length po) := cell_of_blk K8 1
              have t2 : W8.frozen? ⟨w5.heap.size, 1, none⟩ = false := free_of_blk K8 1
              refine fin_last (o := ⟨none, _, _, _, _, _⟩) rfl rfl rfl (fun K hK => ?_)
              go_simp
              try go_upon
              try go_simp
              refine hK _ _ ?_
              clear hK K
              have HP8 := Lib.hid P8
              clear P8 K8 t1 t2 r8 f8 b8 X7 HSr FY FY0 F8 FD F0 FC
              clear cb cx e0 e1 e2
              go_wp2_with fail
              go_roundw
              case rel => exact ⟨k + 1, _, _, by omega, by go_num, by simp; omega, HS2, HP8⟩
              case measure => simp [intOf]; omega
            · have hi := idxP_not hmem
              have HS2 : Hid (rs = lessR C (c.rps.take (k + 1))) := Lib.hid (by rw [HSN.out, if_neg hmem, HZ.out])
              rw [hi] at CI
              have HCI := Lib.hid CI
              clear CI hi hmem
              go_wp2_with fail
              refine HCI.out.mono ?_
              rintro e w00 ⟨rfl, rfl⟩
              go_wp2_with fail
              go_roundw
              case rel => exact ⟨k + 1, _, rs, by omega, by go_num, by omega, HS2, H⟩
              case measure => simp [intOf]; omega
          · obtain rfl : k = c.rps.length := by omega
            clear LW
            go_wp2_with fail
            go_meet
            case rel => exact ⟨_, by rw [HZ.out, List.take_length] at H; exact H⟩
      case rest =>
        obtain ⟨vrx, H3⟩ := hcut
        obtain ⟨arx, prx, rfl⟩ := (sl_of_row H3.out.own.rps).val
        have hlR : (lessR C c.rps).length ≤ 3 := by have := lessR_len C c.rps c.rps.length; rw [List.take_length] at this; omega
        obtain ⟨w6, hw6⟩ : ∃ W : World, W = wc := ⟨_, rfl⟩
        rw [← hw6] at H3 ⊢
        clear hw6
        have RF6 := Lib.hid (sl_of_row (row_fr U5.out.r1 H3.out.fr (by simp)))
        have RC6 := Lib.hid (sl_of_row (row_fr U5.out.r2 H3.out.fr (by simp)))
        have RL6 := Lib.hid (sl_of_row (row_fr R5.out H3.out.fr (by simp)))
        go_upto_block 6 with fail
        go_cut [18] (fun v W => Hid (OF w6 v (l.map (moveF F C)) W))
        case first =>
          go_wp2_with fail
          go_loopw [18, 19] (fun v i wr => ∃ (k : Nat) (o : List Fd), k ≤ l.length ∧ i = .int .i64 k ∧ o.length = k ∧ Hid (o = (l.take k).map (moveF F C)) ∧ Hid (OF w6 v o wr)) (fun _ i _ => l.length - (intOf i).toNat)
          case atStart => exact ⟨0, [], Nat.zero_le _, rfl, rfl, Lib.hid rfl, Lib.hid (OF.start _ _ (Fr.refl _ _))⟩
          case round =>
            obtain ⟨k, o, hk, rfl, hok, HZ, H⟩ := hrel
            obtain ⟨ao, po, rfl⟩ := (sl_of_row H.out.row).val
            have HOK := Lib.hid hok
            have ho20 : o.length ≤ 20 := by omega
            clear hok
            by_cases hlt : k < l.length
            · obtain ⟨b, off, ha, hc⟩ := (RL6.out.same H.out.fr).at_ (by omega)
              subst ha
              have d0 := hc (k * 4 + 0) _ ((flat_get (enc := fdC) (k := 4) (fun _ => rfl) l k hlt 0 (by omega)).trans rfl)
              have d1 := hc (k * 4 + 1) _ ((flat_get (enc := fdC) (k := 4) (fun _ => rfl) l k hlt 1 (by omega)).trans rfl)
              have d2 := hc (k * 4 + 2) _ ((flat_get (enc := fdC) (k := 4) (fun _ => rfl) l k hlt 2 (by omega)).trans rfl)
              have d3 := hc (k * 4 + 3) _ ((flat_get (enc := fdC) (k := 4) (fun _ => rfl) l k hlt 3 (by omega)).trans rfl)
              simp only [Nat.add_zero, ← Nat.add_assoc] at d0 d1 d2 d3
              have HZ2 : Hid (o ++ [moveF F C l[k]] = (l.take (k + 1)).map (moveF F C)) := Lib.hid (by rw [map_snoc _ _ _ hlt, HZ.out])
              clear hc
              generalize l[k] = x at *
              obtain ⟨x0', x1', x2', x3'⟩ := x
              simp only at d0 d1 d2 d3
              have CF := Lib.hid fun (W : World) (hf : Fr [] wr W) => index8_c (.slice aF F.length pF) F x2' W ((RF6.out.same H.out.fr).same hf)
              have CC := Lib.hid fun (W : World) (hf : Fr [] wr W) => index8_c (.slice aC C.length pC) C x3' W ((RC6.out.same H.out.fr).same hf)
              rw [idxI_P] at CF CC
              obtain ⟨y2, hy2⟩ : ∃ y2, idxP F x2' = y2 := ⟨_, rfl⟩
              obtain ⟨y3, hy3⟩ : ∃ y3, idxP C x3' = y3 := ⟨_, rfl⟩
              rw [hy2] at CF
              rw [hy3] at CC
              have HZ3 : Hid (o ++ [⟨x0', x1', y2, y3⟩] = (l.take (k + 1)).map (moveF F C)) := Lib.hid (by rw [← HZ2.out, ← hy2, ← hy3]; rfl)
              clear hy2 hy3 HZ2
              go_wp2_with fail
              refine (CF.out _ (Fr.alloc _ _ _)).mono ?_
              rintro e w00 ⟨rfl, rfl⟩
              go_wp2_with fail
              refine (CC.out _ (Fr.alloc _ _ _)).mono ?_
              rintro e w00 ⟨rfl, rfl⟩
              clear d0 d1 d2 d3
              go_wp2_with (first | ((with_reducible refine wpList_of_wp (o := ⟨some 210, _, _, _, _, _⟩) rfl (fun K hK => ?_)); apply stop_in; case _other => exact trivial))
              (refine stop_in ?_ ?_; rotate_left; exact trivial)
              have HA := H.out.same (Fr.alloc [] wr (.cells #[.int .i64 x0', .bool x1', .int .i64 y2, .int .i64 y3] 63))
              have hsA : (wr.alloc (.cells #[.int .i64 x0', .bool x1', .int .i64 y2, .int .i64 y3] 63)).heap.size = wr.heap.size + 1 := Array.size_push ..
              refine wp_push_fd (.tmp 207) (.tmp 209) rfl _ o ⟨x0', x1', y2, y3⟩ HA rfl (by rw [hsA]; rfl) (by omega) ?_
              intro ga cap8 W8 H8
              refine hK _ _ ?_
              clear hK K HA hsA
              have HH8 := Lib.hid H8
              clear H8
              go_wp2_with fail
              go_roundw
              case rel => exact ⟨k + 1, _, by omega, by go_num, by rw [List.length_append, HOK.out]; rfl, HZ3, HH8⟩
              case measure => simp [intOf]; omega
            · obtain rfl : k = l.length := by omega
              go_wp2_with fail
              go_meet
              case rel => exact Lib.hid (by have e : o = l.map (moveF F C) := (by rw [HZ.out, List.take_length]); rw [← e]; exact H.out)
        case rest =>
          have H4 := hcut
          obtain ⟨ao, po, hv⟩ := (sl_of_row H4.out.row).val
          subst hv
          have X4 := Lib.hid (H3.out.same H4.out.fr)
          have L6 := Lib.hid (L5.out.same X4.out.fr)
          have ED : Hid (lessOf c F C = ⟨zs.map (·.x), lessR C c.rps, fx⟩) := Lib.hid (by rw [lessOf_eq, HZC.out, HFX.out])
          have I64D := Lib.hid (less_i64 L5.out.made.ok HSU.out.1 (by omega))
          rw [ED.out] at I64D LOK LKB
          obtain ⟨lo, elo⟩ : ∃ lo, decideL ⟨zs.map (·.x), lessR C c.rps, fx⟩ ⟨x0, x1, x2, x3⟩ = lo := ⟨_, rfl⟩
          have CD2 := Lib.hid (decide_ok (q := ⟨x0, x1, x2, x3⟩) (X4.out.own.at_ I64D.out) LOK.out.1 a lo LOK.out.2 elo)
          clear elo
          unfold rbV qnV at CD2
          simp only at CD2
          obtain ⟨_, e0, e1, e2, e3⟩ := L6.out.cells
          have g0 := cell_of_blk X4.out.box 0; have g1 := cell_of_blk X4.out.box 1; have g2 := cell_of_blk X4.out.box 2
          go_wp2_with fail
          refine CD2.out.mono ?_
          rintro e w7 ⟨f7, v7, rfl, r7, n7⟩
          clear e0 e1 e2 e3 g0 g1 g2 CD2
          obtain ⟨va7, vp7, rfl⟩ := (sl_of_row r7).val
          have L7 := Lib.hid (L6.out.same f7)
          have X7 := Lib.hid (X4.out.same f7)
          have CK := Lib.hid (check_c _ _ _ _ zs _ ⟨x0, x1, x2, x3⟩ a _ w7 (X7.out.own.at_ I64D.out) (sl_of_row (row_fr H4.out.row f7 (by simp))))
          rw [LKB.out] at CK
          unfold rbV qnV at CK
          simp only [List.length_map] at CK
          clear f7 r7 n7
          obtain ⟨_, e0, e1, e2, e3⟩ := L7.out.cells
          have g0 := cell_of_blk X7.out.box 0; have g1 := cell_of_blk X7.out.box 1; have g2 := cell_of_blk X7.out.box 2
          have haa : (a == a) = true := by cases a <;> rfl
          go_wp2_with fail
          refine CK.out.mono ?_
          rintro e w8 ⟨rfl, f8⟩
          clear e0 e1 e2 e3 g0 g1 g2 CK
          have F8 := Lib.hid ((F1.out.trans L7.out.fr).trans f8)
          clear f8
          go_wp2_with fail
          go_ret
          exact ⟨rfl, F8.out.below⟩

set_option maxRecDepth 100000 in
theorem walk_StatuteLeans {H : Type} {enc : TypeId × Value → H} {base : Nat} (W : World) {v0 v1 : Value} {d0 d1 : DataW H} {p0 p1 : List MemPlace} (k0 : Value.okWide Try.prog W .any base 25 v0) (h0 : DataW.Trod enc Try.prog W 0 (fun _ => true) true 25 v0 d0 p0) (k1 : Value.okWide Try.prog W .any base 26 v1) (h1 : DataW.Trod enc Try.prog W 0 (fun _ => true) true 26 v1 d1 p1) :
    Calls Try.prog 5 #[v0, v1] W fun e W' => e = .returned (.bool true) ∧ Below W.heap.size W W' := by
  obtain ⟨_, _, _, n1, n2, n3, is1, is2, is3, rfl, a1, a2, a3⟩ := open_numbers k0 h0
  obtain ⟨a, b, c, d, rfl, ha, hb, hc, hd⟩ := open_i4 k1 h1
  exact leans_c _ _ _ n1 n2 n3 is1 is2 is3 a b c d W a1 a2 a3 ha hb hc hd

end Go.Proofs.Ytljdenoheflkoaa
